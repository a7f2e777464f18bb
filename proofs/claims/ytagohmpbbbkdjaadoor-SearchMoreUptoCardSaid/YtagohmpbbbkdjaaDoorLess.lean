/- vars.Union, vars.Less: what each call returns; the order of models in plain Lean. Condition of Less: the table of TrailingZeros64. -/
import Derived.Test.YtagohmpbbbkdjaaDoorFirst
import Derived.Test.YtagohmpbbbkdjaaDoorVars2
import Derived.Test.YtagohmpbbbkdjaaDoorLeast
import Derived.BigQuiet
namespace Go.Proofs.YtagohmpbbbkdjaaDoor
set_option linter.unusedSimpArgs false
set_option linter.unusedVariables false
open Go.RowKit
set_option maxRecDepth 20000
set_option maxHeartbeats 1000000 in
theorem varsUnion_any (x y u v : Nat) (hx : x < 18446744073709551616) (hy : y < 18446744073709551616) (hu : u < 18446744073709551616) (hv : v < 18446744073709551616) (w : World) :
    Calls Tryd.prog 22 #[setV x y, setV u v] w fun e w' => e = .returned (setV (x ||| u) (y ||| v)) ∧ Ex w w' := by
  unfold setV
  have h1 := u64_or_nat x u hx hu
  have h2 := u64_or_nat y v hy hv
  clear hx hy hu hv
  generalize x ||| u = p at *
  generalize y ||| v = q at *
  go_enter Tryd.func22, Tryd.ntmps22
  go_wp2
  refine bodyPost_ret (v := .agg #[.int .u64 p, .int .u64 q]) (by simp [results, Tryd.results22, go_sem]) rfl ⟨rfl, ?_⟩
  repeat (first | exact Ex.refl _ | exact Ex.alloc _ _ | refine Ex.setCell ?_ (by simp) _ | refine Ex.alloc' ?_ _)
/-- What is in just one of two words. -/
def xorW (x u : Nat) : Nat := (x &&& (18446744073709551615 - u)) ||| (u &&& (18446744073709551615 - x))
theorem andW_lt {x u : Nat} (hx : x < 18446744073709551616) : x &&& (18446744073709551615 - u) < 18446744073709551616 := Nat.lt_of_le_of_lt Nat.and_le_left hx
theorem xorW_lt {x u : Nat} (hx : x < 18446744073709551616) (hu : u < 18446744073709551616) : xorW x u < 18446744073709551616 := by
  have h1 : x &&& (18446744073709551615 - u) < 2 ^ 64 := andW_lt hx
  have h2 : u &&& (18446744073709551615 - x) < 2 ^ 64 := andW_lt hu
  exact Nat.or_lt_two_pow h1 h2
theorem xorW_bit {x u i : Nat} (hx : x < 18446744073709551616) (hu : u < 18446744073709551616) (hi : i < 64) : (xorW x u).testBit i = (x.testBit i != u.testBit i) := by
  have e1 : 18446744073709551615 - u = 2 ^ 64 - (u + 1) := by omega
  have e2 : 18446744073709551615 - x = 2 ^ 64 - (x + 1) := by omega
  have hu' : u < 2 ^ 64 := hu
  have hx' : x < 2 ^ 64 := hx
  unfold xorW
  rw [e1, e2, Nat.testBit_or, Nat.testBit_and, Nat.testBit_and, Nat.testBit_two_pow_sub_succ hu', Nat.testBit_two_pow_sub_succ hx', decide_eq_true hi]
  cases x.testBit i <;> cases u.testBit i <;> rfl
theorem hasB_xor {x y u v : Nat} (hx : x < 18446744073709551616) (hy : y < 18446744073709551616) (hu : u < 18446744073709551616) (hv : v < 18446744073709551616) (k : Int) : hasB (xorW x u) (xorW y v) k = (hasB x y k != hasB u v k) := by
  by_cases h1 : 1 ≤ k
  · by_cases h2 : k ≤ 128
    · by_cases h3 : k ≤ 64
      · rw [hasB_fst _ _ h1 h3, hasB_fst _ _ h1 h3, hasB_fst _ _ h1 h3]
        exact xorW_bit hx hu (by omega)
      · rw [hasB_snd _ _ h2 h3, hasB_snd _ _ h2 h3, hasB_snd _ _ h2 h3]
        exact xorW_bit hy hv (by omega)
    · rw [hasB_high _ _ h2, hasB_high _ _ h2, hasB_high _ _ h2]; rfl
  · rw [hasB_low _ _ h1, hasB_low _ _ h1, hasB_low _ _ h1]; rfl
theorem ctz_bits {x : Nat} (h0 : x ≠ 0) (hx : x < 18446744073709551616) : Lib.ctz 64 x < 64 ∧ x.testBit (Lib.ctz 64 x) = true ∧ ∀ i, i < Lib.ctz 64 x → x.testBit i = false := by
  obtain ⟨m, hm, hk⟩ := Lib.ctzFrom_spec 64 x (by omega) hx
  have e : Lib.ctz 64 x = Lib.ctzFrom 64 x := by unfold Lib.ctz; rw [if_neg h0]
  rw [e]
  generalize Lib.ctzFrom 64 x = c at *
  subst hm
  refine ⟨hk, ?_, fun i hi => ?_⟩
  · rw [Nat.mul_comm, Nat.testBit_mul_two_pow]; simp
  · rw [Nat.mul_comm, Nat.testBit_mul_two_pow]; simp; omega
theorem firstV_nonneg (x y : Nat) : 0 ≤ firstV x y := by unfold firstV; split <;> (try split) <;> omega
/-- The least variable of a set. -/
theorem firstV_pos {x y : Nat} (hx : x < 18446744073709551616) (hy : y < 18446744073709551616) (h : 0 < firstV x y) : 1 ≤ firstV x y ∧ firstV x y ≤ 128 ∧ hasB x y (firstV x y) = true ∧ ∀ k : Int, 1 ≤ k → k < firstV x y → hasB x y k = false := by
  unfold firstV at *
  by_cases h0 : x = 0
  · subst h0
    rw [if_neg (by simp)] at h ⊢
    by_cases h1 : y = 0
    · subst h1; rw [if_neg (by simp)] at h; omega
    · rw [if_pos h1] at h ⊢
      obtain ⟨c1, c2, c3⟩ := ctz_bits h1 hy
      refine ⟨by omega, by omega, ?_, fun k k1 k2 => ?_⟩
      · rw [hasB_snd _ _ (by omega) (by omega), show ((64 + (Lib.ctz 64 y : Int) + 1 - 1) % 64).toNat = Lib.ctz 64 y by omega]; exact c2
      · by_cases k3 : k ≤ 64
        · rw [hasB_fst _ _ k1 k3]; simp
        · rw [hasB_snd _ _ (by omega) k3]; exact c3 _ (by omega)
  · rw [if_pos h0] at h ⊢
    obtain ⟨c1, c2, c3⟩ := ctz_bits h0 hx
    refine ⟨by omega, by omega, ?_, fun k k1 k2 => ?_⟩
    · rw [hasB_fst _ _ (by omega) (by omega), show (((Lib.ctz 64 x : Int) + 1 - 1) % 64).toNat = Lib.ctz 64 x by omega]; exact c2
    · rw [hasB_fst _ _ k1 (by omega)]; exact c3 _ (by omega)
/-- Does one set come before another one? -/
def lessB (x y u v : Nat) : Bool := decide (0 < firstV (xorW x u) (xorW y v)) && !hasB x y (firstV (xorW x u) (xorW y v))
theorem lessB_true {x y u v : Nat} (hx : x < 18446744073709551616) (hy : y < 18446744073709551616) (hu : u < 18446744073709551616) (hv : v < 18446744073709551616) (h : lessB x y u v = true) :
    ∃ k : Int, 1 ≤ k ∧ k ≤ 128 ∧ hasB x y k = false ∧ hasB u v k = true ∧ ∀ j : Int, 1 ≤ j → j < k → hasB x y j = hasB u v j := by
  unfold lessB at h
  rw [Bool.and_eq_true, decide_eq_true_eq, Bool.not_eq_true'] at h
  obtain ⟨h1, h2⟩ := h
  obtain ⟨a, b, c, d⟩ := firstV_pos (xorW_lt hx hu) (xorW_lt hy hv) h1
  refine ⟨_, a, b, h2, ?_, fun j j1 j2 => ?_⟩
  · rw [hasB_xor hx hy hu hv, h2] at c
    simpa using c
  · have := d j j1 j2
    rw [hasB_xor hx hy hu hv] at this
    simpa using this
theorem less_assign {n k m : Nat} (hn : n ≤ 128) (h : lessB (assign k n).1 (assign k n).2 (assign m n).1 (assign m n).2 = true) : k < 2 ^ n → m < 2 ^ n → k < m := by
  intro hk hm
  obtain ⟨a1, a2⟩ := assign_lt (k := k) hn
  obtain ⟨b1, b2⟩ := assign_lt (k := m) hn
  obtain ⟨v, v1, v2, h1, h2, h3⟩ := lessB_true a1 a2 b1 b2 h
  rw [hasB_assign hn] at h1 h2
  have hvn : v ≤ n := by
    simp only [Bool.and_eq_true, decide_eq_true_eq] at h2
    exact h2.1.2
  rw [decide_eq_true v1, decide_eq_true hvn, Bool.true_and, Bool.true_and] at h1 h2
  refine lt_of_bits (n - v.toNat) h1 h2 fun j hj => ?_
  by_cases hjn : j < n
  · have := h3 ((n - j : Nat) : Int) (by omega) (by omega)
    rw [hasB_assign hn, hasB_assign hn, decide_eq_true (by omega), decide_eq_true (by omega), Bool.true_and, Bool.true_and, show n - ((n - j : Nat) : Int).toNat = j by omega] at this
    exact this
  · rw [Nat.testBit_lt_two_pow (Nat.lt_of_lt_of_le hk (Nat.pow_le_pow_right (by decide) (by omega))), Nat.testBit_lt_two_pow (Nat.lt_of_lt_of_le hm (Nat.pow_le_pow_right (by decide) (by omega)))]
set_option maxRecDepth 100000 in
set_option maxHeartbeats 4000000 in
theorem varsLess_any (x y u v : Nat) (hx : x < 18446744073709551616) (hy : y < 18446744073709551616) (hu : u < 18446744073709551616) (hv : v < 18446744073709551616) (w : World) (hT : Tab w) :
    Calls Tryd.prog 8 #[setV x y, setV u v] w fun e w' => e = .returned (.bool (lessB x y u v)) ∧ Ex w w' := by
  unfold setV
  have H1 : Hid (∀ wa, Calls Tryd.prog 23 #[.agg #[.int .u64 x, .int .u64 y], .agg #[.int .u64 u, .int .u64 v]] wa fun e w' => e = .returned (.agg #[.int .u64 (x &&& (18446744073709551615 - u) : Nat), .int .u64 (y &&& (18446744073709551615 - v) : Nat)]) ∧ Ex wa w') := fun wa => varsMinus_any x y u v hx hy hu hv wa
  have H2 : Hid (∀ wa, Calls Tryd.prog 23 #[.agg #[.int .u64 u, .int .u64 v], .agg #[.int .u64 x, .int .u64 y]] wa fun e w' => e = .returned (.agg #[.int .u64 (u &&& (18446744073709551615 - x) : Nat), .int .u64 (v &&& (18446744073709551615 - y) : Nat)]) ∧ Ex wa w') := fun wa => varsMinus_any u v x y hu hv hx hy wa
  have H3 : Hid (∀ wa, Calls Tryd.prog 22 #[.agg #[.int .u64 (x &&& (18446744073709551615 - u) : Nat), .int .u64 (y &&& (18446744073709551615 - v) : Nat)], .agg #[.int .u64 (u &&& (18446744073709551615 - x) : Nat), .int .u64 (v &&& (18446744073709551615 - y) : Nat)]] wa fun e w' => e = .returned (.agg #[.int .u64 (xorW x u), .int .u64 (xorW y v)]) ∧ Ex wa w') := fun wa => varsUnion_any _ _ _ _ (andW_lt hx) (andW_lt hy) (andW_lt hu) (andW_lt hv) wa
  have H4 : Hid (∀ wa, Ex w wa → Calls Tryd.prog 21 #[.agg #[.int .u64 (xorW x u), .int .u64 (xorW y v)]] wa fun e w' => e = .returned (.int .i64 (firstV (xorW x u) (xorW y v))) ∧ Ex wa w') := fun wa hxa => varsFirst_any _ _ (xorW_lt hx hu) (xorW_lt hy hv) wa (hT.ex hxa)
  have H5 : Hid (∀ wa, Calls Tryd.prog 24 #[.agg #[.int .u64 x, .int .u64 y], .int .i64 (firstV (xorW x u) (xorW y v))] wa fun e w' => e = .returned (.bool (hasB x y (firstV (xorW x u) (xorW y v)))) ∧ Ex wa w') := fun wa => varsHas_any x y hx hy _ wa
  have HL : Hid (lessB x y u v = (decide (0 < firstV (xorW x u) (xorW y v)) && !hasB x y (firstV (xorW x u) (xorW y v)))) := rfl
  generalize lessB x y u v = LB at *
  generalize firstV (xorW x u) (xorW y v) = F at *
  generalize xorW x u = d1 at *
  generalize xorW y v = d2 at *
  generalize x &&& (18446744073709551615 - u) = m1 at *
  generalize y &&& (18446744073709551615 - v) = m2 at *
  generalize u &&& (18446744073709551615 - x) = m3 at *
  generalize v &&& (18446744073709551615 - y) = m4 at *
  generalize hasB x y F = HB at *
  clear hx hy hu hv hT
  have o1 := (OwnB.new w [.int .u64 x, .int .u64 y] 30).ex (Ex.alloc _ (.cells #[.int .u64 u, .int .u64 v] 30))
  have o2 := OwnB.new (w.alloc (.cells #[.int .u64 x, .int .u64 y] 30)) [.int .u64 u, .int .u64 v] 30
  have hxa : Ex w ((w.alloc (.cells #[.int .u64 x, .int .u64 y] 30)).alloc (.cells #[.int .u64 u, .int .u64 v] 30)) := ((Ex.refl w).alloc' _).alloc' _
  simp only [World.size_alloc] at o2
  go_enter Tryd.func8, Tryd.ntmps8
  go_wp2
  generalize (w.alloc (.cells #[.int .u64 x, .int .u64 y] 30)).alloc (.cells #[.int .u64 u, .int .u64 v] 30) = w1 at *
  have HXw : Hid (Ex w w1) := hxa
  have c0 : w1.cell? ⟨w.heap.size, 0, none⟩ = some (.int .u64 x) := o1.cell 0
  have c1 : w1.cell? ⟨w.heap.size, 1, none⟩ = some (.int .u64 y) := o1.cell 1
  have z1 := o1.lt
  have b0 : w1.cell? ⟨w.heap.size + 1, 0, none⟩ = some (.int .u64 u) := o2.cell 0
  have b1 : w1.cell? ⟨w.heap.size + 1, 1, none⟩ = some (.int .u64 v) := o2.cell 1
  have z2 := o2.lt
  have e0 : ∀ m, (World.ext w1 m).cell? ⟨w.heap.size, 0, none⟩ = some (.int .u64 x) := fun m => ext_cell c0 m
  have e1 : ∀ m, (World.ext w1 m).cell? ⟨w.heap.size, 1, none⟩ = some (.int .u64 y) := fun m => ext_cell c1 m
  have e2 : ∀ m, (World.ext w1 m).cell? ⟨w.heap.size + 1, 0, none⟩ = some (.int .u64 u) := fun m => ext_cell b0 m
  have e3 : ∀ m, (World.ext w1 m).cell? ⟨w.heap.size + 1, 1, none⟩ = some (.int .u64 v) := fun m => ext_cell b1 m
  clear hxa
  refine wp_region_quiet_ext (by kernel_rfl) (by kernel_rfl) ?_
  repeat (go_big_quiet_step ((first | (go_at_call 23; with_reducible exact Calls.quiet_ext (H1.out _)) | (go_at_call 23; with_reducible exact Calls.quiet_ext (H2.out _)) | (go_at_call 22; exact Calls.quiet_ext (H3.out _)) | (go_at_call 21; exact Calls.quiet_ext (H4.out _ (HXw.out.trans (ex_ext _ _)))) | fail)))
  refine wpQuiet_nil ?_
  intro w2 hx2
  clear c0 c1 z1 b0 b1 z2 H1 H2 H3 H4 e0 e1 e2 e3
  have c0 := (o1.ex hx2).cell 0
  have c1 := (o1.ex hx2).cell 1
  have z1 := (o1.ex hx2).lt
  by_cases hF : 0 < F
  · go_wp2_with fail
    refine Calls.mono (H5.out _) ?_
    rintro e w3 ⟨rfl, hx3⟩
    go_wp2
    go_ret
    exact ⟨ret_bool (by rw [HL.out, decide_eq_true hF, Bool.true_and]), (HXw.out.trans hx2).trans hx3⟩
  · go_wp2
    go_ret
    exact ⟨ret_bool (by rw [HL.out, decide_eq_false (by omega), Bool.false_and]), HXw.out.trans hx2⟩
end Go.Proofs.YtagohmpbbbkdjaaDoor
