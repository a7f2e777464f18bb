/- Literals compared, lists of literals checked, opposite neighbours: what each call returns; old memory stays. -/
import Derived.Test.YtlaejhmpnlcceaaTruth
import Derived.Test.YtlaejhmpnlcceaaOrder
namespace Go.Proofs.Ytlaejhmpnlcceaa
set_option linter.unusedSimpArgs false
set_option linter.unusedVariables false
open Go.RowKit

set_option maxHeartbeats 1000000 in
theorem litCompare_any (a b : Int) (ha : litVar a ≠ 0) (hb : litVar b ≠ 0) (w : World) :
    Calls Try.prog 61 #[.int .i64 a, .int .i64 b] w fun e w' => e = .returned (.int .i64 (litCmp a b)) ∧ w = w' := by
  have HA : Hid (∀ wa, Calls Try.prog 46 #[.int .i64 a] wa fun e w' => e = .returned (.int .i64 (litVar a)) ∧ wa = w') := fun wa => litVar_any a wa
  have HB : Hid (∀ wa, Calls Try.prog 46 #[.int .i64 b] wa fun e w' => e = .returned (.int .i64 (litVar b)) ∧ wa = w') := fun wa => litVar_any b wa
  have ra := litVar_range a
  have rb := litVar_range b
  have qa : -128 ≤ a ∧ a ≤ 128 := by unfold litVar at ha; (repeat' split at ha) <;> omega
  have qb : -128 ≤ b ∧ b ≤ 128 := by unfold litVar at hb; (repeat' split at hb) <;> omega
  obtain ⟨ra1, ra2⟩ := ra
  obtain ⟨rb1, rb2⟩ := rb
  obtain ⟨qa1, qa2⟩ := qa
  obtain ⟨qb1, qb2⟩ := qb
  by_cases he : litVar a = litVar b
  · have hne : (litVar a != litVar b) = false := by simp only [bne_eq_false_iff_eq]; exact he
    have e1 : litCmp a b = a - b := if_pos he
    rw [e1]
    clear ha hb he e1
    generalize litVar a = x at *
    generalize litVar b = y at *
    go_enter Try.func61, Try.ntmps61
    go_wp2_with fail
    refine (HA.out _).mono ?_
    rintro e w' ⟨rfl, rfl⟩
    go_wp2_with fail
    refine (HB.out _).mono ?_
    rintro e w' ⟨rfl, rfl⟩
    go_wp2
    go_ret
    exact ⟨rfl, rfl⟩
  · have hne : (litVar a != litVar b) = true := by simp only [bne_iff_ne]; exact he
    have e1 : litCmp a b = litVar a - litVar b := if_neg he
    rw [e1]
    clear ha hb he e1
    generalize litVar a = x at *
    generalize litVar b = y at *
    go_enter Try.func61, Try.ntmps61
    go_wp2_with fail
    refine (HA.out _).mono ?_
    rintro e w' ⟨rfl, rfl⟩
    go_wp2_with fail
    refine (HB.out _).mono ?_
    rintro e w' ⟨rfl, rfl⟩
    go_wp2
    go_ret
    exact ⟨rfl, rfl⟩
set_option maxHeartbeats 1000000 in
theorem litOrder1_any (a b : Int) (ha : litVar a ≠ 0) (hb : litVar b ≠ 0) (w : World) :
    Calls Try.prog 60 #[.int .i64 a, .int .i64 b] w fun e w' => e = .returned (.int .i64 (litCmp a b)) ∧ w = w' := by
  have HC : Hid (∀ wa, Calls Try.prog 61 #[.int .i64 a, .int .i64 b] wa fun e w' => e = .returned (.int .i64 (litCmp a b)) ∧ wa = w') := fun wa => litCompare_any a b ha hb wa
  clear ha hb
  generalize litCmp a b = r at *
  go_enter Try.func60, Try.ntmps60
  go_wp2_with (go_at_call 61; refine (HC.out _).mono ?_; rintro e w' ⟨rfl, rfl⟩)
  go_ret
  exact ⟨rfl, rfl⟩
set_option maxHeartbeats 1000000 in
theorem litValid1_any (l n : Int) (B : Nat) (w : World) (s0 : w.cell? ⟨B, 0, none⟩ = some (.int .i64 n)) :
    Calls Try.prog 57 #[.int .i64 l, .pointer (some ⟨B, 0, none⟩)] w fun e w' => e = .returned (.bool (!litValid l n)) ∧ Ex w w' := by
  have HH : Hid (∀ wa, Calls Try.prog 30 #[.int .i64 l, .int .i64 n] wa fun e w' => e = .returned (.bool (litValid l n)) ∧ wa = w') := fun wa => litValid_any l n wa
  generalize litValid l n = r at *
  go_enter Try.func57, Try.ntmps57
  go_wp2_with fail
  refine (HH.out _).mono ?_
  rintro e w2 ⟨rfl, rfl⟩
  go_wp2
  go_ret
  exact ⟨rfl, Ex.refl _⟩
set_option maxHeartbeats 1000000 in
theorem litValidAll_any (lv : Value) (l : List Int) (n : Int) (w : World) (hl : IntsAt w lv l) :
    Calls Try.prog 51 #[lv, .int .i64 n] w fun e w' => e = .returned (.bool (l.all (litValid · n))) ∧ Ex w w' := by
  have oS := OwnB.new w [.int .i64 n] 3
  have hxs := Ex.alloc w (.cells #[.int .i64 n] 3)
  have hC := has_lit_valid1 lv (.pointer (some ⟨w.heap.size, 0, none⟩)) l (fun u => !litValid u n) (w.alloc (.cells #[.int .i64 n] 3)) (hl.ex hxs)
    (fun wa u _ hx' => litValid1_any u n w.heap.size wa (by have := (oS.ex hx').cell 0; exact this))
  have HC : Hid _ := hC
  have HE : Hid ((!l.any (fun u => !litValid u n)) = l.all (litValid · n)) := by show _ = _; rw [List.all_eq_not_any_not]
  obtain ⟨a, cap, rfl, _, _, _⟩ := hl
  clear hC oS
  generalize l.all (litValid · n) = R at *
  generalize l.any (fun u => !litValid u n) = R' at *
  go_enter Try.func51, Try.ntmps51
  go_wp2_with fail
  refine Calls.mono HC.out ?_
  rintro e w2 ⟨rfl, hx2⟩
  go_wp2
  go_ret
  exact ⟨by first | rfl | exact ret_bool HE.out, hxs.trans hx2⟩
/-- Are there opposite neighbours? -/
def oppB (l : List Int) : Bool := (List.range l.length).any fun i => decide (1 ≤ i) && (l.getD i 0 == -(l.getD (i - 1) 0))
set_option maxHeartbeats 1000000 in
theorem litOpposite_any (lv : Value) (l : List Int) (w : World) (hl : IntsAt w lv l) (hv : ∀ x ∈ l, litVar x ≠ 0) :
    Calls Try.prog 53 #[lv] w fun e w' => e = .returned (.bool (oppB l)) ∧ Ex w w' := by
  have hl0 := hl
  obtain ⟨a, cap, rfl, h1, h2, h3⟩ := hl
  unfold maxLen at h2
  clear h3
  have HV : Hid (∀ j, j < l.length → -128 ≤ l.getD j 0 ∧ l.getD j 0 ≤ 128) := fun j hj => by
    have := hv _ (show l.getD j 0 ∈ l by rw [getD_getElem hj]; exact List.getElem_mem hj)
    unfold litVar at this
    (repeat' split at this) <;> omega
  have HY : Hid (∀ k, 1 ≤ k → k < l.length → l.getD k 0 = -(l.getD (k - 1) 0) → oppB l = true) := fun k h1 h2 h3 => by
    unfold oppB
    rw [List.any_eq_true]
    exact ⟨k, List.mem_range.2 h2, by simp only [h1, decide_true, Bool.true_and, beq_iff_eq]; exact h3⟩
  have HN : Hid ((∀ k, 1 ≤ k → k < l.length → ¬ l.getD k 0 = -(l.getD (k - 1) 0)) → oppB l = false) := fun h => by
    unfold oppB
    rw [List.any_eq_false]
    intro k hk
    rw [List.mem_range] at hk
    by_cases h1 : 1 ≤ k
    · simp only [h1, decide_true, Bool.true_and, beq_iff_eq]; exact h k h1 hk
    · simp [h1]
  clear hv
  generalize oppB l = B at *
  go_enter Try.func53, Try.ntmps53
  go_wp2
  go_loopw [3] (fun i wr => ∃ k : Nat, 1 ≤ k ∧ (k ≤ l.length ∨ k = 1) ∧ i = .int .i64 k ∧ Hid (∀ j, 1 ≤ j → j < k → j < l.length → ¬ l.getD j 0 = -(l.getD (j - 1) 0)) ∧ Ex w wr) (fun i _ => l.length - (intOf i).toNat)
  case atStart => exact ⟨1, Nat.le_refl _, .inr rfl, rfl, fun j h1 h2 => (by omega), Ex.refl _⟩
  case round =>
    obtain ⟨k, hk1, hk, rfl, hd, hxr⟩ := hrel
    by_cases hlt : k < l.length
    · obtain ⟨_, _, hv, _, _, h3⟩ := hl0.ex hxr
      cases hv
      obtain ⟨b, off, rfl, hb, hc⟩ := h3 k hlt
      obtain ⟨b', off', hbo, _, hc'⟩ := h3 (k - 1) (by omega)
      cases hbo
      clear h3
      have ek : ((k : Int) - 1) = ((k - 1 : Nat) : Int) := by omega
      have ek2 : IntKind.i64.wrap ((k : Int) - 1) = ((k - 1 : Nat) : Int) := by rw [ek]; exact IntWalk.i64_in _ (by omega)
      have q1 : (k : Int) < (l.length : Int) := by omega
      have q2 : ((k - 1 : Nat) : Int) < (l.length : Int) := by omega
      have q3 : (0 : Int) ≤ ((k - 1 : Nat) : Int) := by omega
      obtain ⟨r1, r2⟩ := HV.out (k - 1) (by omega)
      by_cases he : l.getD k 0 = -(l.getD (k - 1) 0)
      · have hB : Hid (B = true) := HY.out k hk1 hlt he
        have he' : (l.getD k 0 == -(l.getD (k - 1) 0)) = true := by simp only [beq_iff_eq]; exact he
        clear hd he HY HN
        generalize l.getD k 0 = x at *
        generalize l.getD (k - 1) 0 = y at *
        generalize k - 1 = k1 at *
        have hcx := ext_cell hc
        have gcx := ext_cell hc'
        go_wp2
        refine wp_region_quiet_ext (by kernel_rfl) (by kernel_rfl) ?_
        repeat (go_big_quiet_step ((fail)))
        refine wpQuiet_nil ?_
        intro w8 hx8
        go_wp2
        go_ret
        exact ⟨ret_bool hB.out.symm, hxr.trans hx8⟩
      · have hd2 : Hid (∀ j, 1 ≤ j → j < k + 1 → j < l.length → ¬ l.getD j 0 = -(l.getD (j - 1) 0)) := fun j h1 h2 h3 => by
          by_cases hjk : j = k
          · subst hjk; exact he
          · exact hd.out j h1 (by omega) h3
        have he' : (l.getD k 0 == -(l.getD (k - 1) 0)) = false := by simp only [beq_eq_false_iff_ne]; exact he
        clear hd he HY
        generalize l.getD k 0 = x at *
        generalize l.getD (k - 1) 0 = y at *
        generalize k - 1 = k1 at *
        have hcx := ext_cell hc
        have gcx := ext_cell hc'
        go_wp2
        refine wp_region_quiet_ext (by kernel_rfl) (by kernel_rfl) ?_
        repeat (go_big_quiet_step ((fail)))
        refine wpQuiet_nil ?_
        intro w8 hx8
        go_wp2
        go_roundw
        case rel => exact ⟨k + 1, by omega, .inl (by omega), by go_num, hd2, hxr.trans hx8⟩
        case measure => simp [intOf]; omega
    · have hB : Hid (B = false) := HN.out fun j h1 h2 => hd.out j h1 (by omega) h2
      clear hd HY HN
      go_wp2
      go_ret
      exact ⟨ret_bool hB.out.symm, hxr⟩
end Go.Proofs.Ytlaejhmpnlcceaa
