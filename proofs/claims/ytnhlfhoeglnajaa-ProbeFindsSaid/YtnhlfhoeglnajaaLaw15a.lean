/- Chapter 15: whether a theory is looked at; the chapter's theory, its examples (works). No condition. -/
import Derived.Test.YtnhlfhoeglnajaaEqual
import Derived.Test.YtnhlfhoeglnajaaProbe2
import Derived.Test.YtnhlfhoeglnajaaBones2
import Derived.Test.YtnhlfhoeglnajaaRef15
namespace Go.Proofs.Ytnhlfhoeglnajaa
set_option linter.unusedSimpArgs false
set_option linter.unusedVariables false
open Go.RowKit
set_option maxRecDepth 20000
theorem rowsAt_of {w : World} {g : Nat} {t : TypeId} {cs : List Value} {ll : List (List Int)} (h : OwnB w g cs t) (hl : cs.length = ll.length) (hm : ll.length ≤ maxLen)
    (hr : ∀ k, k < ll.length → ∃ rv, cs[k]? = some rv ∧ IntsAt w rv (ll.getD k [])) : RowsAt w (.slice (some ⟨g, 0, none⟩) ll.length ll.length) ll :=
  ⟨_, _, rfl, Nat.le_refl _, hm, fun k hk => by
    obtain ⟨rv, h1, h2⟩ := hr k hk
    exact ⟨g, 0, rv, rfl, h.lt, by rw [Nat.zero_add, h.cell]; exact h1, h2⟩⟩
theorem litAtN (w : World) (l : List Int) (t : TypeId) (hm : l.length ≤ maxLen) : IntsAt (w.alloc (.cells (intsV l).toArray t)) (.slice (some ⟨w.heap.size, 0, none⟩) l.length l.length) l := intsAt_of_block (OwnB.new w (intsV l) t) hm
/-- What a test of sizes says. -/
def LightRet (w : World) (ll : List (List Int)) (e : Ending) (w' : World) : Prop := ∃ b : Bool, e = .returned (.bool b) ∧ (b = true → ll.length ≤ 60 ∧ ∀ c ∈ ll, c.length ≤ 140) ∧ Ex w w'
theorem light_all {ll : List (List Int)} {m : Nat} (h : ∀ j, j < ll.length → (ll.getD j []).length ≤ m) : ∀ c ∈ ll, c.length ≤ m := fun c hc => by
  obtain ⟨k, hk, rfl⟩ := List.getElem_of_mem hc
  have := h k hk
  rwa [getD_getElem hk] at this
set_option maxHeartbeats 1000000 in
theorem light05_any (n : Int) (lv : Value) (ll : List (List Int)) (w : World) (hR : RowsAt w lv ll) :
    Calls Try.prog 36 #[.agg #[.int .i64 n, lv]] w (LightRet w ll) := by
  have hR0 := hR
  obtain ⟨ra, rcap, rfl, r1, r2, r3⟩ := hR
  unfold maxLen at r2
  clear r3
  have HL : Hid ((∀ j, j < ll.length → (ll.getD j []).length ≤ 140) → ∀ c ∈ ll, c.length ≤ 140) := light_all
  go_enter Try.func36, Try.ntmps36
  go_wp2
  generalize hwa : w.alloc (.cells #[.int .i64 n, .slice ra ll.length rcap] 24) = wa
  have hxa : Ex w wa := hwa ▸ Ex.alloc _ _
  have c1 : wa.cell? ⟨w.heap.size, 1, none⟩ = some (.slice ra ll.length rcap) := by rw [← hwa]; simp
  have z1 : w.heap.size < wa.heap.size := cell_lt c1
  clear hwa
  go_loop [8] (fun i => ∃ k : Nat, k ≤ ll.length ∧ i = .int .i64 k ∧ Hid (∀ j, j < k → (ll.getD j []).length ≤ 140)) (fun i => ll.length - (intOf i).toNat)
  case atStart => exact ⟨0, Nat.zero_le _, rfl, fun j hj => (by omega)⟩
  case round =>
    obtain ⟨k, hk, rfl, hd⟩ := hrel
    by_cases hlt : k < ll.length
    · obtain ⟨_, _, hv, _, _, h3⟩ := hR0.ex hxa
      cases hv
      obtain ⟨b, off, rv, rfl, hb, hcell, hrow⟩ := h3 k hlt
      obtain ⟨ca, ccap, rfl, q1, q2, _⟩ := hrow
      clear h3
      unfold maxLen at q2
      by_cases h140 : (ll.getD k []).length ≤ 140
      · have hd2 : Hid (∀ j, j < k + 1 → (ll.getD j []).length ≤ 140) := fun j hj => by
          by_cases e : j = k
          · subst e; exact h140
          · exact hd.out j (by omega)
        clear hd
        generalize (ll.getD k []).length = cl at *
        go_wp2
        go_round
        case rel => exact ⟨k + 1, by omega, by go_num, hd2⟩
        case measure => simp [intOf]; omega
      · generalize (ll.getD k []).length = cl at *
        go_wp2
        go_ret
        exact ⟨_, rfl, fun h => (by cases h), hxa⟩
    · have hall := HL.out fun j hj => hd.out j (by omega)
      have HA : Hid _ := hall
      clear hall hd HL
      by_cases h1 : ll.length ≤ 60
      · go_wp2
        go_ret
        exact ⟨_, rfl, fun _ => ⟨h1, HA.out⟩, hxa⟩
      · go_wp2
        go_ret
        refine ⟨_, rfl, fun h => ?_, hxa⟩
        exfalso
        first | (cases h; done) | (simp at h; omega)
def SmallRet (w : World) (n : Int) (ll : List (List Int)) (e : Ending) (w' : World) : Prop := ∃ b : Bool, e = .returned (.bool b) ∧ (b = true → (ll.length ≤ 60 ∧ ∀ c ∈ ll, c.length ≤ 140) ∧ (theoryErr n ll = 0 → n ≤ 9)) ∧ Ex w w'
set_option maxHeartbeats 2000000 in
theorem small15_any (n : Int) (lv : Value) (ll : List (List Int)) (w : World) (hR : RowsAt w lv ll) :
    Calls Try.prog 13 #[.agg #[.int .i64 n, lv]] w (SmallRet w n ll) := by
  have hR0 := hR
  have HL : Hid (∀ wa, Ex w wa → Calls Try.prog 36 #[.agg #[.int .i64 n, lv]] wa (LightRet wa ll)) := fun wa hx => light05_any n lv ll wa (hR.ex hx)
  have HC : Hid (∀ wa, Ex w wa → Calls Try.prog 37 #[.agg #[.int .i64 n, lv]] wa fun e w' => e = .returned (.int .i64 (theoryErr n ll)) ∧ Ex wa w') := fun wa hx => r05Check_any n lv ll wa (hR.ex hx)
  obtain ⟨ra, rcap, rfl, r1, r2, r3⟩ := hR
  unfold maxLen at r2
  clear r3
  have hbox := OwnB.new w [.int .i64 n, .slice ra ll.length rcap] 24
  have hxa := Ex.alloc w (.cells #[.int .i64 n, .slice ra ll.length rcap] 24)
  go_enter Try.func13, Try.ntmps13
  go_wp2_with fail
  refine (HL.out _ hxa).mono ?_
  rintro e w2 ⟨b, rfl, hb, hx2⟩
  have hB : Hid _ := hb
  clear hb HL
  have c0 := (hbox.ex hx2).cell 0
  have c1 := (hbox.ex hx2).cell 1
  have z1 := (hbox.ex hx2).lt
  cases b with
  | false =>
    go_wp2
    go_ret
    exact ⟨_, rfl, fun h => (by cases h), hxa.trans hx2⟩
  | true =>
    go_wp2_with fail
    refine (HC.out _ (hxa.trans hx2)).mono ?_
    rintro e w3 ⟨rfl, hx3⟩
    clear c0 c1 z1 HC
    have hx23 := hx2.trans hx3
    have c0 := (hbox.ex hx23).cell 0
    have c1 := (hbox.ex hx23).cell 1
    have z1 := (hbox.ex hx23).lt
    have HE : Hid (theoryErr n ll = theoryErr n ll) := rfl
    by_cases he : theoryErr n ll = 0
    rotate_left
    · have he' : (theoryErr n ll != 0) = true := by simp [he]
      have hE : Hid (theoryErr n ll ≠ 0) := he
      clear he
      generalize theoryErr n ll = ER at he' ⊢
      clear HE
      go_wp2
      go_ret
      exact ⟨_, rfl, fun _ => ⟨hB.out (by trivial), fun h => absurd h hE.out⟩, hxa.trans hx23⟩
    rw [he]
    have hE : Hid (theoryErr n ll = 0) := he
    clear he HE
    go_wp2
    go_loop [14] (fun i => ∃ k : Nat, k ≤ ll.length ∧ i = .int .i64 k) (fun i => ll.length - (intOf i).toNat)
    case atStart => exact ⟨0, Nat.zero_le _, rfl⟩
    case round =>
      obtain ⟨k, hk, rfl⟩ := hrel
      by_cases hlt : k < ll.length
      · obtain ⟨_, _, hv, _, _, h3⟩ := (hR0.ex hxa).ex hx23
        cases hv
        obtain ⟨b, off, rv, rfl, hb, hcell, hrow⟩ := h3 k hlt
        obtain ⟨ca, ccap, rfl, q1, q2, _⟩ := hrow
        clear h3
        unfold maxLen at q2
        by_cases h12 : (ll.getD k []).length ≤ 12
        · generalize (ll.getD k []).length = cl at *
          go_wp2
          go_round
          case rel => exact ⟨k + 1, by omega, by go_num⟩
          case measure => simp [intOf]; omega
        · generalize (ll.getD k []).length = cl at *
          go_wp2
          go_ret
          exact ⟨_, rfl, fun h => (by cases h), hxa.trans hx23⟩
      · by_cases h1 : n ≤ 9
        · go_wp2
          go_ret
          exact ⟨_, rfl, fun _ => ⟨hB.out (by trivial), fun _ => h1⟩, hxa.trans hx23⟩
        · go_wp2
          go_ret
          exact ⟨_, rfl, fun h => (by first | (cases h; done) | (simp at h; omega) | (simp at h)), hxa.trans hx23⟩
abbrev ex15 : List (List Int) := [[1, 2], [1, -2], [-1, 3, 4], [-1, 3, -4], [5, -6], [-5, 6]]
set_option maxHeartbeats 2000000 in
theorem chapter15_any (w : World) : Calls Try.prog 32 #[] w fun e w' => ∃ lv, e = .returned (.agg #[.int .i64 6, lv]) ∧ RowsAt w' lv ex15 ∧ Ex w w' := by
  have o0 := OwnB.new w [.int .i64 6, .slice (some ⟨w.heap.size + 1 + 1 + 1 + 1 + 1 + 1 + 1, 0, none⟩) 6 6] 24
  have o1 := OwnB.new (w.alloc (.cells #[.int .i64 6, .slice (some ⟨w.heap.size + 1 + 1 + 1 + 1 + 1 + 1 + 1, 0, none⟩) 6 6] 24)) [.int .i64 1, .int .i64 2] 3
  have o2 := OwnB.new ((w.alloc (.cells #[.int .i64 6, .slice (some ⟨w.heap.size + 1 + 1 + 1 + 1 + 1 + 1 + 1, 0, none⟩) 6 6] 24)).alloc (.cells #[.int .i64 1, .int .i64 2] 3)) [.int .i64 1, .int .i64 (-2)] 3
  have o3 := OwnB.new (((w.alloc (.cells #[.int .i64 6, .slice (some ⟨w.heap.size + 1 + 1 + 1 + 1 + 1 + 1 + 1, 0, none⟩) 6 6] 24)).alloc (.cells #[.int .i64 1, .int .i64 2] 3)).alloc (.cells #[.int .i64 1, .int .i64 (-2)] 3)) [.int .i64 (-1), .int .i64 3, .int .i64 4] 3
  have o4 := OwnB.new ((((w.alloc (.cells #[.int .i64 6, .slice (some ⟨w.heap.size + 1 + 1 + 1 + 1 + 1 + 1 + 1, 0, none⟩) 6 6] 24)).alloc (.cells #[.int .i64 1, .int .i64 2] 3)).alloc (.cells #[.int .i64 1, .int .i64 (-2)] 3)).alloc (.cells #[.int .i64 (-1), .int .i64 3, .int .i64 4] 3)) [.int .i64 (-1), .int .i64 3, .int .i64 (-4)] 3
  have o5 := OwnB.new (((((w.alloc (.cells #[.int .i64 6, .slice (some ⟨w.heap.size + 1 + 1 + 1 + 1 + 1 + 1 + 1, 0, none⟩) 6 6] 24)).alloc (.cells #[.int .i64 1, .int .i64 2] 3)).alloc (.cells #[.int .i64 1, .int .i64 (-2)] 3)).alloc (.cells #[.int .i64 (-1), .int .i64 3, .int .i64 4] 3)).alloc (.cells #[.int .i64 (-1), .int .i64 3, .int .i64 (-4)] 3)) [.int .i64 5, .int .i64 (-6)] 3
  have o6 := OwnB.new ((((((w.alloc (.cells #[.int .i64 6, .slice (some ⟨w.heap.size + 1 + 1 + 1 + 1 + 1 + 1 + 1, 0, none⟩) 6 6] 24)).alloc (.cells #[.int .i64 1, .int .i64 2] 3)).alloc (.cells #[.int .i64 1, .int .i64 (-2)] 3)).alloc (.cells #[.int .i64 (-1), .int .i64 3, .int .i64 4] 3)).alloc (.cells #[.int .i64 (-1), .int .i64 3, .int .i64 (-4)] 3)).alloc (.cells #[.int .i64 5, .int .i64 (-6)] 3)) [.int .i64 (-5), .int .i64 6] 3
  have o7 := OwnB.new (((((((w.alloc (.cells #[.int .i64 6, .slice (some ⟨w.heap.size + 1 + 1 + 1 + 1 + 1 + 1 + 1, 0, none⟩) 6 6] 24)).alloc (.cells #[.int .i64 1, .int .i64 2] 3)).alloc (.cells #[.int .i64 1, .int .i64 (-2)] 3)).alloc (.cells #[.int .i64 (-1), .int .i64 3, .int .i64 4] 3)).alloc (.cells #[.int .i64 (-1), .int .i64 3, .int .i64 (-4)] 3)).alloc (.cells #[.int .i64 5, .int .i64 (-6)] 3)).alloc (.cells #[.int .i64 (-5), .int .i64 6] 3)) [.slice (some ⟨w.heap.size + 1, 0, none⟩) 2 2, .slice (some ⟨w.heap.size + 1 + 1, 0, none⟩) 2 2, .slice (some ⟨w.heap.size + 1 + 1 + 1, 0, none⟩) 3 3, .slice (some ⟨w.heap.size + 1 + 1 + 1 + 1, 0, none⟩) 3 3, .slice (some ⟨w.heap.size + 1 + 1 + 1 + 1 + 1, 0, none⟩) 2 2, .slice (some ⟨w.heap.size + 1 + 1 + 1 + 1 + 1 + 1, 0, none⟩) 2 2] 25
  simp only [alloc_size] at o1 o2 o3 o4 o5 o6 o7
  replace o0 := o0.ex (Ex.alloc _ (.cells #[.int .i64 1, .int .i64 2] 3))
  replace o0 := o0.ex (Ex.alloc _ (.cells #[.int .i64 1, .int .i64 (-2)] 3))
  replace o0 := o0.ex (Ex.alloc _ (.cells #[.int .i64 (-1), .int .i64 3, .int .i64 4] 3))
  replace o0 := o0.ex (Ex.alloc _ (.cells #[.int .i64 (-1), .int .i64 3, .int .i64 (-4)] 3))
  replace o0 := o0.ex (Ex.alloc _ (.cells #[.int .i64 5, .int .i64 (-6)] 3))
  replace o0 := o0.ex (Ex.alloc _ (.cells #[.int .i64 (-5), .int .i64 6] 3))
  replace o0 := o0.ex (Ex.alloc _ (.cells #[.slice (some ⟨w.heap.size + 1, 0, none⟩) 2 2, .slice (some ⟨w.heap.size + 1 + 1, 0, none⟩) 2 2, .slice (some ⟨w.heap.size + 1 + 1 + 1, 0, none⟩) 3 3, .slice (some ⟨w.heap.size + 1 + 1 + 1 + 1, 0, none⟩) 3 3, .slice (some ⟨w.heap.size + 1 + 1 + 1 + 1 + 1, 0, none⟩) 2 2, .slice (some ⟨w.heap.size + 1 + 1 + 1 + 1 + 1 + 1, 0, none⟩) 2 2] 25))
  replace o1 := o1.ex (Ex.alloc _ (.cells #[.int .i64 1, .int .i64 (-2)] 3))
  replace o1 := o1.ex (Ex.alloc _ (.cells #[.int .i64 (-1), .int .i64 3, .int .i64 4] 3))
  replace o1 := o1.ex (Ex.alloc _ (.cells #[.int .i64 (-1), .int .i64 3, .int .i64 (-4)] 3))
  replace o1 := o1.ex (Ex.alloc _ (.cells #[.int .i64 5, .int .i64 (-6)] 3))
  replace o1 := o1.ex (Ex.alloc _ (.cells #[.int .i64 (-5), .int .i64 6] 3))
  replace o1 := o1.ex (Ex.alloc _ (.cells #[.slice (some ⟨w.heap.size + 1, 0, none⟩) 2 2, .slice (some ⟨w.heap.size + 1 + 1, 0, none⟩) 2 2, .slice (some ⟨w.heap.size + 1 + 1 + 1, 0, none⟩) 3 3, .slice (some ⟨w.heap.size + 1 + 1 + 1 + 1, 0, none⟩) 3 3, .slice (some ⟨w.heap.size + 1 + 1 + 1 + 1 + 1, 0, none⟩) 2 2, .slice (some ⟨w.heap.size + 1 + 1 + 1 + 1 + 1 + 1, 0, none⟩) 2 2] 25))
  replace o2 := o2.ex (Ex.alloc _ (.cells #[.int .i64 (-1), .int .i64 3, .int .i64 4] 3))
  replace o2 := o2.ex (Ex.alloc _ (.cells #[.int .i64 (-1), .int .i64 3, .int .i64 (-4)] 3))
  replace o2 := o2.ex (Ex.alloc _ (.cells #[.int .i64 5, .int .i64 (-6)] 3))
  replace o2 := o2.ex (Ex.alloc _ (.cells #[.int .i64 (-5), .int .i64 6] 3))
  replace o2 := o2.ex (Ex.alloc _ (.cells #[.slice (some ⟨w.heap.size + 1, 0, none⟩) 2 2, .slice (some ⟨w.heap.size + 1 + 1, 0, none⟩) 2 2, .slice (some ⟨w.heap.size + 1 + 1 + 1, 0, none⟩) 3 3, .slice (some ⟨w.heap.size + 1 + 1 + 1 + 1, 0, none⟩) 3 3, .slice (some ⟨w.heap.size + 1 + 1 + 1 + 1 + 1, 0, none⟩) 2 2, .slice (some ⟨w.heap.size + 1 + 1 + 1 + 1 + 1 + 1, 0, none⟩) 2 2] 25))
  replace o3 := o3.ex (Ex.alloc _ (.cells #[.int .i64 (-1), .int .i64 3, .int .i64 (-4)] 3))
  replace o3 := o3.ex (Ex.alloc _ (.cells #[.int .i64 5, .int .i64 (-6)] 3))
  replace o3 := o3.ex (Ex.alloc _ (.cells #[.int .i64 (-5), .int .i64 6] 3))
  replace o3 := o3.ex (Ex.alloc _ (.cells #[.slice (some ⟨w.heap.size + 1, 0, none⟩) 2 2, .slice (some ⟨w.heap.size + 1 + 1, 0, none⟩) 2 2, .slice (some ⟨w.heap.size + 1 + 1 + 1, 0, none⟩) 3 3, .slice (some ⟨w.heap.size + 1 + 1 + 1 + 1, 0, none⟩) 3 3, .slice (some ⟨w.heap.size + 1 + 1 + 1 + 1 + 1, 0, none⟩) 2 2, .slice (some ⟨w.heap.size + 1 + 1 + 1 + 1 + 1 + 1, 0, none⟩) 2 2] 25))
  replace o4 := o4.ex (Ex.alloc _ (.cells #[.int .i64 5, .int .i64 (-6)] 3))
  replace o4 := o4.ex (Ex.alloc _ (.cells #[.int .i64 (-5), .int .i64 6] 3))
  replace o4 := o4.ex (Ex.alloc _ (.cells #[.slice (some ⟨w.heap.size + 1, 0, none⟩) 2 2, .slice (some ⟨w.heap.size + 1 + 1, 0, none⟩) 2 2, .slice (some ⟨w.heap.size + 1 + 1 + 1, 0, none⟩) 3 3, .slice (some ⟨w.heap.size + 1 + 1 + 1 + 1, 0, none⟩) 3 3, .slice (some ⟨w.heap.size + 1 + 1 + 1 + 1 + 1, 0, none⟩) 2 2, .slice (some ⟨w.heap.size + 1 + 1 + 1 + 1 + 1 + 1, 0, none⟩) 2 2] 25))
  replace o5 := o5.ex (Ex.alloc _ (.cells #[.int .i64 (-5), .int .i64 6] 3))
  replace o5 := o5.ex (Ex.alloc _ (.cells #[.slice (some ⟨w.heap.size + 1, 0, none⟩) 2 2, .slice (some ⟨w.heap.size + 1 + 1, 0, none⟩) 2 2, .slice (some ⟨w.heap.size + 1 + 1 + 1, 0, none⟩) 3 3, .slice (some ⟨w.heap.size + 1 + 1 + 1 + 1, 0, none⟩) 3 3, .slice (some ⟨w.heap.size + 1 + 1 + 1 + 1 + 1, 0, none⟩) 2 2, .slice (some ⟨w.heap.size + 1 + 1 + 1 + 1 + 1 + 1, 0, none⟩) 2 2] 25))
  replace o6 := o6.ex (Ex.alloc _ (.cells #[.slice (some ⟨w.heap.size + 1, 0, none⟩) 2 2, .slice (some ⟨w.heap.size + 1 + 1, 0, none⟩) 2 2, .slice (some ⟨w.heap.size + 1 + 1 + 1, 0, none⟩) 3 3, .slice (some ⟨w.heap.size + 1 + 1 + 1 + 1, 0, none⟩) 3 3, .slice (some ⟨w.heap.size + 1 + 1 + 1 + 1 + 1, 0, none⟩) 2 2, .slice (some ⟨w.heap.size + 1 + 1 + 1 + 1 + 1 + 1, 0, none⟩) 2 2] 25))
  have hx : Ex w ((((((((w.alloc (.cells #[.int .i64 6, .slice (some ⟨w.heap.size + 1 + 1 + 1 + 1 + 1 + 1 + 1, 0, none⟩) 6 6] 24)).alloc (.cells #[.int .i64 1, .int .i64 2] 3)).alloc (.cells #[.int .i64 1, .int .i64 (-2)] 3)).alloc (.cells #[.int .i64 (-1), .int .i64 3, .int .i64 4] 3)).alloc (.cells #[.int .i64 (-1), .int .i64 3, .int .i64 (-4)] 3)).alloc (.cells #[.int .i64 5, .int .i64 (-6)] 3)).alloc (.cells #[.int .i64 (-5), .int .i64 6] 3)).alloc (.cells #[.slice (some ⟨w.heap.size + 1, 0, none⟩) 2 2, .slice (some ⟨w.heap.size + 1 + 1, 0, none⟩) 2 2, .slice (some ⟨w.heap.size + 1 + 1 + 1, 0, none⟩) 3 3, .slice (some ⟨w.heap.size + 1 + 1 + 1 + 1, 0, none⟩) 3 3, .slice (some ⟨w.heap.size + 1 + 1 + 1 + 1 + 1, 0, none⟩) 2 2, .slice (some ⟨w.heap.size + 1 + 1 + 1 + 1 + 1 + 1, 0, none⟩) 2 2] 25)) := Ex.refl w |>.alloc' _ |>.alloc' _ |>.alloc' _ |>.alloc' _ |>.alloc' _ |>.alloc' _ |>.alloc' _ |>.alloc' _
  have HR : RowsAt ((((((((w.alloc (.cells #[.int .i64 6, .slice (some ⟨w.heap.size + 1 + 1 + 1 + 1 + 1 + 1 + 1, 0, none⟩) 6 6] 24)).alloc (.cells #[.int .i64 1, .int .i64 2] 3)).alloc (.cells #[.int .i64 1, .int .i64 (-2)] 3)).alloc (.cells #[.int .i64 (-1), .int .i64 3, .int .i64 4] 3)).alloc (.cells #[.int .i64 (-1), .int .i64 3, .int .i64 (-4)] 3)).alloc (.cells #[.int .i64 5, .int .i64 (-6)] 3)).alloc (.cells #[.int .i64 (-5), .int .i64 6] 3)).alloc (.cells #[.slice (some ⟨w.heap.size + 1, 0, none⟩) 2 2, .slice (some ⟨w.heap.size + 1 + 1, 0, none⟩) 2 2, .slice (some ⟨w.heap.size + 1 + 1 + 1, 0, none⟩) 3 3, .slice (some ⟨w.heap.size + 1 + 1 + 1 + 1, 0, none⟩) 3 3, .slice (some ⟨w.heap.size + 1 + 1 + 1 + 1 + 1, 0, none⟩) 2 2, .slice (some ⟨w.heap.size + 1 + 1 + 1 + 1 + 1 + 1, 0, none⟩) 2 2] 25)) (.slice (some ⟨w.heap.size + 1 + 1 + 1 + 1 + 1 + 1 + 1, 0, none⟩) 6 6) ex15 := rowsAt_of (ll := ex15) o7 rfl (by decide) (fun j hj => by
    have hj : j < 6 := hj
    rcases (show j = 0 ∨ j = 1 ∨ j = 2 ∨ j = 3 ∨ j = 4 ∨ j = 5 by omega) with rfl | rfl | rfl | rfl | rfl | rfl
    · exact ⟨_, rfl, intsAt_of_block (l := [1, 2]) o1 (by decide)⟩
    · exact ⟨_, rfl, intsAt_of_block (l := [1, -2]) o2 (by decide)⟩
    · exact ⟨_, rfl, intsAt_of_block (l := [-1, 3, 4]) o3 (by decide)⟩
    · exact ⟨_, rfl, intsAt_of_block (l := [-1, 3, -4]) o4 (by decide)⟩
    · exact ⟨_, rfl, intsAt_of_block (l := [5, -6]) o5 (by decide)⟩
    · exact ⟨_, rfl, intsAt_of_block (l := [-5, 6]) o6 (by decide)⟩)
  have c0 := o0.cell 0
  have c1 := o0.cell 1
  clear o0 o1 o2 o3 o4 o5 o6 o7
  go_enter Try.func32, Try.ntmps32
  go_wp2_with fail
  refine bodyPost_ret (v := .agg #[.int .i64 6, .slice (some ⟨w.heap.size + 1 + 1 + 1 + 1 + 1 + 1 + 1, 0, none⟩) 6 6]) (by simp [results, Try.results32, go_sem, c0, c1]) rfl ⟨_, rfl, HR, hx⟩
/-- The literals of the chapter's theory, by classes: those of a class alone may be tied. -/
theorem tied_class {n : Int} {ll : List (List Int)} (cls : Int → Int) (h : ∀ a b, mutB n ll a b = true → cls a = cls b ∧ cls (-a) = cls (-b)) {a b : Int} (ht : Tied n ll a b) : cls a = cls b := by
  induction ht with
  | refl => rfl
  | tie _ hl ih =>
    rw [ih]
    rw [linkB_iff] at hl
    rcases hl with hl | hl
    · exact (h _ _ hl).1
    · have := (h _ _ hl).2
      rwa [Int.neg_neg, Int.neg_neg] at this
/-- What Equal says where the classes are known. -/
theorem eqL_class {n : Nat} {ll : List (List Int)} (hn : n ≤ 128) (cls : Int → Int) (h : ((List.range (2 * n + 1)).all fun i => (List.range (2 * n + 1)).all fun j => !mutB n ll ((i : Nat) - (n : Int)) ((j : Nat) - (n : Int)) || (decide (cls ((i : Nat) - (n : Int)) = cls ((j : Nat) - (n : Int))) && decide (cls (-((i : Nat) - (n : Int))) = cls (-((j : Nat) - (n : Int)))))) = true)
    (L : List Int) (hL : L.length = n) (h2 : ∀ k, k < n → (∃ c : Int, L.getD k 0 = c ∧ (c = (k : Int) + 1 ∨ linkB n ll ((k : Int) + 1) c = true) ∧ ∃ u : Int, 1 ≤ u ∧ u ≤ (k : Int) + 1 ∧ (c = u ∨ c = -u ∧ cls ((k : Int) + 1) ≠ cls u) ∧ ∀ z : Int, 1 ≤ z → z < u → cls ((k : Int) + 1) ≠ cls z ∧ cls ((k : Int) + 1) ≠ cls (-z))) : eqL n ll n = L := by
  have hc : ∀ a b, mutB n ll a b = true → cls a = cls b ∧ cls (-a) = cls (-b) := fun a b hm => by
    have v1 := (litValid_iff _ _).1 (mutB_valid hm).1
    have v2 := (litValid_iff _ _).1 (mutB_valid hm).2
    rw [List.all_eq_true] at h
    have := h (a + n).toNat (List.mem_range.2 (by omega))
    rw [List.all_eq_true] at this
    have := this (b + n).toNat (List.mem_range.2 (by omega))
    rw [show (((a + n).toNat : Nat) : Int) - (n : Int) = a by omega, show (((b + n).toNat : Nat) : Int) - (n : Int) = b by omega, hm] at this
    simpa using this
  refine List.ext_getElem (by rw [eqL_len, hL]) fun k k1 k2 => ?_
  rw [eqL_len] at k1
  obtain ⟨c, e1, hcv, u, u1, u2, hcu, hz⟩ := h2 k k1
  rw [getD_getElem k2] at e1
  rw [e1]
  have hEk : ∀ h, (eqL n ll n)[k]'h = eqV n ll ((k : Int) + 1) := fun h => by simp [eqL]
  rw [hEk]
  have htc : Tied n ll ((k : Int) + 1) c := by
    rcases hcv with rfl | hl
    · exact .refl _
    · exact .one hl
  have hno : ∀ z : Int, 1 ≤ z → z < u → tieB n ll ((k : Int) + 1) z = false ∧ tieB n ll ((k : Int) + 1) (-z) = false := fun z z1 z2 => by
    obtain ⟨p, q⟩ := hz z z1 z2
    constructor
    · rw [Bool.eq_false_iff]; intro h; exact p (tied_class cls hc (tieB_iff.1 h))
    · rw [Bool.eq_false_iff]; intro h; exact q (tied_class cls hc (tieB_iff.1 h))
  unfold eqV
  rcases leastF_spec (t := tieB n ll) (v := (k : Int) + 1) ((k : Int) + 1 - 1).toNat 1 with ⟨s, s1, s2, s3, s4⟩ | ⟨s1, s2⟩
  · have hsu : s = u := by
      by_cases h1 : s < u
      · obtain ⟨p, q⟩ := hno s s1 h1
        rcases s4 with ⟨a, _⟩ | ⟨_, a, _⟩
        · rw [p] at a; cases a
        · rw [q] at a; cases a
      · by_cases h2 : u < s
        · obtain ⟨p, q⟩ := s3 u u1 h2
          rcases hcu with rfl | ⟨rfl, _⟩
          · rw [tieB_iff.2 htc] at p; cases p
          · rw [tieB_iff.2 htc] at q; cases q
        · omega
    subst hsu
    rcases s4 with ⟨a, b⟩ | ⟨a, _, b⟩
    · rw [b]
      rcases hcu with rfl | ⟨rfl, hne⟩
      · rfl
      · exact absurd (tied_class cls hc (tieB_iff.1 a)) hne
    · rw [b]
      rcases hcu with rfl | ⟨rfl, _⟩
      · rw [tieB_iff.2 htc] at a; cases a
      · rfl
  · rw [s1]
    by_cases h2 : u < (k : Int) + 1
    · obtain ⟨p, q⟩ := s2 u u1 (by omega)
      rcases hcu with rfl | ⟨rfl, _⟩
      · rw [tieB_iff.2 htc] at p; cases p
      · rw [tieB_iff.2 htc] at q; cases q
    · have e : u = (k : Int) + 1 := by omega
      rcases hcu with h | ⟨h, hne⟩
      · omega
      · exact absurd (by rw [e]) hne
def cls15 (x : Int) : Int := if x = 6 then 5 else if x = -6 then -5 else x
theorem eqL15 : eqL ((6 : Nat) : Int) ex15 6 = [1, 2, 3, 4, 5, 5] := by
  refine eqL_class (n := 6) (by decide) cls15 (by decide +kernel) _ rfl fun k hk => ?_
  have hk : k < 6 := hk
  have hk' : k = 0 ∨ k = 1 ∨ k = 2 ∨ k = 3 ∨ k = 4 ∨ k = 5 := by omega
  have hz : ∀ (m u : Int), (m = u ∨ m = 6 ∧ u = 5) → u ≤ 5 → 1 ≤ u → ∀ z : Int, 1 ≤ z → z < u → cls15 m ≠ cls15 z ∧ cls15 m ≠ cls15 (-z) := fun m u hm hu hu1 z z1 z2 => by
    unfold cls15; constructor <;> (repeat' split) <;> omega
  rcases hk' with rfl | rfl | rfl | rfl | rfl | rfl
  · exact ⟨1, rfl, .inl rfl, 1, by decide, by decide, .inl rfl, hz _ _ (.inl rfl) (by decide) (by decide)⟩
  · exact ⟨2, rfl, .inl rfl, 2, by decide, by decide, .inl rfl, hz _ _ (.inl rfl) (by decide) (by decide)⟩
  · exact ⟨3, rfl, .inl rfl, 3, by decide, by decide, .inl rfl, hz _ _ (.inl rfl) (by decide) (by decide)⟩
  · exact ⟨4, rfl, .inl rfl, 4, by decide, by decide, .inl rfl, hz _ _ (.inl rfl) (by decide) (by decide)⟩
  · exact ⟨5, rfl, .inl rfl, 5, by decide, by decide, .inl rfl, hz _ _ (.inl rfl) (by decide) (by decide)⟩
  · exact ⟨5, rfl, .inr (by decide +kernel), 5, by decide, by decide, .inl rfl, hz _ _ (.inr ⟨rfl, rfl⟩) (by decide) (by decide)⟩
set_option maxRecDepth 20000 in
set_option maxHeartbeats 4000000 in
theorem works15_any (w : World) : Calls Try.prog 14 #[] w fun e w' => e = .returned (.bool true) ∧ Ex w w' := by
  have H1 : Hid (∀ (wa : World) (lv : Value), RowsAt wa lv ex15 → Calls Try.prog 17 #[.agg #[.int .i64 6, lv], .slice none 0 0] wa (TermRet wa [1, 3] true)) := fun wa lv hR => by
    have := probeProbe_any 6 lv (.slice none 0 0) ex15 [] wa hR (IntsAt.nil wa) (by decide)
    rwa [show probeO 6 ex15 (termB [] 6) (termL [] 6) = some [1, 3] by decide +kernel] at this
  have H2 : Hid (∀ (wa : World) (lv : Value), RowsAt wa lv ex15 → Calls Try.prog 21 #[.agg #[.int .i64 6, lv]] wa (BoneRet wa [1, 3] true 0)) := fun wa lv hR => by
    have := Backbone_some 6 lv ex15 (5, 0) wa hR (by decide +kernel) (by decide +kernel)
    rwa [show boneL 6 ex15 (5, 0) 6 = [1, 3] by decide +kernel] at this
  have H3 : Hid (∀ (wa : World) (lv : Value), RowsAt wa lv ex15 → Calls Try.prog 28 #[.agg #[.int .i64 6, lv]] wa (EqRet wa [1, 2, 3, 4, 5, 5] 0)) := fun wa lv hR => by
    have := Equal_ok 6 lv ex15 wa hR (by decide +kernel)
    rwa [eqL15] at this
  have H5 : Hid (∀ (wa : World) (u v : Value) (l : List Int), IntsAt wa u l → IntsAt wa v l → Calls Try.prog 25 #[u, v] wa fun e w' => e = .returned (.bool true) ∧ Ex wa w') := fun wa u v l h k => by
    have := r03Same_any u v l l wa h k
    rwa [decide_eq_true rfl] at this
  go_enter Try.func14, Try.ntmps14
  go_wp2_with fail
  refine (chapter15_any _).mono ?_
  rintro e w1 ⟨lv, rfl, hR, hx⟩
  go_wp2_with fail
  refine (H1.out _ _ hR).mono ?_
  rintro e w2 ⟨v1, rfl, ho, hx2⟩
  have hI1 := ho.ints
  obtain ⟨p1, q1, rfl, _, _, _⟩ := hI1
  have hI1 := ho.ints
  replace hx := hx.trans hx2
  clear ho hR hx2 H1
  go_wp2_with fail
  refine (chapter15_any _).mono ?_
  rintro e w3 ⟨lv2, rfl, hR, hx2⟩
  replace hI1 := hI1.ex hx2
  replace hx := hx.trans hx2
  clear hx2
  go_wp2_with fail
  refine (H2.out _ _ hR).mono ?_
  rintro e w4 ⟨v2, rfl, ho, hx2⟩
  have hI2 := ho.ints
  obtain ⟨p2, q2, rfl, _, _, _⟩ := hI2
  have hI2 := ho.ints
  replace hI1 := hI1.ex hx2
  replace hx := hx.trans hx2
  clear ho hR hx2 H2
  go_wp2_with fail
  refine (chapter15_any _).mono ?_
  rintro e w5 ⟨lv3, rfl, hR, hx2⟩
  replace hI1 := hI1.ex hx2
  replace hI2 := hI2.ex hx2
  replace hx := hx.trans hx2
  clear hx2
  go_wp2_with fail
  refine (H3.out _ _ hR).mono ?_
  rintro e w6 ⟨v3, rfl, ho, hx2⟩
  have hI3 := ho.ints
  obtain ⟨p3, q3, rfl, _, _, _⟩ := hI3
  have hI3 := ho.ints
  replace hI1 := hI1.ex hx2
  replace hI2 := hI2.ex hx2
  replace hx := hx.trans hx2
  clear ho hR hx2 H3
  go_wp2_with fail
  have hl := litAtN w6 [1, 3] 3 (by decide)
  refine (H5.out _ _ _ [1, 3] (hI1.ex (Ex.alloc _ _)) hl).mono ?_
  rintro e w7 ⟨rfl, hx2⟩
  replace hx2 := (Ex.alloc _ _).trans hx2
  replace hI2 := hI2.ex hx2
  replace hI3 := hI3.ex hx2
  replace hx := hx.trans hx2
  clear hx2 hl hI1
  go_wp2_with fail
  have hl := litAtN w7 [1, 3] 3 (by decide)
  refine (H5.out _ _ _ [1, 3] (hI2.ex (Ex.alloc _ _)) hl).mono ?_
  rintro e w8 ⟨rfl, hx2⟩
  replace hx2 := (Ex.alloc _ _).trans hx2
  replace hI3 := hI3.ex hx2
  replace hx := hx.trans hx2
  clear hx2 hl hI2
  go_wp2_with fail
  have hl := litAtN w8 [1, 2, 3, 4, 5, 5] 3 (by decide)
  refine (H5.out _ _ _ [1, 2, 3, 4, 5, 5] (hI3.ex (Ex.alloc _ _)) hl).mono ?_
  rintro e w9 ⟨rfl, hx2⟩
  replace hx := hx.trans ((Ex.alloc _ _).trans hx2)
  go_wp2
  go_ret
  exact ⟨rfl, hx⟩
end Go.Proofs.Ytnhlfhoeglnajaa
