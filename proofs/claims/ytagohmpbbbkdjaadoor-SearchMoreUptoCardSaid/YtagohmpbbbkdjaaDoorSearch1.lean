/- The program's check of a theory with literals, sets with one more variable, slices.Clone and slices.Delete: what each call returns; old memory stays. -/
import Derived.Test.YtagohmpbbbkdjaaDoorRef14b
namespace Go.Proofs.YtagohmpbbbkdjaaDoor
set_option linter.unusedSimpArgs false
set_option linter.unusedVariables false
open Go.RowKit
set_option maxRecDepth 20000

set_option maxHeartbeats 1000000 in
theorem searchCheck_any (n : Int) (lv av : Value) (ll : List (List Int)) (l : List Int) (w : World) (hR : RowsAt w lv ll) (hl : IntsAt w av l) :
    Calls Tryd.prog 19 #[.agg #[.int .i64 n, lv], av] w fun e w' => e = .returned (.int .i64 (searchErr n ll l)) ∧ Ex w w' := by
  have HB : Hid _ := box_theory (n := n) hR hl 24
  obtain ⟨a, cap, rfl, h1, h2, _⟩ := hR
  obtain ⟨a', cap', rfl, h1', h2', _⟩ := hl
  unfold maxLen at h2 h2'
  have hS : Hid (searchErr n ll l = if theoryErr n ll = 0 then (if l.all (litValid · n) then 0 else 1) else theoryErr n ll) := rfl
  generalize searchErr n ll l = sE at *
  go_enter Tryd.func19, Tryd.ntmps19
  go_wp2_with fail
  obtain ⟨wa, hwa, hxa, hRa, hIa, hT⟩ := HB.out
  rw [← hwa]; clear HB hwa
  refine (theoryCheck_any _ _ _ _ hRa).mono ?_
  rintro e w2 ⟨rfl, hx2⟩
  replace hIa := hIa.ex hx2
  replace hxa := hxa.trans hx2
  replace hT := hT.ex hx2
  clear hx2 hRa
  by_cases he : theoryErr n ll = 0
  · have he' : (theoryErr n ll != 0) = false := by simp [he]
    have hS2 : Hid (sE = if l.all (litValid · n) then 0 else 1) := by show _ = _; rw [hS.out, if_pos he]
    have hfin1 : Hid (∀ k, k < l.length → litValid (l.getD k 0) n = false → sE = 1) := fun k hk h => by rw [hS2.out, not_all_of_getD hk h]; rfl
    have hfin2 : Hid ((∀ k, k < l.length → litValid (l.getD k 0) n = true) → sE = 0) := fun h => by rw [hS2.out, all_of_getD (p := (litValid · n)) (d := 0) h]; rfl
    clear hS he hS2
    have c0 := hT.1
    have c1 := hT.2
    go_wp2_with fail
    go_loop [15] (fun i => ∃ k : Nat, k ≤ l.length ∧ i = .int .i64 k ∧ Hid (∀ j, j < k → litValid (l.getD j 0) n = true)) (fun i => l.length - (intOf i).toNat)
    case atStart => exact ⟨0, Nat.zero_le _, rfl, fun j hj => by omega⟩
    case round =>
      obtain ⟨k, hk, rfl, hall⟩ := hrel
      by_cases hlt : k < l.length
      · obtain ⟨_, _, hv, _, _, h3⟩ := hIa
        cases hv
        obtain ⟨b, off, rfl, hb, hc⟩ := h3 k hlt
        clear h3
        by_cases hh : litValid (l.getD k 0) n = true
        · have hall2 : Hid (∀ j, j < k + 1 → litValid (l.getD j 0) n = true) := fun j hj => by
            by_cases hjm : j = k
            · subst hjm; exact hh
            · exact hall.out j (by omega)
          clear hall
          generalize l.getD k 0 = q at *
          go_wp2_with (go_at_call 14; refine (litValid_any _ _ _).mono ?_; rintro e w' ⟨rfl, rfl⟩)
          go_round
          case rel => exact ⟨k + 1, by omega, by go_num, hall2⟩
          case measure => simp [intOf] <;> omega
        · have hh' : litValid (l.getD k 0) n = false := by simpa using hh
          have hfin : Hid (sE = 1) := hfin1.out k hlt hh'
          clear hall hh
          generalize l.getD k 0 = q at *
          go_wp2_with (go_at_call 14; refine (litValid_any _ _ _).mono ?_; rintro e w' ⟨rfl, rfl⟩)
          go_ret
          exact ⟨ret_int hfin.out.symm, hxa⟩
      · have hfin : Hid (sE = 0) := hfin2.out fun j hj => hall.out j (by omega)
        clear hall
        go_wp2
        go_ret
        exact ⟨ret_int hfin.out.symm, hxa⟩
  · have he' : (theoryErr n ll != 0) = true := by simp [he]
    have hS2 : Hid (sE = theoryErr n ll) := by show _ = _; rw [hS.out, if_neg he]
    clear hS he
    go_wp2
    go_ret
    exact ⟨ret_int hS2.out.symm, hxa⟩
end Go.Proofs.YtagohmpbbbkdjaaDoor
