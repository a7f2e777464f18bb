/- Whether an input is looked at (light, few). No condition. -/
import Derived.Test.YtagohmpbbbkdjaaDoorLaw1
namespace Go.Proofs.YtagohmpbbbkdjaaDoor
set_option linter.unusedSimpArgs false
set_option linter.unusedVariables false
open Go.RowKit

/-- A test's answer: where it is yes, p holds. -/
def Yes (w : World) (p : Prop) (e : Ending) (w' : World) : Prop := ∃ b : Bool, e = .returned (.bool b) ∧ (b = true → p) ∧ Ex w w'
theorem Yes.no {w w' : World} {p : Prop} (hx : Ex w w') : Yes w p (.returned (.bool false)) w' := ⟨false, rfl, fun h => (by cases h), hx⟩
theorem Yes.yes {w w' : World} {p : Prop} (h : p) (hx : Ex w w') : Yes w p (.returned (.bool true)) w' := ⟨true, rfl, fun _ => h, hx⟩
def FewOk (n : Int) (ll : List (List Int)) (l : List Int) : Prop := l.length ≤ 30 ∧ n ≤ 16 ∧ theoryErr n ll = 0 ∧ ∀ x ∈ l, litValid x n = true
set_option maxHeartbeats 1000000 in
theorem few14_any (n : Int) (lv av : Value) (ll : List (List Int)) (l : List Int) (w : World) (hR : RowsAt w lv ll) (hl : IntsAt w av l) :
    Calls Tryd.prog 5 #[.agg #[.int .i64 n, lv], av] w (Yes w (FewOk n ll l)) := by
  have HC : Hid (∀ wa (hRa : RowsAt wa lv ll), Calls Tryd.prog 13 #[.agg #[.int .i64 n, lv]] wa fun e w' => e = .returned (.int .i64 (theoryErr n ll)) ∧ Ex wa w') := fun wa hRa => theoryCheck_any n lv ll wa hRa
  have HB : Hid _ := box_theory (n := n) hR hl 24
  obtain ⟨a, cap, rfl, g1, g2, _⟩ := hR
  obtain ⟨a', cap', rfl, g3, g4, _⟩ := hl
  unfold maxLen at g2 g4
  go_enter Tryd.func5, Tryd.ntmps5
  go_wp2_with fail
  obtain ⟨wa, hwa, hxa, hRa, hIa, hT⟩ := HB.out
  rw [← hwa]; clear hwa HB
  refine (HC.out _ hRa).mono ?_
  rintro e w2 ⟨rfl, hx2⟩
  replace hT := hT.ex hx2
  replace hIa := hIa.ex hx2
  have hx := hxa.trans hx2
  clear hRa HC hxa hx2
  have c0 := hT.c0
  have c1 := hT.c1
  by_cases he : theoryErr n ll = 0
  rotate_left
  · have he' : (theoryErr n ll != 0) = true := by simp [he]
    clear he
    generalize theoryErr n ll = er at *
    go_wp2
    go_ret
    exact Yes.no hx
  have he' : (theoryErr n ll != 0) = false := by simp [he]
  have HE : Hid (l.length ≤ 30 → n ≤ 16 → (∀ j, j < l.length → litValid (l.getD j 0) n = true) → FewOk n ll l) := fun h1 h2 h3 => ⟨h1, h2, he, fun x hx => by
    obtain ⟨j, hj, rfl⟩ := List.getElem_of_mem hx
    have := h3 j hj
    rwa [getD_getElem hj] at this⟩
  clear he
  generalize theoryErr n ll = er at *
  by_cases hn : 16 < n
  · go_wp2
    go_ret
    exact Yes.no hx
  by_cases h1 : (80 : Int) < ll.length
  · go_wp2
    go_ret
    exact Yes.no hx
  by_cases h2 : (30 : Int) < l.length
  · go_wp2
    go_ret
    exact Yes.no hx
  go_wp2_with fail
  go_loopw [5] (fun i wr => ∃ k : Nat, k ≤ l.length ∧ i = .int .i64 k ∧ Hid (∀ j, j < k → litValid (l.getD j 0) n = true) ∧ Ex w2 wr) (fun i _ => l.length - (intOf i).toNat)
  case atStart => exact ⟨0, Nat.zero_le _, rfl, fun j hj => (by omega), Ex.refl _⟩
  case round =>
    obtain ⟨k, hk, rfl, hall, hxr⟩ := hrel
    by_cases hlt : k < l.length
    · obtain ⟨_, _, hv, _, _, h3⟩ := hIa.ex hxr
      cases hv
      obtain ⟨b, off, rfl, hb, hc⟩ := h3 k hlt
      clear h3
      have hcx := ext_cell hc
      have c0x := ext_cell (ex_cell c0 hxr)
      by_cases hh : litValid (l.getD k 0) n = true
      · have hall2 : Hid (∀ j, j < k + 1 → litValid (l.getD j 0) n = true) := fun j hj => by
          by_cases hjm : j = k
          · subst hjm; exact hh
          · exact hall.out j (by omega)
        clear hall
        generalize l.getD k 0 = q at *
        go_wp2
        refine wp_region_quiet_ext (by kernel_rfl) (by kernel_rfl) ?_
        repeat (go_big_quiet_step ((go_at_call 14; exact Calls.quiet_ext_same (litValid_any _ _ _))))
        refine wpQuiet_nil ?_
        rw [hh]
        intro w3 hx3
        go_wp2
        go_roundw
        case rel => exact ⟨k + 1, by omega, by go_num, hall2, hxr.trans hx3⟩
        case measure => simp [intOf]; omega
      · have hh' : litValid (l.getD k 0) n = false := by simpa using hh
        clear hall hh
        generalize l.getD k 0 = q at *
        go_wp2
        refine wp_region_quiet_ext (by kernel_rfl) (by kernel_rfl) ?_
        repeat (go_big_quiet_step ((go_at_call 14; exact Calls.quiet_ext_same (litValid_any _ _ _))))
        refine wpQuiet_nil ?_
        rw [hh']
        intro w3 hx3
        go_wp2
        go_ret
        exact Yes.no (hx.trans (hxr.trans hx3))
    · have hF : Hid (FewOk n ll l) := HE.out (by omega) (by omega) fun j hj => hall.out j (by omega)
      clear hall HE
      go_wp2
      go_ret
      exact Yes.yes hF.out (hx.trans hxr)
end Go.Proofs.YtagohmpbbbkdjaaDoor
