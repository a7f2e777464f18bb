/- The reference of the chapter on search: each Go function returns what the plain definition says, and old memory stays. -/
import Derived.Test.YtagohmpbbbkdjaaDoorModels
namespace Go.Proofs.YtagohmpbbbkdjaaDoor
set_option linter.unusedSimpArgs false
set_option linter.unusedVariables false
open Go.RowKit
set_option maxRecDepth 20000

set_option maxHeartbeats 1000000 in
theorem r06SameInts_any (av bv : Value) (l m : List Int) (w : World) (hl : IntsAt w av l) (hm : IntsAt w bv m) :
    Calls Tryd.prog 18 #[av, bv] w fun e w' => e = .returned (.bool (decide (l = m))) ∧ Ex w w' := by
  have hl0 := hl
  have hm0 := hm
  obtain ⟨a, cap, rfl, h1, h2, h3⟩ := hl
  obtain ⟨b, bap, rfl, g1, g2, g3⟩ := hm
  unfold maxLen at h2 g2
  clear h3 g3
  by_cases hlen : l.length = m.length
  · have hne : (((l.length : Int)) != (m.length : Int)) = false := by simp; omega
    have H : Hid (l.length = m.length) := hlen
    have fin : Hid ((∀ j, j < l.length → l.getD j 0 = m.getD j 0) → decide (l = m) = true) := fun h => by
      rw [decide_eq_true_iff]
      refine List.ext_getElem hlen fun i h1 h2 => ?_
      have := h i h1
      rwa [getD_getElem h1, getD_getElem h2] at this
    have fin2 : Hid (∀ j, j < l.length → l.getD j 0 ≠ m.getD j 0 → decide (l = m) = false) := fun j hj h => by
      rw [decide_eq_false_iff_not]; intro e; rw [e] at h; exact h rfl
    have hle : l.length ≤ m.length := by omega
    clear hlen
    generalize decide (l = m) = res at *
    go_enter Tryd.func18, Tryd.ntmps18
    go_wp2
    go_loopw [5] (fun i wr => ∃ k : Nat, k ≤ l.length ∧ i = .int .i64 k ∧ Hid (∀ j, j < k → l.getD j 0 = m.getD j 0) ∧ Ex w wr) (fun i _ => l.length - (intOf i).toNat)
    case atStart => exact ⟨0, Nat.zero_le _, rfl, fun j hj => by omega, Ex.refl _⟩
    case round =>
      obtain ⟨k, hk, rfl, hall, hxr⟩ := hrel
      by_cases hlt : k < l.length
      · have hlr := hl0.ex hxr
        obtain ⟨_, _, hv, _, _, h3⟩ := hlr
        cases hv
        obtain ⟨lb, lo, rfl, hb, hc⟩ := h3 k hlt
        have hmr := hm0.ex hxr
        obtain ⟨_, _, hv, _, _, g3⟩ := hmr
        cases hv
        have hltm : k < m.length := by omega
        obtain ⟨mb, mo, rfl, gb, gc⟩ := g3 k hltm
        clear h3 g3
        have hcx := ext_cell hc
        have gcx := ext_cell gc
        have q1 : (k : Int) < (l.length : Int) := by omega
        have q2 : (k : Int) < (m.length : Int) := by omega
        by_cases he : l.getD k 0 = m.getD k 0
        · have hall2 : Hid (∀ j, j < k + 1 → l.getD j 0 = m.getD j 0) := fun j hj => by
            by_cases hjm : j = k
            · subst hjm; exact he
            · exact hall.out j (by omega)
          have hne2 : (l.getD k 0 != m.getD k 0) = false := by simp only [bne_eq_false_iff_eq]; exact he
          clear hall he
          generalize l.getD k 0 = x at *
          generalize m.getD k 0 = y at *
          go_wp2
          refine wp_region_quiet_ext (by kernel_rfl) (by kernel_rfl) ?_
          repeat (go_big_quiet_step ((fail)))
          refine wpQuiet_nil ?_
          intro w2 hx2
          go_wp2
          go_roundw
          case rel => exact ⟨k + 1, by omega, by go_num, hall2, hxr.trans hx2⟩
          case measure => simp [intOf] <;> omega
        · have hfin : Hid (res = false) := fin2.out k hlt he
          have hne2 : (l.getD k 0 != m.getD k 0) = true := by simp only [bne_iff_ne]; exact he
          clear hall fin fin2 he
          generalize l.getD k 0 = x at *
          generalize m.getD k 0 = y at *
          go_wp2
          refine wp_region_quiet_ext (by kernel_rfl) (by kernel_rfl) ?_
          repeat (go_big_quiet_step ((fail)))
          refine wpQuiet_nil ?_
          intro w2 hx2
          go_wp2
          go_ret
          exact ⟨ret_bool hfin.out.symm, hxr.trans hx2⟩
      · have hfin : Hid (res = true) := fin.out fun j hj => hall.out j (by omega)
        clear hall fin fin2
        go_wp2
        go_ret
        exact ⟨ret_bool hfin.out.symm, hxr⟩
  · have hne : (((l.length : Int)) != (m.length : Int)) = true := by simp; omega
    have hfin : Hid (decide (l = m) = false) := by show _ = _; rw [decide_eq_false_iff_not]; intro e; rw [e] at hlen; exact hlen rfl
    clear hlen
    go_enter Tryd.func18, Tryd.ntmps18
    go_wp2
    go_ret
    exact ⟨ret_bool hfin.out.symm, Ex.refl _⟩
end Go.Proofs.YtagohmpbbbkdjaaDoor
