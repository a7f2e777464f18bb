/- Sets and lists of literals: each Go function returns what the plain definition says, and old memory stays. No condition but that the arguments can be read. -/
import Derived.Test.YteaidblcjhbjnaaLit
namespace Go.Proofs.Yteaidblcjhbjnaa
set_option linter.unusedSimpArgs false
set_option linter.unusedVariables false
open Go.RowKit

set_option maxHeartbeats 400000 in
theorem r04Holds_any (x y : Nat) (l : Int) (w : World) :
    Calls Try.prog 30 #[setV x y, .int .i64 l] w fun e w' => e = .returned (.bool (holdsB x y l)) ∧ Ex w w' := by
  have hr := litVar_range l
  by_cases h0 : 0 < litVar l
  · have e1 : holdsB x y l = (hasB x y (litVar l) == decide (0 < l)) := by unfold holdsB; have : (litVar l != 0) = true := by simp; omega
                                                                           rw [this, Bool.true_and]
    rw [e1]; clear e1
    unfold setV
    go_enter Try.func30, Try.ntmps30
    go_wp2_with (first | (go_at_call 13; refine (r04Var_any _ _).mono ?_; rintro e w' ⟨rfl, rfl⟩) | (go_at_call 47; refine (r04In_any _ _ _ (by omega) (by omega) _).mono ?_; rintro e w' ⟨rfl, hx⟩))
    go_ret
    exact ⟨rfl, (Ex.alloc _ _).trans hx⟩
  · have e1 : holdsB x y l = false := by unfold holdsB; have : (litVar l != 0) = false := by simp; omega
                                         rw [this, Bool.false_and]
    rw [e1]; clear e1
    unfold setV
    go_enter Try.func30, Try.ntmps30
    go_wp2_with (first | (go_at_call 13; refine (r04Var_any _ _).mono ?_; rintro e w' ⟨rfl, rfl⟩))
    go_ret
    exact ⟨rfl, Ex.alloc _ _⟩
set_option maxHeartbeats 1000000 in
theorem r04All_any (x y : Nat) (lv : Value) (l : List Int) (w : World) (hl : IntsAt w lv l) :
    Calls Try.prog 33 #[setV x y, lv] w fun e w' => e = .returned (.bool (l.all (holdsB x y))) ∧ Ex w w' := by
  unfold setV
  obtain ⟨a, cap, rfl, h1, h2, h3⟩ := hl
  unfold maxLen at h2
  have hI : IntsAt w (.slice a l.length cap) l := ⟨a, cap, rfl, h1, by unfold maxLen; exact h2, h3⟩
  clear h3
  go_enter Try.func33, Try.ntmps33
  go_wp2
  generalize hw1 : w.alloc (.cells #[.int .u64 x, .int .u64 y] 39) = w1
  have hx1 : Ex w w1 := hw1 ▸ Ex.alloc _ _
  have c0 : w1.cell? ⟨w.heap.size, 0, none⟩ = some (.int .u64 x) := by rw [← hw1]; simp
  have c1 : w1.cell? ⟨w.heap.size, 1, none⟩ = some (.int .u64 y) := by rw [← hw1]; simp
  clear hw1
  go_loopw [5] (fun i wr => ∃ k : Nat, k ≤ l.length ∧ i = .int .i64 k ∧ Hid (∀ j, j < k → holdsB x y (l.getD j 0) = true) ∧ Ex w1 wr) (fun i _ => l.length - (intOf i).toNat)
  case atStart => exact ⟨0, Nat.zero_le _, rfl, fun j hj => by omega, Ex.refl _⟩
  case round =>
    obtain ⟨k, hk, rfl, hall, hxr⟩ := hrel
    by_cases hlt : k < l.length
    · have hIr := (hI.ex hx1).ex hxr
      obtain ⟨_, _, hv, _, _, h3⟩ := hIr
      cases hv
      obtain ⟨b, off, rfl, hb, hc⟩ := h3 k hlt
      have c0r := (hxr.cell (p := ⟨w.heap.size, 0, none⟩) (cell_lt c0)).trans c0
      have c1r := (hxr.cell (p := ⟨w.heap.size, 1, none⟩) (cell_lt c1)).trans c1
      have hcx := ext_cell hc
      have c0x := ext_cell c0r
      have c1x := ext_cell c1r
      clear h3
      by_cases hh : holdsB x y (l.getD k 0) = true
      · have hall2 : Hid (∀ j, j < k + 1 → holdsB x y (l.getD j 0) = true) := fun j hj => by
          by_cases hjm : j = k
          · subst hjm; exact hh
          · exact hall.out j (by omega)
        clear hall
        generalize l.getD k 0 = q at *
        go_wp2
        refine wp_region_quiet_ext (by kernel_rfl) (by kernel_rfl) ?_
        repeat (go_big_quiet_step ((go_at_call 30; exact Calls.quiet_ext (r04Holds_any _ _ _ _))))
        refine wpQuiet_nil ?_
        intro w2 hx2
        go_wp2
        go_roundw
        case rel => exact ⟨k + 1, by omega, by go_num, hall2, hxr.trans hx2⟩
        case measure => simp [intOf]; omega
      · have hh' : holdsB x y (l.getD k 0) = false := by simpa using hh
        have hfin : Hid (l.all (holdsB x y) = false) := not_all_of_getD hlt hh'
        clear hall hh
        generalize l.getD k 0 = q at *
        go_wp2
        refine wp_region_quiet_ext (by kernel_rfl) (by kernel_rfl) ?_
        repeat (go_big_quiet_step ((go_at_call 30; exact Calls.quiet_ext (r04Holds_any _ _ _ _))))
        refine wpQuiet_nil ?_
        intro w2 hx2
        go_wp2
        go_ret
        exact ⟨ret_bool hfin.out.symm, hx1.trans (hxr.trans hx2)⟩
    · have hfin : Hid (l.all (holdsB x y) = true) := all_of_getD fun j hj => hall.out j (by omega)
      clear hall
      go_wp2
      go_ret
      exact ⟨ret_bool hfin.out.symm, hx1.trans hxr⟩
end Go.Proofs.Yteaidblcjhbjnaa
