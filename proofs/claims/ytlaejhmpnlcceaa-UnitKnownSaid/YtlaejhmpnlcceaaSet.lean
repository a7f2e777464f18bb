/- Sets and lists of literals: each Go function returns what the plain definition says, and old memory stays. No condition but that the arguments can be read. -/
import Derived.Test.YtlaejhmpnlcceaaLit
namespace Go.Proofs.Ytlaejhmpnlcceaa
set_option linter.unusedSimpArgs false
set_option linter.unusedVariables false
open Go.RowKit

set_option maxHeartbeats 400000 in
theorem r04Holds_any (x y : Nat) (l : Int) (w : World) :
    Calls Try.prog 24 #[setV x y, .int .i64 l] w fun e w' => e = .returned (.bool (holdsB x y l)) ∧ Ex w w' := by
  have hr := litVar_range l
  by_cases h0 : 0 < litVar l
  · have e1 : holdsB x y l = (hasB x y (litVar l) == decide (0 < l)) := by unfold holdsB; have : (litVar l != 0) = true := by simp; omega
                                                                           rw [this, Bool.true_and]
    rw [e1]; clear e1
    unfold setV
    go_enter Try.func24, Try.ntmps24
    go_wp2_with (first | (go_at_call 42; refine (r04Var_any _ _).mono ?_; rintro e w' ⟨rfl, rfl⟩) | (go_at_call 43; refine (r04In_any _ _ _ (by omega) (by omega) _).mono ?_; rintro e w' ⟨rfl, hx⟩))
    go_ret
    exact ⟨rfl, (Ex.alloc _ _).trans hx⟩
  · have e1 : holdsB x y l = false := by unfold holdsB; have : (litVar l != 0) = false := by simp; omega
                                         rw [this, Bool.false_and]
    rw [e1]; clear e1
    unfold setV
    go_enter Try.func24, Try.ntmps24
    go_wp2_with (first | (go_at_call 42; refine (r04Var_any _ _).mono ?_; rintro e w' ⟨rfl, rfl⟩))
    go_ret
    exact ⟨rfl, Ex.alloc _ _⟩
set_option maxHeartbeats 1000000 in
theorem r04All_any (x y : Nat) (lv : Value) (l : List Int) (w : World) (hl : IntsAt w lv l) :
    Calls Try.prog 23 #[setV x y, lv] w fun e w' => e = .returned (.bool (l.all (holdsB x y))) ∧ Ex w w' := by
  unfold setV
  obtain ⟨a, cap, rfl, h1, h2, h3⟩ := hl
  unfold maxLen at h2
  have hI : IntsAt w (.slice a l.length cap) l := ⟨a, cap, rfl, h1, by unfold maxLen; exact h2, h3⟩
  clear h3
  go_enter Try.func23, Try.ntmps23
  go_wp2
  generalize hw1 : w.alloc (.cells #[.int .u64 x, .int .u64 y] 48) = w1
  have hx1 : Ex w w1 := hw1 ▸ Ex.alloc _ _
  have c0 : w1.cell? ⟨w.heap.size, 0, none⟩ = some (.int .u64 x) := by rw [← hw1]; simp
  have c1 : w1.cell? ⟨w.heap.size, 1, none⟩ = some (.int .u64 y) := by rw [← hw1]; simp
  clear hw1
  go_loopw [5] (fun i wr => ∃ k : Nat, k ≤ l.length ∧ i = .int .i64 k ∧ Hid (∀ j, j < k → holdsB x y (l.getD j 0) = true) ∧ Ex w1 wr) (fun i _ => l.length - (intOf i).toNat)
  case atStart => exact ⟨0, Nat.zero_le _, rfl, fun j hj => by omega, Ex.refl _⟩
  case round =>
    obtain ⟨k, hk, rfl, hall, hxr⟩ := hrel
    by_cases hlt : k < l.length
    · have hIr := (hI.ex hx1).ex hxr
      obtain ⟨_, _, hv, _, _, h3⟩ := hIr
      cases hv
      obtain ⟨b, off, rfl, hb, hc⟩ := h3 k hlt
      have c0r := (hxr.cell (p := ⟨w.heap.size, 0, none⟩) (cell_lt c0)).trans c0
      have c1r := (hxr.cell (p := ⟨w.heap.size, 1, none⟩) (cell_lt c1)).trans c1
      have hcx := ext_cell hc
      have c0x := ext_cell c0r
      have c1x := ext_cell c1r
      clear h3
      by_cases hh : holdsB x y (l.getD k 0) = true
      · have hall2 : Hid (∀ j, j < k + 1 → holdsB x y (l.getD j 0) = true) := fun j hj => by
          by_cases hjm : j = k
          · subst hjm; exact hh
          · exact hall.out j (by omega)
        clear hall
        generalize l.getD k 0 = q at *
        go_wp2
        refine wp_region_quiet_ext (by kernel_rfl) (by kernel_rfl) ?_
        repeat (go_big_quiet_step ((go_at_call 24; exact Calls.quiet_ext (r04Holds_any _ _ _ _))))
        refine wpQuiet_nil ?_
        intro w2 hx2
        go_wp2
        go_roundw
        case rel => exact ⟨k + 1, by omega, by go_num, hall2, hxr.trans hx2⟩
        case measure => simp [intOf]; omega
      · have hh' : holdsB x y (l.getD k 0) = false := by simpa using hh
        have hfin : Hid (l.all (holdsB x y) = false) := not_all_of_getD hlt hh'
        clear hall hh
        generalize l.getD k 0 = q at *
        go_wp2
        refine wp_region_quiet_ext (by kernel_rfl) (by kernel_rfl) ?_
        repeat (go_big_quiet_step ((go_at_call 24; exact Calls.quiet_ext (r04Holds_any _ _ _ _))))
        refine wpQuiet_nil ?_
        intro w2 hx2
        go_wp2
        go_ret
        exact ⟨ret_bool hfin.out.symm, hx1.trans (hxr.trans hx2)⟩
    · have hfin : Hid (l.all (holdsB x y) = true) := all_of_getD fun j hj => hall.out j (by omega)
      clear hall
      go_wp2
      go_ret
      exact ⟨ret_bool hfin.out.symm, hx1.trans hxr⟩
set_option maxHeartbeats 2000000 in
theorem r05Check_any (n : Int) (lv : Value) (ll : List (List Int)) (w : World) (hL : RowsAt w lv ll) :
    Calls Try.prog 34 #[.agg #[.int .i64 n, lv]] w fun e w' => e = .returned (.int .i64 (theoryErr n ll)) ∧ Ex w w' := by
  obtain ⟨a, cap, rfl, h1, h2, h3⟩ := hL
  unfold maxLen at h2
  by_cases hn : n < 0
  · have : theoryErr n ll = 6 := by simp [theoryErr, hn]
    rw [this]
    go_enter Try.func34, Try.ntmps34
    go_wp2
    go_ret
    exact ⟨rfl, Ex.alloc _ _⟩
  by_cases hn2 : 128 < n
  · have : theoryErr n ll = 6 := by simp [theoryErr, hn2]
    rw [this]
    go_enter Try.func34, Try.ntmps34
    go_wp2
    go_ret
    exact ⟨rfl, Ex.alloc _ _⟩
  by_cases hl : 4096 < ll.length
  · have : theoryErr n ll = 2 := by simp [theoryErr, hn, hn2, hl]
    rw [this]
    go_enter Try.func34, Try.ntmps34
    go_wp2
    go_ret
    exact ⟨rfl, Ex.alloc _ _⟩
  have : theoryErr n ll = rowsErr n ll := by simp [theoryErr, hn, hn2, hl]
  rw [this]
  have hR : RowsAt w (.slice a ll.length cap) ll := ⟨a, cap, rfl, h1, by unfold maxLen; exact h2, h3⟩
  clear h3 this
  go_enter Try.func34, Try.ntmps34
  go_wp2
  generalize hw1 : w.alloc (.cells #[.int .i64 n, .slice a ll.length cap] 24) = w1
  have hx1 : Ex w w1 := hw1 ▸ Ex.alloc _ _
  have c0 : w1.cell? ⟨w.heap.size, 0, none⟩ = some (.int .i64 n) := by rw [← hw1]; simp
  have c1 : w1.cell? ⟨w.heap.size, 1, none⟩ = some (.slice a ll.length cap) := by rw [← hw1]; simp
  replace hR := hR.ex hx1
  clear hw1
  go_loopw [3] (fun i wr => ∃ k : Nat, k ≤ ll.length ∧ i = .int .i64 k ∧ Hid (rowsErr n ll = rowsErr n (ll.drop k)) ∧ Ex w1 wr) (fun i _ => ll.length - (intOf i).toNat)
  case atStart => exact ⟨0, Nat.zero_le _, rfl, rfl, Ex.refl _⟩
  case round =>
    obtain ⟨k, hk, rfl, hd, hxr⟩ := hrel
    have c0r := (hxr.cell (p := ⟨w.heap.size, 0, none⟩) (cell_lt c0)).trans c0
    have c1r := (hxr.cell (p := ⟨w.heap.size, 1, none⟩) (cell_lt c1)).trans c1
    by_cases hlt : k < ll.length
    · have hRr := hR.ex hxr
      obtain ⟨_, _, hv, _, _, h3⟩ := hRr
      cases hv
      obtain ⟨b, off, rv, rfl, hb, hc, hr⟩ := h3 k hlt
      have hr0 := hr
      obtain ⟨ra, rcap, rfl, g1, g2, g3⟩ := hr
      clear h3 g3
      unfold maxLen at g2
      have hd2 : Hid (rowsErr n ll = if clauseErr n (ll.getD k []) = 0 then rowsErr n (ll.drop (k+1)) else clauseErr n (ll.getD k [])) := by
        show _ = _
        rw [hd.out, rowsErr_drop n ll k hlt]
      clear hd
      generalize hrow : ll.getD k [] = row at *
      clear hrow
      by_cases hlen : 128 < row.length
      · have hd3 : Hid (rowsErr n ll = 2) := by
          show _ = _
          rw [hd2.out]; simp [clauseErr, hlen]
        clear hd2
        go_wp2
        go_ret
        exact ⟨ret_int hd3.out.symm, hx1.trans hxr⟩
      · go_wp2
        obtain ⟨wk, rfl⟩ : ∃ wo : World, wo = wr := ⟨_, rfl⟩
        go_loopw [4] (fun i wr => ∃ m : Nat, m ≤ row.length ∧ i = .int .i64 m ∧ Hid (∀ j, j < m → litValid (row.getD j 0) n = true) ∧ Ex wk wr) (fun i _ => row.length - (intOf i).toNat)
        case atStart => exact ⟨0, Nat.zero_le _, rfl, fun j hj => by omega, Ex.refl _⟩
        case round =>
          obtain ⟨m, hm, rfl, hall, hxr2⟩ := hrel
          have hcs := (hxr2.cell (p := ⟨b, off + k, none⟩) hb).trans hc
          have c0s := (hxr2.cell (p := ⟨w.heap.size, 0, none⟩) (cell_lt c0r)).trans c0r
          have c1s := (hxr2.cell (p := ⟨w.heap.size, 1, none⟩) (cell_lt c1r)).trans c1r
          by_cases hlt2 : m < row.length
          · have hr2 := hr0.ex hxr2
            obtain ⟨_, _, hv, _, _, g3⟩ := hr2
            cases hv
            obtain ⟨rb, roff, rfl, hrb, hrc⟩ := g3 m hlt2
            clear g3
            have hcx := ext_cell hcs
            have c0x := ext_cell c0s
            have c1x := ext_cell c1s
            have hrx := ext_cell hrc
            by_cases hval : litValid (row.getD m 0) n = true
            · have hall2 : Hid (∀ j, j < m + 1 → litValid (row.getD j 0) n = true) := fun j hj => by
                by_cases hjm : j = m
                · subst hjm; exact hval
                · exact hall.out j (by omega)
              clear hall
              generalize row.getD m 0 = x at *
              go_wp2
              refine wp_region_quiet_ext (by kernel_rfl) (by kernel_rfl) ?_
              repeat (go_big_quiet_step ((go_at_call 48; exact Calls.quiet_ext_same (r05Valid_any _ _ (by omega) (by omega) _))))
              refine wpQuiet_nil ?_
              intro w2 hx2
              go_wp2
              go_roundw
              case rel => exact ⟨m + 1, by omega, by go_num, hall2, hxr2.trans hx2⟩
              case measure => simp [intOf]; omega
            · have hval' : litValid (row.getD m 0) n = false := by simpa using hval
              have hd3 : Hid (rowsErr n ll = 1) := by
                show _ = _
                rw [hd2.out, clauseErr_bad hlen hlt2 hval']; simp
              clear hall hd2
              clear hval
              generalize row.getD m 0 = x at *
              go_wp2
              refine wp_region_quiet_ext (by kernel_rfl) (by kernel_rfl) ?_
              repeat (go_big_quiet_step ((go_at_call 48; exact Calls.quiet_ext_same (r05Valid_any _ _ (by omega) (by omega) _))))
              refine wpQuiet_nil ?_
              intro w2 hx2
              go_wp2
              go_ret
              exact ⟨ret_int hd3.out.symm, hx1.trans (hxr.trans (hxr2.trans hx2))⟩
          · have hd3 : Hid (rowsErr n ll = rowsErr n (ll.drop (k+1))) := by
              show _ = _
              rw [hd2.out, if_pos]
              exact clauseErr_ok hlen fun j hj => hall.out j (by omega)
            clear hd2 hall
            go_wp2
            go_roundw
            case rel => exact ⟨k + 1, by omega, by go_num, hd3, hxr.trans hxr2⟩
            case measure => simp [intOf]; omega
    · have hd3 : Hid (rowsErr n ll = 0) := by
        show _ = _
        rw [hd.out, List.drop_eq_nil_of_le (by omega)]; rfl
      clear hd
      go_wp2
      go_ret
      exact ⟨ret_int hd3.out.symm, hx1.trans hxr⟩
end Go.Proofs.Ytlaejhmpnlcceaa
