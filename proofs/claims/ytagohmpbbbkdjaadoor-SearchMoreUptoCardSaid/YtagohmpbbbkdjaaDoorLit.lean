/- Literals, sets and the check of a theory: each Go function returns what the plain definition says, and old memory stays. No condition but that the arguments can be read. -/
import Derived.Test.YtagohmpbbbkdjaaDoorBase
namespace Go.Proofs.YtagohmpbbbkdjaaDoor
set_option linter.unusedSimpArgs false
set_option linter.unusedVariables false
open Go.RowKit

set_option maxHeartbeats 400000 in
theorem litVar_any (l : Int) (w : World) :
    Calls Tryd.prog 34 #[.int .i64 l] w fun e w' => e = .returned (.int .i64 (litVar l)) ∧ w = w' := by
  go_enter Tryd.func34, Tryd.ntmps34
  go_wp2
  all_goals go_ret
  all_goals exact ⟨ret_int (by unfold litVar; (repeat' split) <;> omega), rfl⟩
set_option maxHeartbeats 400000 in
theorem litValid_any (l n : Int) (w : World) :
    Calls Tryd.prog 14 #[.int .i64 l, .int .i64 n] w fun e w' => e = .returned (.bool (litValid l n)) ∧ w = w' := by
  by_cases h0 : litVar l = 0
  · have h1 : (litVar l != 0) = false := by simp [h0]
    have : litValid l n = false := by simp [litValid, h0]
    rw [this]; clear this h0
    go_enter Tryd.func14, Tryd.ntmps14
    go_wp2_with (go_at_call 34; refine (litVar_any _ _).mono ?_; rintro e w' ⟨rfl, rfl⟩)
    go_ret
    exact ⟨rfl, rfl⟩
  · have h1 : (litVar l != 0) = true := by simp [h0]
    have : litValid l n = decide (litVar l ≤ n) := by simp [litValid, h1]
    rw [this]; clear this h0
    go_enter Tryd.func14, Tryd.ntmps14
    go_wp2_with (go_at_call 34; refine (litVar_any _ _).mono ?_; rintro e w' ⟨rfl, rfl⟩)
    go_ret
    exact ⟨rfl, rfl⟩
set_option maxHeartbeats 400000 in
theorem varsPlace_no (v : Int) (h : v < 1 ∨ 128 < v) (w : World) :
    Calls Tryd.prog 43 #[.int .i64 v] w fun e w' => e = .returned (.tuple #[.int .i64 0, .int .u64 0, .bool false]) ∧ w = w' := by
  rcases h with h | h
  · go_enter Tryd.func43, Tryd.ntmps43
    go_wp2
    go_ret3
    exact ⟨rfl, rfl⟩
  · have h' : ¬ v < 1 := by omega
    go_enter Tryd.func43, Tryd.ntmps43
    go_wp2
    go_ret3
    exact ⟨rfl, rfl⟩
set_option maxHeartbeats 1000000 in
theorem theoryCheck_any (n : Int) (lv : Value) (ll : List (List Int)) (w : World) (hL : RowsAt w lv ll) :
    Calls Tryd.prog 13 #[.agg #[.int .i64 n, lv]] w fun e w' => e = .returned (.int .i64 (theoryErr n ll)) ∧ Ex w w' := by
  obtain ⟨a, cap, rfl, h1, h2, h3⟩ := hL
  unfold maxLen at h2
  by_cases hn : n < 0
  · have : theoryErr n ll = 6 := by simp [theoryErr, hn]
    rw [this]
    go_enter Tryd.func13, Tryd.ntmps13
    go_wp2
    go_ret
    exact ⟨rfl, Ex.alloc _ _⟩
  by_cases hn2 : 128 < n
  · have : theoryErr n ll = 6 := by simp [theoryErr, hn2]
    rw [this]
    go_enter Tryd.func13, Tryd.ntmps13
    go_wp2
    go_ret
    exact ⟨rfl, Ex.alloc _ _⟩
  by_cases hl : 4096 < ll.length
  · have : theoryErr n ll = 2 := by simp [theoryErr, hn, hn2, hl]
    rw [this]
    go_enter Tryd.func13, Tryd.ntmps13
    go_wp2
    go_ret
    exact ⟨rfl, Ex.alloc _ _⟩
  have : theoryErr n ll = rowsErr n ll := by simp [theoryErr, hn, hn2, hl]
  rw [this]
  go_enter Tryd.func13, Tryd.ntmps13
  go_wp2
  have hw1 : RowsAt (w.alloc (.cells #[.int .i64 n, .slice a ll.length cap] 24)) (.slice a ll.length cap) ll := RowsAt.ex ⟨a, cap, rfl, h1, by unfold maxLen; exact h2, h3⟩ (Ex.alloc _ _)
  clear h3 this
  go_loop [22] (fun i => ∃ k : Nat, k ≤ ll.length ∧ i = .int .i64 k ∧ Hid (rowsErr n ll = rowsErr n (ll.drop k))) (fun i => ll.length - (intOf i).toNat)
  case atStart => exact ⟨0, Nat.zero_le _, rfl, rfl⟩
  case round =>
    obtain ⟨k, hk, rfl, hd⟩ := hrel
    by_cases hlt : k < ll.length
    · obtain ⟨_, _, hv, _, _, h3⟩ := hw1
      cases hv
      obtain ⟨b, off, rv, rfl, hb, hc, hr⟩ := h3 k hlt
      obtain ⟨ra, rcap, rfl, g1, g2, g3⟩ := hr
      clear h3
      unfold maxLen at g2
      have hd2 : Hid (rowsErr n ll = if clauseErr n (ll.getD k []) = 0 then rowsErr n (ll.drop (k+1)) else clauseErr n (ll.getD k [])) := by
        show _ = _
        rw [hd.out, rowsErr_drop n ll k hlt]
      clear hd
      generalize hrow : ll.getD k [] = row at *
      clear hrow
      by_cases hlen : 128 < row.length
      · have hd3 : Hid (rowsErr n ll = 2) := by
          show _ = _
          rw [hd2.out]; simp [clauseErr, hlen]
        clear hd2
        go_wp2
        go_ret
        exact ⟨ret_int hd3.out.symm, Ex.alloc _ _⟩
      · go_wp2
        go_loop [31] (fun i => ∃ m : Nat, m ≤ row.length ∧ i = .int .i64 m ∧ Hid (∀ j, j < m → litValid (row.getD j 0) n = true)) (fun i => row.length - (intOf i).toNat)
        case atStart => exact ⟨0, Nat.zero_le _, rfl, fun j hj => by omega⟩
        case round =>
          obtain ⟨m, hm, rfl, hall⟩ := hrel
          by_cases hlt2 : m < row.length
          · obtain ⟨rb, roff, rfl, hrb, hrc⟩ := g3 m hlt2
            by_cases hval : litValid (row.getD m 0) n = true
            · have hall2 : Hid (∀ j, j < m + 1 → litValid (row.getD j 0) n = true) := fun j hj => by
                by_cases hjm : j = m
                · subst hjm; exact hval
                · exact hall.out j (by omega)
              clear hall g3
              generalize row.getD m 0 = x at *
              go_wp2_with (go_at_call 14; refine (litValid_any _ _ _).mono ?_; rintro e w' ⟨rfl, rfl⟩)
              go_round
              case rel => exact ⟨m + 1, by omega, by go_num, hall2⟩
              case measure => simp [intOf]; omega
            · have hval' : litValid (row.getD m 0) n = false := by simpa using hval
              have hd3 : Hid (rowsErr n ll = 1) := by
                show _ = _
                rw [hd2.out, clauseErr_bad hlen hlt2 hval']; simp
              clear hall g3 hd2
              clear hval
              generalize row.getD m 0 = x at *
              go_wp2_with (go_at_call 14; refine (litValid_any _ _ _).mono ?_; rintro e w' ⟨rfl, rfl⟩)
              go_ret
              exact ⟨ret_int hd3.out.symm, Ex.alloc _ _⟩
          · have hd3 : Hid (rowsErr n ll = rowsErr n (ll.drop (k+1))) := by
              show _ = _
              rw [hd2.out, if_pos]
              exact clauseErr_ok hlen fun j hj => hall.out j (by omega)
            clear hd2 hall
            go_wp2
            go_round
            case rel => exact ⟨k + 1, by omega, by go_num, hd3⟩
            case measure => simp [intOf]; omega
    · have hd3 : Hid (rowsErr n ll = 0) := by
        show _ = _
        rw [hd.out, List.drop_eq_nil_of_le (by omega)]; rfl
      clear hd
      go_wp2
      go_ret
      exact ⟨ret_int hd3.out.symm, Ex.alloc _ _⟩
end Go.Proofs.YtagohmpbbbkdjaaDoor
