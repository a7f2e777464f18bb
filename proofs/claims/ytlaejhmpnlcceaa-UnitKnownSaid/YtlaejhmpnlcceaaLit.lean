/- Literals, sets and the check of a theory: each Go function returns what the plain definition says, and old memory stays. No condition but that the arguments can be read. -/
import Derived.Test.YtlaejhmpnlcceaaBase
namespace Go.Proofs.Ytlaejhmpnlcceaa
set_option linter.unusedSimpArgs false
set_option linter.unusedVariables false
open Go.RowKit

set_option maxHeartbeats 400000 in
theorem litVar_any (l : Int) (w : World) :
    Calls Try.prog 46 #[.int .i64 l] w fun e w' => e = .returned (.int .i64 (litVar l)) ∧ w = w' := by
  go_enter Try.func46, Try.ntmps46
  go_wp2
  all_goals go_ret
  all_goals exact ⟨ret_int (by unfold litVar; (repeat' split) <;> omega), rfl⟩
set_option maxHeartbeats 400000 in
theorem litValid_any (l n : Int) (w : World) :
    Calls Try.prog 30 #[.int .i64 l, .int .i64 n] w fun e w' => e = .returned (.bool (litValid l n)) ∧ w = w' := by
  by_cases h0 : litVar l = 0
  · have h1 : (litVar l != 0) = false := by simp [h0]
    have : litValid l n = false := by simp [litValid, h0]
    rw [this]; clear this h0
    go_enter Try.func30, Try.ntmps30
    go_wp2_with (go_at_call 46; refine (litVar_any _ _).mono ?_; rintro e w' ⟨rfl, rfl⟩)
    go_ret
    exact ⟨rfl, rfl⟩
  · have h1 : (litVar l != 0) = true := by simp [h0]
    have : litValid l n = decide (litVar l ≤ n) := by simp [litValid, h1]
    rw [this]; clear this h0
    go_enter Try.func30, Try.ntmps30
    go_wp2_with (go_at_call 46; refine (litVar_any _ _).mono ?_; rintro e w' ⟨rfl, rfl⟩)
    go_ret
    exact ⟨rfl, rfl⟩
set_option maxHeartbeats 400000 in
theorem r04Var_any (l : Int) (w : World) :
    Calls Try.prog 42 #[.int .i64 l] w fun e w' => e = .returned (.int .i64 (litVar l)) ∧ w = w' := by
  go_enter Try.func42, Try.ntmps42
  go_wp2
  all_goals go_ret
  all_goals exact ⟨ret_int (by unfold litVar; (repeat' split) <;> omega), rfl⟩
set_option maxHeartbeats 400000 in
theorem r04Valid_any (l n : Int) (w : World) :
    Calls Try.prog 49 #[.int .i64 l, .int .i64 n] w fun e w' => e = .returned (.bool (litValid l n)) ∧ w = w' := by
  have hr := litVar_range l
  by_cases h0 : litVar l = 0
  · have h1 : ¬ 0 < litVar l := by omega
    have : litValid l n = false := by simp [litValid, h0]
    rw [this]; clear this h0
    go_enter Try.func49, Try.ntmps49
    go_wp2_with (go_at_call 42; refine (r04Var_any _ _).mono ?_; rintro e w' ⟨rfl, rfl⟩)
    go_ret
    exact ⟨rfl, rfl⟩
  · have h1 : 0 < litVar l := by omega
    have : litValid l n = decide (litVar l ≤ n) := by simp [litValid, h0]
    rw [this]; clear this h0
    go_enter Try.func49, Try.ntmps49
    go_wp2_with (go_at_call 42; refine (r04Var_any _ _).mono ?_; rintro e w' ⟨rfl, rfl⟩)
    go_ret
    exact ⟨rfl, rfl⟩
set_option maxHeartbeats 400000 in
theorem r05Valid_any (l n : Int) (h0 : 0 ≤ n) (h1 : n ≤ 128) (w : World) :
    Calls Try.prog 48 #[.int .i64 l, .int .i64 n] w fun e w' => e = .returned (.bool (litValid l n)) ∧ w = w' := by
  by_cases a0 : (l != 0) = true
  · by_cases a1 : -n ≤ l
    · go_enter Try.func48, Try.ntmps48
      go_wp2
      go_ret
      refine ⟨ret_bool ?_, rfl⟩
      rw [Bool.eq_iff_iff, litValid_iff]
      simp at a0 ⊢
      omega
    · go_enter Try.func48, Try.ntmps48
      go_wp2
      go_ret
      refine ⟨ret_bool ?_, rfl⟩
      rw [Bool.eq_iff_iff, litValid_iff]
      simp at a0 ⊢
      omega
  · have a2 : (l != 0) = false := by simpa using a0
    clear a0
    go_enter Try.func48, Try.ntmps48
    go_wp2
    go_ret
    refine ⟨ret_bool ?_, rfl⟩
    rw [Bool.eq_iff_iff, litValid_iff]
    simp at a2 ⊢
    omega
set_option maxHeartbeats 400000 in
theorem r05Has_any (x y : Nat) (v : Int) (w : World) :
    Calls Try.prog 55 #[setV x y, .int .i64 v] w fun e w' => e = .returned (.bool (hasB x y v)) ∧ Ex w w' := by
  unfold setV
  by_cases h1 : 1 ≤ v
  · by_cases h2 : v ≤ 128
    · by_cases h3 : v ≤ 64
      · have hq : (v - 1) / 64 = 0 := by omega
        go_enter Try.func55, Try.ntmps55
        go_wp2
        go_ret
        exact ⟨ret_bool ((bit_form _ _).trans (hasB_fst x y h1 h3).symm), Ex.alloc _ _⟩
      · have hq : (v - 1) / 64 = 1 := by omega
        go_enter Try.func55, Try.ntmps55
        go_wp2
        go_ret
        exact ⟨ret_bool ((bit_form _ _).trans (hasB_snd x y h2 (by omega)).symm), Ex.alloc _ _⟩
    · go_enter Try.func55, Try.ntmps55
      go_wp2
      go_ret
      exact ⟨ret_bool (hasB_high x y (by omega)).symm, Ex.alloc _ _⟩
  · go_enter Try.func55, Try.ntmps55
    go_wp2
    go_ret
    exact ⟨ret_bool (hasB_low x y (by omega)).symm, Ex.alloc _ _⟩
set_option maxHeartbeats 400000 in
theorem r05Holds_any (x y : Nat) (l : Int) (h : litVar l ≠ 0) (w : World) :
    Calls Try.prog 41 #[setV x y, .int .i64 l] w fun e w' => e = .returned (.bool (holdsB x y l)) ∧ Ex w w' := by
  unfold setV
  by_cases h1 : l < 0
  · have e0 : litVar l = -l := by unfold litVar at *; (repeat' split) <;> simp_all <;> omega
    have e1 : holdsB x y l = !hasB x y (-l) := by
      unfold holdsB; rw [e0]; have : ¬ (0 < l) := by omega
      have h2 : (-l != 0) = true := by simp; omega
      rw [h2, decide_eq_false this]; cases hasB x y (-l) <;> rfl
    have e2 : -128 ≤ l := by unfold litVar at e0; (repeat' split at e0) <;> omega
    rw [e1]; clear e1 e0 h
    go_enter Try.func41, Try.ntmps41
    go_wp2_with (go_at_call 55; refine (r05Has_any _ _ _ _).mono ?_; rintro e w' ⟨rfl, hx⟩)
    go_ret
    exact ⟨rfl, (Ex.alloc _ _).trans hx⟩
  · have e0 : litVar l = l := by unfold litVar at *; (repeat' split) <;> simp_all <;> omega
    have e1 : holdsB x y l = hasB x y l := by
      unfold holdsB; rw [e0]
      have h2 : (l != 0) = true := by rw [e0] at h; simpa using h
      rw [h2, decide_eq_true (show 0 < l by rw [e0] at h; omega)]; cases hasB x y l <;> rfl
    rw [e1]; clear e1 e0 h
    go_enter Try.func41, Try.ntmps41
    go_wp2_with (go_at_call 55; refine (r05Has_any _ _ _ _).mono ?_; rintro e w' ⟨rfl, hx⟩)
    go_ret
    exact ⟨rfl, (Ex.alloc _ _).trans hx⟩
set_option maxHeartbeats 400000 in
theorem r04In_any (x y : Nat) (v : Int) (h1 : 1 ≤ v) (h2 : v ≤ 128) (w : World) :
    Calls Try.prog 43 #[setV x y, .int .i64 v] w fun e w' => e = .returned (.bool (hasB x y v)) ∧ Ex w w' := by
  unfold setV
  by_cases h3 : v ≤ 64
  · have hq : (v - 1) / 64 = 0 := by omega
    go_enter Try.func43, Try.ntmps43
    go_wp2
    go_ret
    exact ⟨ret_bool ((bit_form _ _).trans (hasB_fst x y h1 h3).symm), Ex.alloc _ _⟩
  · have hq : (v - 1) / 64 = 1 := by omega
    go_enter Try.func43, Try.ntmps43
    go_wp2
    go_ret
    exact ⟨ret_bool ((bit_form _ _).trans (hasB_snd x y h2 (by omega)).symm), Ex.alloc _ _⟩
set_option maxHeartbeats 1000000 in
theorem theoryCheck_any (n : Int) (lv : Value) (ll : List (List Int)) (w : World) (hL : RowsAt w lv ll) :
    Calls Try.prog 27 #[.agg #[.int .i64 n, lv]] w fun e w' => e = .returned (.int .i64 (theoryErr n ll)) ∧ Ex w w' := by
  obtain ⟨a, cap, rfl, h1, h2, h3⟩ := hL
  unfold maxLen at h2
  by_cases hn : n < 0
  · have : theoryErr n ll = 6 := by simp [theoryErr, hn]
    rw [this]
    go_enter Try.func27, Try.ntmps27
    go_wp2
    go_ret
    exact ⟨rfl, Ex.alloc _ _⟩
  by_cases hn2 : 128 < n
  · have : theoryErr n ll = 6 := by simp [theoryErr, hn2]
    rw [this]
    go_enter Try.func27, Try.ntmps27
    go_wp2
    go_ret
    exact ⟨rfl, Ex.alloc _ _⟩
  by_cases hl : 4096 < ll.length
  · have : theoryErr n ll = 2 := by simp [theoryErr, hn, hn2, hl]
    rw [this]
    go_enter Try.func27, Try.ntmps27
    go_wp2
    go_ret
    exact ⟨rfl, Ex.alloc _ _⟩
  have : theoryErr n ll = rowsErr n ll := by simp [theoryErr, hn, hn2, hl]
  rw [this]
  go_enter Try.func27, Try.ntmps27
  go_wp2
  have hw1 : RowsAt (w.alloc (.cells #[.int .i64 n, .slice a ll.length cap] 24)) (.slice a ll.length cap) ll := RowsAt.ex ⟨a, cap, rfl, h1, by unfold maxLen; exact h2, h3⟩ (Ex.alloc _ _)
  clear h3 this
  go_loop [22] (fun i => ∃ k : Nat, k ≤ ll.length ∧ i = .int .i64 k ∧ Hid (rowsErr n ll = rowsErr n (ll.drop k))) (fun i => ll.length - (intOf i).toNat)
  case atStart => exact ⟨0, Nat.zero_le _, rfl, rfl⟩
  case round =>
    obtain ⟨k, hk, rfl, hd⟩ := hrel
    by_cases hlt : k < ll.length
    · obtain ⟨_, _, hv, _, _, h3⟩ := hw1
      cases hv
      obtain ⟨b, off, rv, rfl, hb, hc, hr⟩ := h3 k hlt
      obtain ⟨ra, rcap, rfl, g1, g2, g3⟩ := hr
      clear h3
      unfold maxLen at g2
      have hd2 : Hid (rowsErr n ll = if clauseErr n (ll.getD k []) = 0 then rowsErr n (ll.drop (k+1)) else clauseErr n (ll.getD k [])) := by
        show _ = _
        rw [hd.out, rowsErr_drop n ll k hlt]
      clear hd
      generalize hrow : ll.getD k [] = row at *
      clear hrow
      by_cases hlen : 128 < row.length
      · have hd3 : Hid (rowsErr n ll = 2) := by
          show _ = _
          rw [hd2.out]; simp [clauseErr, hlen]
        clear hd2
        go_wp2
        go_ret
        exact ⟨ret_int hd3.out.symm, Ex.alloc _ _⟩
      · go_wp2
        go_loop [31] (fun i => ∃ m : Nat, m ≤ row.length ∧ i = .int .i64 m ∧ Hid (∀ j, j < m → litValid (row.getD j 0) n = true)) (fun i => row.length - (intOf i).toNat)
        case atStart => exact ⟨0, Nat.zero_le _, rfl, fun j hj => by omega⟩
        case round =>
          obtain ⟨m, hm, rfl, hall⟩ := hrel
          by_cases hlt2 : m < row.length
          · obtain ⟨rb, roff, rfl, hrb, hrc⟩ := g3 m hlt2
            by_cases hval : litValid (row.getD m 0) n = true
            · have hall2 : Hid (∀ j, j < m + 1 → litValid (row.getD j 0) n = true) := fun j hj => by
                by_cases hjm : j = m
                · subst hjm; exact hval
                · exact hall.out j (by omega)
              clear hall g3
              generalize row.getD m 0 = x at *
              go_wp2_with (go_at_call 30; refine (litValid_any _ _ _).mono ?_; rintro e w' ⟨rfl, rfl⟩)
              go_round
              case rel => exact ⟨m + 1, by omega, by go_num, hall2⟩
              case measure => simp [intOf]; omega
            · have hval' : litValid (row.getD m 0) n = false := by simpa using hval
              have hd3 : Hid (rowsErr n ll = 1) := by
                show _ = _
                rw [hd2.out, clauseErr_bad hlen hlt2 hval']; simp
              clear hall g3 hd2
              clear hval
              generalize row.getD m 0 = x at *
              go_wp2_with (go_at_call 30; refine (litValid_any _ _ _).mono ?_; rintro e w' ⟨rfl, rfl⟩)
              go_ret
              exact ⟨ret_int hd3.out.symm, Ex.alloc _ _⟩
          · have hd3 : Hid (rowsErr n ll = rowsErr n (ll.drop (k+1))) := by
              show _ = _
              rw [hd2.out, if_pos]
              exact clauseErr_ok hlen fun j hj => hall.out j (by omega)
            clear hd2 hall
            go_wp2
            go_round
            case rel => exact ⟨k + 1, by omega, by go_num, hd3⟩
            case measure => simp [intOf]; omega
    · have hd3 : Hid (rowsErr n ll = 0) := by
        show _ = _
        rw [hd.out, List.drop_eq_nil_of_le (by omega)]; rfl
      clear hd
      go_wp2
      go_ret
      exact ⟨ret_int hd3.out.symm, Ex.alloc _ _⟩
end Go.Proofs.Ytlaejhmpnlcceaa
