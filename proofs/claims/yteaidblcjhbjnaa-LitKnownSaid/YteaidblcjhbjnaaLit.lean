/- Literals, sets and the check of a theory: each Go function returns what the plain definition says, and old memory stays. No condition but that the arguments can be read. -/
import Derived.Test.YteaidblcjhbjnaaBase
namespace Go.Proofs.Yteaidblcjhbjnaa
set_option linter.unusedSimpArgs false
set_option linter.unusedVariables false
open Go.RowKit

set_option maxHeartbeats 400000 in
theorem litVar_any (l : Int) (w : World) :
    Calls Try.prog 12 #[.int .i64 l] w fun e w' => e = .returned (.int .i64 (litVar l)) ∧ w = w' := by
  go_enter Try.func12, Try.ntmps12
  go_wp2
  all_goals go_ret
  all_goals exact ⟨ret_int (by unfold litVar; (repeat' split) <;> omega), rfl⟩
set_option maxHeartbeats 400000 in
theorem litValid_any (l n : Int) (w : World) :
    Calls Try.prog 14 #[.int .i64 l, .int .i64 n] w fun e w' => e = .returned (.bool (litValid l n)) ∧ w = w' := by
  by_cases h0 : litVar l = 0
  · have h1 : (litVar l != 0) = false := by simp [h0]
    have : litValid l n = false := by simp [litValid, h0]
    rw [this]; clear this h0
    go_enter Try.func14, Try.ntmps14
    go_wp2_with (go_at_call 12; refine (litVar_any _ _).mono ?_; rintro e w' ⟨rfl, rfl⟩)
    go_ret
    exact ⟨rfl, rfl⟩
  · have h1 : (litVar l != 0) = true := by simp [h0]
    have : litValid l n = decide (litVar l ≤ n) := by simp [litValid, h1]
    rw [this]; clear this h0
    go_enter Try.func14, Try.ntmps14
    go_wp2_with (go_at_call 12; refine (litVar_any _ _).mono ?_; rintro e w' ⟨rfl, rfl⟩)
    go_ret
    exact ⟨rfl, rfl⟩
set_option maxHeartbeats 400000 in
theorem r04Var_any (l : Int) (w : World) :
    Calls Try.prog 13 #[.int .i64 l] w fun e w' => e = .returned (.int .i64 (litVar l)) ∧ w = w' := by
  go_enter Try.func13, Try.ntmps13
  go_wp2
  all_goals go_ret
  all_goals exact ⟨ret_int (by unfold litVar; (repeat' split) <;> omega), rfl⟩
set_option maxHeartbeats 400000 in
theorem r04Valid_any (l n : Int) (w : World) :
    Calls Try.prog 15 #[.int .i64 l, .int .i64 n] w fun e w' => e = .returned (.bool (litValid l n)) ∧ w = w' := by
  have hr := litVar_range l
  by_cases h0 : litVar l = 0
  · have h1 : ¬ 0 < litVar l := by omega
    have : litValid l n = false := by simp [litValid, h0]
    rw [this]; clear this h0
    go_enter Try.func15, Try.ntmps15
    go_wp2_with (go_at_call 13; refine (r04Var_any _ _).mono ?_; rintro e w' ⟨rfl, rfl⟩)
    go_ret
    exact ⟨rfl, rfl⟩
  · have h1 : 0 < litVar l := by omega
    have : litValid l n = decide (litVar l ≤ n) := by simp [litValid, h0]
    rw [this]; clear this h0
    go_enter Try.func15, Try.ntmps15
    go_wp2_with (go_at_call 13; refine (r04Var_any _ _).mono ?_; rintro e w' ⟨rfl, rfl⟩)
    go_ret
    exact ⟨rfl, rfl⟩
set_option maxHeartbeats 400000 in
theorem varsPlace_no (v : Int) (h : v < 1 ∨ 128 < v) (w : World) :
    Calls Try.prog 57 #[.int .i64 v] w fun e w' => e = .returned (.tuple #[.int .i64 0, .int .u64 0, .bool false]) ∧ w = w' := by
  rcases h with h | h
  · go_enter Try.func57, Try.ntmps57
    go_wp2
    go_ret3
    exact ⟨rfl, rfl⟩
  · have h' : ¬ v < 1 := by omega
    go_enter Try.func57, Try.ntmps57
    go_wp2
    go_ret3
    exact ⟨rfl, rfl⟩
set_option maxHeartbeats 400000 in
theorem r04In_any (x y : Nat) (v : Int) (h1 : 1 ≤ v) (h2 : v ≤ 128) (w : World) :
    Calls Try.prog 47 #[setV x y, .int .i64 v] w fun e w' => e = .returned (.bool (hasB x y v)) ∧ Ex w w' := by
  unfold setV
  by_cases h3 : v ≤ 64
  · have hq : (v - 1) / 64 = 0 := by omega
    go_enter Try.func47, Try.ntmps47
    go_wp2
    go_ret
    exact ⟨ret_bool ((bit_form _ _).trans (hasB_fst x y h1 h3).symm), Ex.alloc _ _⟩
  · have hq : (v - 1) / 64 = 1 := by omega
    go_enter Try.func47, Try.ntmps47
    go_wp2
    go_ret
    exact ⟨ret_bool ((bit_form _ _).trans (hasB_snd x y h2 (by omega)).symm), Ex.alloc _ _⟩
end Go.Proofs.Yteaidblcjhbjnaa
