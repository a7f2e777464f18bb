/- A set with one variable more: which it has. No condition. -/
import Derived.Test.YteagoaiiacideaaG2
namespace Go.Proofs.Yteagoaiiacideaa
set_option linter.unusedSimpArgs false
set_option linter.unusedVariables false
open Go.RowKit
theorem bitOf_test (v : Int) (i : Nat) : (bitOf v).testBit i = decide (((v - 1) % 64).toNat = i) := by unfold bitOf; rw [Nat.testBit_two_pow]
theorem hasB_withV {s : Nat × Nat} {v : Int} (h1 : 1 ≤ v) (h2 : v ≤ 128) (u : Int) : hasB (withV s v).1 (withV s v).2 u = (hasB s.1 s.2 u || decide (u = v)) := by
  by_cases hu : 1 ≤ u
  · by_cases hu2 : u ≤ 128
    · unfold withV
      by_cases hv : v ≤ 64
      · rw [if_pos hv]
        by_cases hu3 : u ≤ 64
        · rw [hasB_fst _ _ hu hu3, hasB_fst _ _ hu hu3]
          simp only [Nat.testBit_or, bitOf_test]
          congr 1
          rw [decide_eq_decide]; omega
        · rw [hasB_snd _ _ hu2 hu3, hasB_snd _ _ hu2 hu3, decide_eq_false (by omega), Bool.or_false]
      · rw [if_neg hv]
        by_cases hu3 : u ≤ 64
        · rw [hasB_fst _ _ hu hu3, hasB_fst _ _ hu hu3, decide_eq_false (by omega), Bool.or_false]
        · rw [hasB_snd _ _ hu2 hu3, hasB_snd _ _ hu2 hu3]
          simp only [Nat.testBit_or, bitOf_test]
          congr 1
          rw [decide_eq_decide]; omega
    · rw [hasB_high _ _ hu2, hasB_high _ _ hu2, decide_eq_false (by omega)]; rfl
  · rw [hasB_low _ _ hu, hasB_low _ _ hu, decide_eq_false (by omega)]; rfl
theorem withV_lt {s : Nat × Nat} {v : Int} (hx : s.1 < 2 ^ 64) (hy : s.2 < 2 ^ 64) : (withV s v).1 < 2 ^ 64 ∧ (withV s v).2 < 2 ^ 64 := by
  unfold withV
  split
  · exact ⟨Nat.or_lt_two_pow hx (by have := bitOf_lt v; omega), hy⟩
  · exact ⟨hx, Nat.or_lt_two_pow hy (by have := bitOf_lt v; omega)⟩
end Go.Proofs.Yteagoaiiacideaa
