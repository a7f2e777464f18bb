/- Sets of variables: each Go function returns what the plain definition says, and old memory stays. No condition but that the words fit. -/
import Derived.Test.YtlaejhmpnlcceaaLit
import Derived.Test.YtlaejhmpnlcceaaEqSet
import Derived.Laws.BitsAllLaws
namespace Go.Proofs.Ytlaejhmpnlcceaa
set_option linter.unusedSimpArgs false
set_option linter.unusedVariables false
open Go.RowKit

theorem wrap_bit {u : Nat} (h : u < 64) : IntKind.u64.wrap (2 ^ u) = ((2 ^ u : Nat) : Int) := by
  have h1 : 2 ^ u < 2 ^ 64 := Nat.pow_lt_pow_right (by decide) h
  have e : ((2 : Int) ^ u) = ((2 ^ u : Nat) : Int) := by simp
  rw [IntKind.wrap_u64, e]
  generalize 2 ^ u = p at *
  omega
/-- The bit of a variable in its word. -/
def bitOf (v : Int) : Nat := 2 ^ ((v - 1) % 64).toNat
theorem bitOf_lt (v : Int) : bitOf v < 18446744073709551616 := by
  have : bitOf v < 2 ^ 64 := Nat.pow_lt_pow_right (by decide) (by omega)
  omega
theorem and_two_pow' (x k : Nat) : x &&& 2 ^ k = if x.testBit k then 2 ^ k else 0 := by
  apply Nat.eq_of_testBit_eq
  intro i
  rw [Nat.testBit_and, Nat.testBit_two_pow]
  by_cases h : k = i
  · subst h
    cases hx : x.testBit k <;> simp
  · cases hx : x.testBit k <;> simp [h, Nat.testBit_two_pow]
theorem and_bit (x k : Nat) : (((x &&& 2 ^ k : Nat) : Int) != 0) = x.testBit k := by
  have hp : 0 < 2 ^ k := Nat.pow_pos (by decide)
  rw [and_two_pow']
  generalize 2 ^ k = p at *
  cases x.testBit k
  · simp
  · simp; omega
end Go.Proofs.Ytlaejhmpnlcceaa
