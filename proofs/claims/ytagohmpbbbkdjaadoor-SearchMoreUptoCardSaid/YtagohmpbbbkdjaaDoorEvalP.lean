/- theory.Eval is the truth of the chapter: the plain law. No condition but words of 64 bits. -/
import Derived.Test.YtagohmpbbbkdjaaDoorEvalT
import Derived.Test.YtagohmpbbbkdjaaDoorLeast
namespace Go.Proofs.YtagohmpbbbkdjaaDoor
set_option linter.unusedSimpArgs false
set_option linter.unusedVariables false
open Go.RowKit
set_option maxRecDepth 20000
theorem andNot_zero {x u : Nat} (hu : u < 18446744073709551616) (hx : x < 18446744073709551616) : x &&& (18446744073709551615 - u) = 0 ↔ ∀ i, i < 64 → x.testBit i = true → u.testBit i = true := by
  have e : 18446744073709551615 - u = 2 ^ 64 - (u + 1) := by omega
  have hu' : u < 2 ^ 64 := hu
  rw [e]
  constructor
  · intro h i hi hb
    have := congrArg (fun z : Nat => z.testBit i) h
    simp only [Nat.testBit_and, Nat.testBit_two_pow_sub_succ hu', hb, Nat.zero_testBit, hi, decide_true, Bool.true_and] at this
    simpa using this
  · intro h
    apply Nat.eq_of_testBit_eq
    intro i
    rw [Nat.testBit_and, Nat.testBit_two_pow_sub_succ hu', Nat.zero_testBit]
    by_cases hi : i < 64
    · cases hb : x.testBit i with
      | false => rfl
      | true => rw [h i hi hb]; simp
    · simp [hi]
theorem hasB_all : ∀ (m : Nat), m ≤ 128 → ∀ v : Int, hasB (allV m).1 (allV m).2 v = (decide (1 ≤ v) && decide (v ≤ m))
  | 0, _, v => by
    have : hasB (allV 0).1 (allV 0).2 v = false := by show hasB 0 0 v = false; unfold hasB; simp
    rw [this]
    symm
    simp only [Bool.and_eq_false_iff, decide_eq_false_iff_not]
    omega
  | m + 1, hm, v => by
    rw [allV_succ, hasB_withV (by omega) (by omega), hasB_all m (by omega) v, Bool.eq_iff_iff]
    simp only [Bool.or_eq_true, Bool.and_eq_true, decide_eq_true_eq]
    omega
theorem sub_assign {x y : Nat} (hx : x < 18446744073709551616) (hy : y < 18446744073709551616) {m : Nat} (hm : m ≤ 128) : subB x y (allV m).1 (allV m).2 = assignB x y m := by
  obtain ⟨h1, h2⟩ := allV_lt m
  rw [Bool.eq_iff_iff]
  unfold subB
  rw [Bool.and_eq_true, decide_eq_true_eq, decide_eq_true_eq, andNot_zero h1 hx, andNot_zero h2 hy, assignB_iff]
  constructor
  · rintro ⟨q1, q2⟩ v hv
    rw [← Bool.not_eq_true]
    intro hb
    have r1 : 1 ≤ v := Int.not_lt.1 fun h => by rw [hasB_low x y (by omega)] at hb; cases hb
    have r2 : v ≤ 128 := Int.not_lt.1 fun h => by rw [hasB_high x y (by omega)] at hb; cases hb
    have ha : hasB (allV m).1 (allV m).2 v = true := by
      by_cases r3 : v ≤ 64
      · rw [hasB_fst _ _ r1 r3] at hb ⊢
        exact q1 _ (by omega) hb
      · rw [hasB_snd _ _ r2 r3] at hb ⊢
        exact q2 _ (by omega) hb
    rw [hasB_all m hm] at ha
    simp only [Bool.and_eq_true, decide_eq_true_eq] at ha
    omega
  · intro h
    have key : ∀ v : Int, hasB x y v = true → hasB (allV m).1 (allV m).2 v = true := fun v hb => by
      have r1 : 1 ≤ v := Int.not_lt.1 fun h => by rw [hasB_low x y (by omega)] at hb; cases hb
      have r3 : v ≤ m := Int.not_lt.1 fun hl => by rw [h v hl] at hb; cases hb
      rw [hasB_all m hm]; simp [r1, r3]
    constructor
    · intro i hi hb
      have e : (((i : Int) + 1 - 1) % 64).toNat = i := by omega
      have := key ((i : Int) + 1) (by rw [hasB_fst x y (by omega) (by omega), e]; exact hb)
      rwa [hasB_fst _ _ (by omega) (by omega), e] at this
    · intro i hi hb
      have e : (((i : Int) + 65 - 1) % 64).toNat = i := by omega
      have := key ((i : Int) + 65) (by rw [hasB_snd x y (by omega) (by omega), e]; exact hb)
      rwa [hasB_snd _ _ (by omega) (by omega), e] at this
theorem evalT_eq {n : Int} {ll : List (List Int)} {x y : Nat} (hx : x < 18446744073709551616) (hy : y < 18446744073709551616) : evalT n ll x y = evalB n ll x y := by
  unfold evalT evalB
  by_cases he : theoryErr n ll = 0
  · obtain ⟨n0, n1, _⟩ := theoryErr_zero he
    have hc : ((n.toNat : Nat) : Int) = n := by omega
    have := sub_assign hx hy (m := n.toNat) (by omega)
    rw [this, hc]
  · simp [he]
end Go.Proofs.YtagohmpbbbkdjaaDoor
