/- The least assignment of the search is the least model by numbers. No Go in sight. -/
import Derived.Test.YtagohmpbbbkdjaaDoorTry
namespace Go.Proofs.YtagohmpbbbkdjaaDoor
set_option linter.unusedSimpArgs false
set_option linter.unusedVariables false
open Go.RowKit
set_option maxRecDepth 20000

/-- The number of an assignment, in the order of models. -/
def numOf (α : Nat → Bool) : Nat → Nat
  | 0 => 0
  | m + 1 => 2 * numOf α m + (α (m + 1)).toNat
theorem lt_of_bits {x y : Nat} (i : Nat) (hx : x.testBit i = false) (hy : y.testBit i = true) (h : ∀ j, i < j → x.testBit j = y.testBit j) : x < y := by
  have e : x / 2 ^ (i + 1) = y / 2 ^ (i + 1) := by
    apply Nat.eq_of_testBit_eq
    intro j
    rw [Nat.testBit_div_two_pow, Nat.testBit_div_two_pow]
    exact h _ (by omega)
  have a : ∀ z : Nat, z / 2 ^ (i + 1) = z / 2 ^ i / 2 := fun z => by rw [Nat.pow_succ, Nat.div_div_eq_div_mul]
  rw [a, a] at e
  rw [Nat.testBit_eq_decide_div_mod_eq] at hx hy
  simp only [decide_eq_false_iff_not, decide_eq_true_eq] at hx hy
  have : x / 2 ^ i < y / 2 ^ i := by omega
  refine Nat.lt_of_not_le fun hle => ?_
  have := Nat.div_le_div_right (c := 2 ^ i) hle
  omega
theorem numOf_lt (α : Nat → Bool) : ∀ n, numOf α n < 2 ^ n
  | 0 => by simp [numOf]
  | m + 1 => by
    have := numOf_lt α m
    simp only [numOf]
    rw [Nat.pow_succ]
    cases α (m + 1) <;> simp <;> omega
theorem numOf_bit (α : Nat → Bool) : ∀ n u, 1 ≤ u → u ≤ n → (numOf α n).testBit (n - u) = α u
  | 0, u, h1, h2 => by omega
  | m + 1, u, h1, h2 => by
    simp only [numOf]
    by_cases h : u = m + 1
    · subst h
      rw [Nat.sub_self, Nat.testBit_zero]
      cases α (m + 1) <;> simp <;> omega
    · have ih := numOf_bit α m u h1 (by omega)
      rw [show m + 1 - u = (m - u) + 1 by omega, Nat.testBit_succ]
      rw [show (2 * numOf α m + (α (m + 1)).toNat) / 2 = numOf α m by cases α (m + 1) <;> simp <;> omega]
      exact ih
/-- The assignment with a number. -/
def betaOf (n k : Nat) (u : Nat) : Bool := k.testBit (n - u)
theorem numOf_beta {n k : Nat} (hk : k < 2 ^ n) (α : Nat → Bool) (h : ∀ u, 1 ≤ u → u ≤ n → α u = betaOf n k u) : numOf α n = k := by
  apply Nat.eq_of_testBit_eq
  intro i
  by_cases hi : i < n
  · have := numOf_bit α n (n - i) (by omega) (by omega)
    rw [show n - (n - i) = i by omega] at this
    rw [this, h _ (by omega) (by omega)]
    unfold betaOf
    rw [show n - (n - i) = i by omega]
  · rw [Nat.testBit_lt_two_pow (Nat.lt_of_lt_of_le (numOf_lt α n) (Nat.pow_le_pow_right (by decide) (by omega))), Nat.testBit_lt_two_pow (Nat.lt_of_lt_of_le hk (Nat.pow_le_pow_right (by decide) (by omega)))]
theorem lexLe_num {n k : Nat} {α : Nat → Bool} (hk : k < 2 ^ n) (h : LexLe n α (betaOf n k)) : numOf α n ≤ k := by
  rcases h with h | ⟨u, h1, h2, h3, h4, h5⟩
  · rw [numOf_beta hk α h]; exact Nat.le_refl _
  · refine Nat.le_of_lt (lt_of_bits (n - u) ?_ h5 fun j hj => ?_)
    · rw [numOf_bit α n u h1 h2]; exact h4
    · by_cases hjn : j < n
      · have := numOf_bit α n (n - j) (by omega) (by omega)
        rw [show n - (n - j) = j by omega] at this
        rw [this, h3 _ (by omega) (by omega)]
        unfold betaOf
        rw [show n - (n - j) = j by omega]
      · rw [Nat.testBit_lt_two_pow (Nat.lt_of_lt_of_le (numOf_lt α n) (Nat.pow_le_pow_right (by decide) (by omega))), Nat.testBit_lt_two_pow (Nat.lt_of_lt_of_le hk (Nat.pow_le_pow_right (by decide) (by omega)))]
/-- A literal in an assignment by its number. -/
theorem holds_assign {n k : Nat} {l : Int} (hn : n ≤ 128) (hl : litValid l n = true) : holdsB (assign k n).1 (assign k n).2 l = trueL (betaOf n k) l := by
  have hv := litVar_of_valid hl
  have hne := litVar_ne hl
  rw [litValid_iff] at hl
  unfold holdsB
  rw [show (litVar l != 0) = true by simpa using hne, Bool.true_and, hasB_assign hn, hv]
  unfold trueL betaOf
  by_cases h : 0 < l
  · rw [if_pos h, if_neg (show ¬ l < 0 by omega), decide_eq_true h, decide_eq_true (show (1 : Int) ≤ l by omega), decide_eq_true (show l ≤ (n : Int) by omega), show l.toNat = l.natAbs by omega]
    simp
  · rw [if_neg h, if_pos (show l < 0 by omega), decide_eq_false h, decide_eq_true (show (1 : Int) ≤ -l by omega), decide_eq_true (show -l ≤ (n : Int) by omega), show (-l).toNat = l.natAbs by omega]
    simp
/-- A literal in any set. -/
theorem holds_set {x y : Nat} {n l : Int} (hl : litValid l n = true) : holdsB x y l = trueL (fun v => hasB x y v) l := by
  have hv := litVar_of_valid hl
  have hne := litVar_ne hl
  rw [litValid_iff] at hl
  unfold holdsB trueL
  rw [show (litVar l != 0) = true by simpa using hne, Bool.true_and, hv]
  by_cases h : 0 < l
  · rw [if_pos h, if_neg (show ¬ l < 0 by omega), decide_eq_true h]; show _ = hasB x y ((l.natAbs : Nat) : Int); rw [show ((l.natAbs : Nat) : Int) = l by omega]; simp
  · rw [if_neg h, if_pos (show l < 0 by omega), decide_eq_false h]; show _ = !hasB x y ((l.natAbs : Nat) : Int); rw [show ((l.natAbs : Nat) : Int) = -l by omega]; simp
/-- Model number k under assumptions. -/
def isMod (n : Nat) (ll : List (List Int)) (l : List Int) (k : Nat) : Bool := evalB n ll (assign k n).1 (assign k n).2 && l.all (holdsB (assign k n).1 (assign k n).2)
theorem least_eq (n : Nat) (ll : List (List Int)) (l : List Int) : least n ll l = ((List.range (2 ^ n)).find? (isMod n ll l)).map fun k => assign k n := by
  unfold least modelsL
  rw [List.find?_filter, List.find?_map]
  congr 2
  funext k
  unfold isMod
  rw [Bool.eq_iff_iff]
  simp only [Function.comp, decide_eq_true_eq, Bool.and_eq_true]
theorem isMod_iff {n : Nat} {ll : List (List Int)} {l : List Int} {k : Nat} (hn : n ≤ 128) (he : theoryErr n ll = 0) (hl : ∀ x ∈ l, litValid x n = true) :
    isMod n ll l k = true ↔ satT (betaOf n k) ll ∧ ∀ x ∈ l, trueL (betaOf n k) x = true := by
  have hv : ∀ c ∈ ll, ∀ x ∈ c, litValid x n = true := fun c hc => ((theoryErr_zero he).2.2.2 c hc).2
  have ha : assignB (assign k n).1 (assign k n).2 n = true := by
    rw [assignB_iff]
    intro v h
    rw [hasB_assign hn, decide_eq_false (show ¬ v ≤ (n : Int) by omega)]; simp
  unfold isMod evalB
  rw [he, ha]
  simp only [decide_true, Bool.true_and, Bool.and_eq_true]
  constructor
  · rintro ⟨h1, h2⟩
    refine ⟨fun c hc => ?_, fun x hx => ?_⟩
    · unfold clausesB at h1
      rw [List.all_eq_true] at h1
      have := h1 c hc
      rw [List.any_eq_true] at this
      obtain ⟨x, hx, hxt⟩ := this
      exact ⟨x, hx, by rw [← holds_assign hn (hv c hc x hx)]; exact hxt⟩
    · rw [List.all_eq_true] at h2
      rw [← holds_assign hn (hl x hx)]; exact h2 x hx
  · rintro ⟨h1, h2⟩
    refine ⟨?_, ?_⟩
    · unfold clausesB
      rw [List.all_eq_true]
      intro c hc
      rw [List.any_eq_true]
      obtain ⟨x, hx, hxt⟩ := h1 c hc
      exact ⟨x, hx, by rw [holds_assign hn (hv c hc x hx)]; exact hxt⟩
    · rw [List.all_eq_true]
      intro x hx
      rw [holds_assign hn (hl x hx)]; exact h2 x hx
theorem trueL_congr {n : Nat} {α β : Nat → Bool} (h : ∀ u, 1 ≤ u → u ≤ n → α u = β u) {x : Int} (hx : litValid x n = true) : trueL α x = trueL β x := by
  rw [litValid_iff] at hx
  unfold trueL
  rw [h x.natAbs (by omega) (by omega)]
theorem satT_congr {n : Nat} {α β : Nat → Bool} (h : ∀ u, 1 ≤ u → u ≤ n → α u = β u) {ll : List (List Int)} (hv : ∀ c ∈ ll, ∀ x ∈ c, litValid x n = true) (hs : satT α ll) : satT β ll := fun c hc => by
  obtain ⟨x, hx, ht⟩ := hs c hc
  exact ⟨x, hx, by rw [← trueL_congr h (hv c hc x hx)]; exact ht⟩
/-- There is no model. -/
theorem least_none {n : Nat} {ll : List (List Int)} {l : List Int} (hn : n ≤ 128) (he : theoryErr n ll = 0) (hl : ∀ x ∈ l, litValid x n = true)
    (h : ∀ α, satT α ll → ¬ ∀ x ∈ l, trueL α x = true) : least n ll l = none := by
  rw [least_eq, Option.map_eq_none_iff, List.find?_eq_none]
  intro k _ hk
  rw [isMod_iff hn he hl] at hk
  exact h _ hk.1 hk.2
/-- There is a least one. -/
theorem least_some {n : Nat} {ll : List (List Int)} {l : List Int} {α : Nat → Bool} (hn : n ≤ 128) (he : theoryErr n ll = 0) (hl : ∀ x ∈ l, litValid x n = true)
    (hs : satT α ll) (ht : ∀ x ∈ l, trueL α x = true) (hle : ∀ β, satT β ll → (∀ x ∈ l, trueL β x = true) → LexLe n α β) : least n ll l = some (assign (numOf α n) n) := by
  have hv : ∀ c ∈ ll, ∀ x ∈ c, litValid x n = true := fun c hc => ((theoryErr_zero he).2.2.2 c hc).2
  have hbit : ∀ u, 1 ≤ u → u ≤ n → α u = betaOf n (numOf α n) u := fun u a b => (numOf_bit α n u a b).symm
  rw [least_eq, Option.map_eq_some_iff]
  refine ⟨numOf α n, ?_, rfl⟩
  rw [List.find?_range_eq_some]
  refine ⟨?_, List.mem_range.2 (numOf_lt α n), fun j hj => ?_⟩
  · rw [isMod_iff hn he hl]
    exact ⟨satT_congr hbit hv hs, fun x hx => by rw [← trueL_congr hbit (hl x hx)]; exact ht x hx⟩
  · cases hm : isMod n ll l j
    · rfl
    · rw [isMod_iff hn he hl] at hm
      have := lexLe_num (Nat.lt_trans hj (numOf_lt α n)) (hle _ hm.1 hm.2)
      omega

/-! ### The set of the variables whose value is 1 -/
theorem bitOf_test (v : Int) (i : Nat) : (bitOf v).testBit i = decide (((v - 1) % 64).toNat = i) := by unfold bitOf; rw [Nat.testBit_two_pow]
theorem hasB_withV {s : Nat × Nat} {v : Int} (h1 : 1 ≤ v) (h2 : v ≤ 128) (u : Int) : hasB (withV s v).1 (withV s v).2 u = (hasB s.1 s.2 u || decide (u = v)) := by
  by_cases hu : 1 ≤ u
  · by_cases hu2 : u ≤ 128
    · unfold withV
      by_cases hv : v ≤ 64
      · rw [if_pos hv]
        by_cases hu3 : u ≤ 64
        · rw [hasB_fst _ _ hu hu3, hasB_fst _ _ hu hu3]
          simp only [Nat.testBit_or, bitOf_test]
          congr 1
          rw [decide_eq_decide]; omega
        · rw [hasB_snd _ _ hu2 hu3, hasB_snd _ _ hu2 hu3, decide_eq_false (by omega), Bool.or_false]
      · rw [if_neg hv]
        by_cases hu3 : u ≤ 64
        · rw [hasB_fst _ _ hu hu3, hasB_fst _ _ hu hu3, decide_eq_false (by omega), Bool.or_false]
        · rw [hasB_snd _ _ hu2 hu3, hasB_snd _ _ hu2 hu3]
          simp only [Nat.testBit_or, bitOf_test]
          congr 1
          rw [decide_eq_decide]; omega
    · rw [hasB_high _ _ hu2, hasB_high _ _ hu2, decide_eq_false (by omega)]; rfl
  · rw [hasB_low _ _ hu, hasB_low _ _ hu, decide_eq_false (by omega)]; rfl
theorem withV_lt {s : Nat × Nat} {v : Int} (hx : s.1 < 2 ^ 64) (hy : s.2 < 2 ^ 64) : (withV s v).1 < 2 ^ 64 ∧ (withV s v).2 < 2 ^ 64 := by
  unfold withV
  split
  · exact ⟨Nat.or_lt_two_pow hx (by have := bitOf_lt v; omega), hy⟩
  · exact ⟨hx, Nat.or_lt_two_pow hy (by have := bitOf_lt v; omega)⟩
def accF (vals : List Int) : Nat → Nat × Nat
  | 0 => (0, 0)
  | j + 1 => if vals.getD j 0 = 1 then withV (accF vals j) j else accF vals j
theorem accF_spec {vals : List Int} (h0 : vals.getD 0 0 = 0) : ∀ j, j ≤ 129 → (accF vals j).1 < 2 ^ 64 ∧ (accF vals j).2 < 2 ^ 64 ∧
    ∀ u : Int, hasB (accF vals j).1 (accF vals j).2 u = (decide (1 ≤ u) && decide (u < j) && decide (vals.getD u.toNat 0 = 1))
  | 0, _ => ⟨by simp [accF], by simp [accF], fun u => by
      have : hasB 0 0 u = false := by unfold hasB; split <;> simp
      simp only [accF, this]
      rw [show (decide (1 ≤ u) && decide (u < ((0 : Nat) : Int))) = false by simp; omega]; rfl⟩
  | j + 1, hj => by
    obtain ⟨h1, h2, h3⟩ := accF_spec h0 j (by omega)
    simp only [accF]
    split
    · rename_i hv
      have hj0 : j ≠ 0 := fun e => by rw [e, h0] at hv; cases hv
      refine ⟨(withV_lt h1 h2).1, (withV_lt h1 h2).2, fun u => ?_⟩
      rw [hasB_withV (by omega) (by omega), h3 u]
      by_cases hu : u = j
      · subst hu
        rw [Int.toNat_natCast, hv]; simp; omega
      · rw [decide_eq_false hu, Bool.or_false]
        congr 2
        rw [decide_eq_decide]; omega
    · rename_i hv
      refine ⟨h1, h2, fun u => ?_⟩
      rw [h3 u]
      by_cases hu : u = j
      · subst hu
        rw [Int.toNat_natCast, decide_eq_false hv]; simp
      · congr 2
        rw [decide_eq_decide]; omega
theorem accF_assign {n : Nat} {vals : List Int} (hn : n ≤ 128) (h0 : vals.getD 0 0 = 0) : accF vals (n + 1) = assign (numOf (alphaOf vals) n) n := by
  obtain ⟨h1, h2, h3⟩ := accF_spec h0 (n + 1) (by omega)
  obtain ⟨g1, g2⟩ := assign_lt (k := numOf (alphaOf vals) n) hn
  have := set_ext h1 h2 g1 g2 fun u hu hu2 => by
    rw [h3 u, hasB_assign hn]
    by_cases h : u ≤ n
    · rw [decide_eq_true hu, decide_eq_true (show u < ((n + 1 : Nat) : Int) by omega), decide_eq_true h, numOf_bit _ n u.toNat (by omega) (by omega)]
      rfl
    · rw [decide_eq_false (show ¬ u < ((n + 1 : Nat) : Int) by omega), decide_eq_false h]; simp
  exact Prod.ext this.1 this.2
end Go.Proofs.YtagohmpbbbkdjaaDoor
