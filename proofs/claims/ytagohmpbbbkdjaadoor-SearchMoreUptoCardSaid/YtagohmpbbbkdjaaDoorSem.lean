/- Plain definitions: assignments, models of a theory, the least model under assumptions. No Go in sight. -/
import Derived.Test.YtagohmpbbbkdjaaDoorBase
namespace Go.Proofs.YtagohmpbbbkdjaaDoor
set_option linter.unusedSimpArgs false
set_option linter.unusedVariables false
open Go.RowKit

/-- No variable beyond n. -/
def assignB (x y : Nat) (n : Int) : Bool := (List.range 128).all fun i => decide ((i : Int) + 1 ≤ n) || !hasB x y ((i : Int) + 1)
theorem assignB_iff (x y : Nat) (n : Int) : assignB x y n = true ↔ ∀ v : Int, n < v → hasB x y v = false := by
  unfold assignB
  rw [List.all_eq_true]
  constructor
  · intro h v hv
    by_cases h1 : 1 ≤ v
    · by_cases h2 : v ≤ 128
      · have := h (v - 1).toNat (List.mem_range.2 (by omega))
        have e : (((v - 1).toNat : Nat) : Int) + 1 = v := by omega
        rw [e] at this
        simp only [Bool.or_eq_true, decide_eq_true_eq, Bool.not_eq_true'] at this
        rcases this with h | h
        · omega
        · exact h
      · exact hasB_high x y h2
    · exact hasB_low x y h1
  · intro h i hi
    simp only [Bool.or_eq_true, decide_eq_true_eq, Bool.not_eq_true']
    by_cases h1 : (i : Int) + 1 ≤ n
    · exact .inl h1
    · exact .inr (h _ (by omega))
/-- All clauses have a true literal. -/
def clausesB (ll : List (List Int)) (x y : Nat) : Bool := ll.all fun c => c.any (holdsB x y)
def evalB (n : Int) (ll : List (List Int)) (x y : Nat) : Bool := decide (theoryErr n ll = 0) && (assignB x y n && clausesB ll x y)

/-- A set with one more variable. -/
def addVar (v : Nat) (s : Nat × Nat) : Nat × Nat := if v ≤ 64 then (s.1 + 2 ^ (v - 1), s.2) else (s.1, s.2 + 2 ^ (v - 65))
/-- The assignment with number k, of the variables 1 to v, added to a set. -/
def assignF : Nat → Nat → Nat × Nat → Nat × Nat
  | 0, _, s => s
  | v + 1, k, s => assignF v (k / 2) (if k % 2 = 1 then addVar (v + 1) s else s)
def assign (k n : Nat) : Nat × Nat := assignF n k (0, 0)
/-- Only variables beyond v, up to 128. -/
def Beyond (v : Nat) (s : Nat × Nat) : Prop := s.1 < 2 ^ 64 ∧ s.2 < 2 ^ 64 ∧ (v < 64 → s.1 % 2 ^ v = 0) ∧ (64 ≤ v → s.1 = 0 ∧ s.2 % 2 ^ (v - 64) = 0)
theorem Beyond.zero (v : Nat) : Beyond v (0, 0) := ⟨by decide, by decide, by simp, by simp⟩
theorem join_bit {x i n : Nat} (hx : x % 2 ^ (i + 1) = 0) (hn : x < 2 ^ n) (hi : i < n) : x + 2 ^ i < 2 ^ n ∧ ∀ j, (x + 2 ^ i).testBit j = (x.testBit j || decide (i = j)) := by
  have e : x ||| 2 ^ i = x + 2 ^ i := nat_join (i + 1) x (2 ^ i) hx (Nat.pow_lt_pow_right (by decide) (by omega))
  rw [← e]
  exact ⟨Nat.or_lt_two_pow hn (Nat.pow_lt_pow_right (by decide) hi), fun j => by rw [Nat.testBit_or, Nat.testBit_two_pow]⟩
theorem mod_two_pow_down {x i j : Nat} (h : x % 2 ^ i = 0) (hj : j ≤ i) : x % 2 ^ j = 0 := by
  obtain ⟨c, rfl⟩ := Nat.dvd_of_mod_eq_zero h
  obtain ⟨d, rfl⟩ := Nat.exists_eq_add_of_le hj
  rw [Nat.pow_add, Nat.mul_assoc]
  exact Nat.mul_mod_right _ _
theorem Beyond.down {v : Nat} {s : Nat × Nat} (h : Beyond (v + 1) s) : Beyond v s := by
  obtain ⟨h1, h2, h3, h4⟩ := h
  refine ⟨h1, h2, fun hv => ?_, fun hv => ⟨(h4 (by omega)).1, mod_two_pow_down (h4 (by omega)).2 (by omega)⟩⟩
  by_cases h : v + 1 < 64
  · exact mod_two_pow_down (h3 h) (by omega)
  · rw [(h4 (by omega)).1]; simp
theorem addVar_beyond {v : Nat} {s : Nat × Nat} (h : Beyond (v + 1) s) (hv : v < 128) : Beyond v (addVar (v + 1) s) := by
  have hd := h.down
  obtain ⟨h1, h2, h3, h4⟩ := h
  unfold addVar
  split
  · rename_i hle
    have hx : s.1 % 2 ^ (v + 1) = 0 := by
      by_cases h : v + 1 < 64
      · exact h3 h
      · rw [(h4 (by omega)).1]; simp
    have hj := join_bit hx h1 (by omega)
    refine ⟨by simpa using hj.1, h2, fun _ => ?_, fun h => by omega⟩
    simp only [Nat.add_sub_cancel]
    have := mod_two_pow_down hx (show v ≤ v + 1 by omega)
    rw [Nat.add_mod, this]; simp
  · rename_i hle
    obtain ⟨e0, e1⟩ := h4 (by omega)
    have hx : s.2 % 2 ^ ((v - 64) + 1) = 0 := by rw [show (v - 64) + 1 = v + 1 - 64 by omega]; exact e1
    have hj := join_bit hx h2 (by omega)
    refine ⟨h1, by simpa [show v + 1 - 65 = v - 64 by omega] using hj.1, fun h => by omega, fun _ => ⟨e0, ?_⟩⟩
    have := mod_two_pow_down hx (show v - 64 ≤ v - 64 + 1 by omega)
    simp only [show v + 1 - 65 = v - 64 by omega]
    rw [Nat.add_mod, this]; simp
theorem hasB_addVar {v : Nat} {s : Nat × Nat} (h : Beyond (v + 1) s) (hv : v < 128) (u : Int) :
    hasB (addVar (v + 1) s).1 (addVar (v + 1) s).2 u = (hasB s.1 s.2 u || decide (u = v + 1)) := by
  obtain ⟨h1, h2, h3, h4⟩ := h
  by_cases hu : 1 ≤ u
  · by_cases hu2 : u ≤ 128
    · unfold addVar
      split
      · rename_i hle
        have hx : s.1 % 2 ^ (v + 1) = 0 := by
          by_cases h : v + 1 < 64
          · exact h3 h
          · rw [(h4 (by omega)).1]; simp
        have hj := (join_bit hx h1 (show v < 64 by omega)).2
        by_cases hu3 : u ≤ 64
        · rw [hasB_fst _ _ hu hu3, hasB_fst _ _ hu hu3]
          simp only [Nat.add_sub_cancel]
          rw [hj]
          congr 1
          rw [decide_eq_decide]; omega
        · rw [hasB_snd _ _ hu2 hu3, hasB_snd _ _ hu2 hu3, decide_eq_false (by omega), Bool.or_false]
      · rename_i hle
        obtain ⟨e0, e1⟩ := h4 (by omega)
        have hx : s.2 % 2 ^ ((v - 64) + 1) = 0 := by rw [show (v - 64) + 1 = v + 1 - 64 by omega]; exact e1
        have hj := (join_bit hx h2 (show v - 64 < 64 by omega)).2
        by_cases hu3 : u ≤ 64
        · rw [hasB_fst _ _ hu hu3, hasB_fst _ _ hu hu3, decide_eq_false (by omega), Bool.or_false]
        · rw [hasB_snd _ _ hu2 hu3, hasB_snd _ _ hu2 hu3]
          simp only [show v + 1 - 65 = v - 64 by omega]
          rw [hj]
          congr 1
          rw [decide_eq_decide]; omega
    · rw [hasB_high _ _ hu2, hasB_high _ _ hu2, decide_eq_false (by omega)]; rfl
  · rw [hasB_low _ _ hu, hasB_low _ _ hu, decide_eq_false (by omega)]; rfl
theorem assignF_spec : ∀ (v k : Nat) (s : Nat × Nat), v ≤ 128 → Beyond v s → Beyond 0 (assignF v k s) ∧
    ∀ u : Int, hasB (assignF v k s).1 (assignF v k s).2 u = (hasB s.1 s.2 u || (decide (1 ≤ u) && decide (u ≤ v) && k.testBit (v - u.toNat)))
  | 0, k, s, _, h => ⟨h, fun u => by simp only [assignF]; rw [show (decide (1 ≤ u) && decide (u ≤ ((0 : Nat) : Int))) = false by simp; omega]; simp⟩
  | v + 1, k, s, hv, h => by
    have hb : Beyond v (if k % 2 = 1 then addVar (v + 1) s else s) := by
      split
      · exact addVar_beyond h (by omega)
      · exact h.down
    obtain ⟨i1, i2⟩ := assignF_spec v (k / 2) _ (by omega) hb
    refine ⟨i1, fun u => ?_⟩
    simp only [assignF]
    rw [i2 u]
    have e1 : hasB (if k % 2 = 1 then addVar (v + 1) s else s).1 (if k % 2 = 1 then addVar (v + 1) s else s).2 u = (hasB s.1 s.2 u || (decide (k % 2 = 1) && decide (u = v + 1))) := by
      split
      · rename_i hk; rw [hasB_addVar h (by omega), hk]; simp
      · rename_i hk; simp [hk]
    rw [e1, Bool.or_assoc]
    congr 1
    by_cases hu : u = v + 1
    · subst hu
      have : ((v : Int) + 1).toNat = v + 1 := by omega
      rw [this, Nat.sub_self, Nat.testBit_zero, decide_eq_true (show (v : Int) + 1 = v + 1 from rfl), decide_eq_false (show ¬ ((v : Int) + 1 ≤ v) by omega), decide_eq_true (show (1 : Int) ≤ (v : Int) + 1 by omega), decide_eq_true (show (v : Int) + 1 ≤ ((v + 1 : Nat) : Int) by omega)]
      simp
    · by_cases h1 : 1 ≤ u
      · by_cases h2 : u ≤ v
        · rw [decide_eq_false hu, decide_eq_true h1, decide_eq_true h2, decide_eq_true (show u ≤ ((v + 1 : Nat) : Int) by omega), Nat.testBit_div_two]
          rw [show v - u.toNat + 1 = v + 1 - u.toNat by omega]; simp
        · rw [decide_eq_false hu, decide_eq_false h2, decide_eq_false (show ¬ u ≤ ((v + 1 : Nat) : Int) by omega)]; simp
      · rw [decide_eq_false hu, decide_eq_false h1]; simp
theorem hasB_assign {k n : Nat} (hn : n ≤ 128) (u : Int) : hasB (assign k n).1 (assign k n).2 u = (decide (1 ≤ u) && decide (u ≤ n) && k.testBit (n - u.toNat)) := by
  unfold assign
  rw [(assignF_spec n k (0, 0) hn (Beyond.zero _)).2 u]
  have : hasB 0 0 u = false := by unfold hasB; split <;> simp
  rw [this, Bool.false_or]
theorem assign_lt {k n : Nat} (hn : n ≤ 128) : (assign k n).1 < 2 ^ 64 ∧ (assign k n).2 < 2 ^ 64 :=
  let h := (assignF_spec n k (0, 0) hn (Beyond.zero _)).1
  ⟨h.1, h.2.1⟩
/-- A set is known by what is in it. -/
theorem set_ext {x y x' y' : Nat} (hx : x < 2 ^ 64) (hy : y < 2 ^ 64) (hx' : x' < 2 ^ 64) (hy' : y' < 2 ^ 64) (h : ∀ u : Int, 1 ≤ u → u ≤ 128 → hasB x y u = hasB x' y' u) : x = x' ∧ y = y' := by
  constructor
  · apply Nat.eq_of_testBit_eq
    intro i
    by_cases hi : i < 64
    · have := h ((i : Int) + 1) (by omega) (by omega)
      rw [hasB_fst _ _ (by omega) (by omega), hasB_fst _ _ (by omega) (by omega)] at this
      rwa [show ((((i : Int) + 1) - 1) % 64).toNat = i by omega] at this
    · rw [Nat.testBit_lt_two_pow (Nat.lt_of_lt_of_le hx (Nat.pow_le_pow_right (by decide) (by omega))), Nat.testBit_lt_two_pow (Nat.lt_of_lt_of_le hx' (Nat.pow_le_pow_right (by decide) (by omega)))]
  · apply Nat.eq_of_testBit_eq
    intro i
    by_cases hi : i < 64
    · have := h ((i : Int) + 65) (by omega) (by omega)
      rw [hasB_snd _ _ (by omega) (by omega), hasB_snd _ _ (by omega) (by omega)] at this
      rwa [show ((((i : Int) + 65) - 1) % 64).toNat = i by omega] at this
    · rw [Nat.testBit_lt_two_pow (Nat.lt_of_lt_of_le hy (Nat.pow_le_pow_right (by decide) (by omega))), Nat.testBit_lt_two_pow (Nat.lt_of_lt_of_le hy' (Nat.pow_le_pow_right (by decide) (by omega)))]

/-- The models, in order. -/
def modelsL (n : Nat) (ll : List (List Int)) : List (Nat × Nat) := ((List.range (2 ^ n)).map fun k => assign k n).filter fun s => evalB n ll s.1 s.2
/-- The least model under assumptions. -/
def least (n : Nat) (ll : List (List Int)) (l : List Int) : Option (Nat × Nat) := (modelsL n ll).find? fun s => l.all (holdsB s.1 s.2)
/-- The error of a theory with literals. -/
def searchErr (n : Int) (ll : List (List Int)) (l : List Int) : Int := if theoryErr n ll = 0 then (if l.all (litValid · n) then 0 else 1) else theoryErr n ll
/-- What contradictory assumptions are reduced to: one after the other is left out if there is no model all the same. -/
def coreF (sat : List Int → Bool) : Nat → List Int → Nat → List Int
  | 0, l, _ => l
  | k + 1, l, i => if i < l.length then (if sat (l.eraseIdx i) then coreF sat k l (i + 1) else coreF sat k (l.eraseIdx i) i) else l
theorem coreF_yes {sat : List Int → Bool} {l : List Int} {i : Nat} (hi : i < l.length) (h : sat (l.eraseIdx i) = true) : coreF sat (l.length - i) l i = coreF sat (l.length - (i + 1)) l (i + 1) := by
  rw [show l.length - i = (l.length - (i + 1)) + 1 by omega]
  simp only [coreF, hi, h, if_true]
theorem coreF_no {sat : List Int → Bool} {l : List Int} {i : Nat} (hi : i < l.length) (h : sat (l.eraseIdx i) = false) : coreF sat (l.length - i) l i = coreF sat ((l.eraseIdx i).length - i) (l.eraseIdx i) i := by
  rw [List.length_eraseIdx_of_lt hi, show l.length - i = (l.length - 1 - i) + 1 by omega]
  simp only [coreF, hi, h, if_true]
  simp
theorem coreF_end {sat : List Int → Bool} {l : List Int} {i : Nat} (hi : ¬ i < l.length) : coreF sat (l.length - i) l i = l := by
  rw [show l.length - i = 0 by omega]; rfl
def satB (n : Nat) (ll : List (List Int)) (l : List Int) : Bool := (least n ll l).isSome
def coreL (n : Nat) (ll : List (List Int)) (l : List Int) : List Int := coreF (satB n ll) l.length l 0
/-- Is a clause true in all models? -/
def entailsB (n : Nat) (ll : List (List Int)) (l : List Int) : Bool := (modelsL n ll).all fun s => l.any (holdsB s.1 s.2)
end Go.Proofs.YtagohmpbbbkdjaaDoor
