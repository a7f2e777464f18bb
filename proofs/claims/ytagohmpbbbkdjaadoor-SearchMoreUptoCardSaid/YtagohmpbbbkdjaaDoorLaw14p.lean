/- The least model and the order of models, plainly. No Go in sight. -/
import Derived.Test.YtagohmpbbbkdjaaDoorLess
import Derived.Test.YtagohmpbbbkdjaaDoorLaw2
namespace Go.Proofs.YtagohmpbbbkdjaaDoor
set_option linter.unusedSimpArgs false
set_option linter.unusedVariables false
open Go.RowKit
set_option maxRecDepth 20000
theorem least_is {n : Nat} {ll : List (List Int)} {l : List Int} {s : Nat × Nat} (h : least n ll l = some s) : ∃ k, k < 2 ^ n ∧ s = assign k n ∧ isMod n ll l k = true := by
  rw [least_eq, Option.map_eq_some_iff] at h
  obtain ⟨k, hk, rfl⟩ := h
  rw [List.find?_range_eq_some] at hk
  exact ⟨k, List.mem_range.1 hk.2.1, rfl, hk.1⟩
theorem least_eval {n : Nat} {ll : List (List Int)} {l : List Int} {s : Nat × Nat} (h : least n ll l = some s) : evalB n ll s.1 s.2 = true ∧ l.all (holdsB s.1 s.2) = true := by
  obtain ⟨k, _, rfl, hm⟩ := least_is h
  unfold isMod at hm
  rwa [Bool.and_eq_true] at hm
theorem least_lt {n : Nat} {ll : List (List Int)} {l : List Int} {s : Nat × Nat} (hn : n ≤ 128) (h : least n ll l = some s) : s.1 < 2 ^ 64 ∧ s.2 < 2 ^ 64 := by
  obtain ⟨k, _, rfl, _⟩ := least_is h
  exact assign_lt hn
/-- A model is the assignment of some number. -/
theorem model_num {n : Nat} {ll : List (List Int)} {x y : Nat} (hn : n ≤ 128) (hx : x < 2 ^ 64) (hy : y < 2 ^ 64) (he : evalB n ll x y = true) : ∃ m, m < 2 ^ n ∧ assign m n = (x, y) := by
  refine ⟨numOf (fun v => hasB x y v) n, numOf_lt _ n, ?_⟩
  have ha : assignB x y n = true := by
    unfold evalB at he
    rw [Bool.and_eq_true, Bool.and_eq_true] at he
    exact he.2.1
  rw [assignB_iff] at ha
  obtain ⟨a1, a2⟩ := assign_lt (k := numOf (fun v => hasB x y v) n) hn
  obtain ⟨e1, e2⟩ := set_ext a1 a2 hx hy fun u u1 u2 => by
    rw [hasB_assign hn, decide_eq_true u1, Bool.true_and]
    by_cases h : u ≤ n
    · rw [decide_eq_true h, Bool.true_and, numOf_bit _ n u.toNat (by omega) (by omega), show ((u.toNat : Nat) : Int) = u by omega]
    · rw [decide_eq_false h, Bool.false_and, ha u (by omega)]
  exact Prod.ext e1 e2
/-- Before the least model there is none. -/
theorem least_at {n : Nat} {ll : List (List Int)} {l : List Int} {x y : Nat} (hn : n ≤ 128) (hx : x < 2 ^ 64) (hy : y < 2 ^ 64) (he : evalB n ll x y = true) (hl : l.all (holdsB x y) = true) : ∃ s, least n ll l = some s ∧ lessB x y s.1 s.2 = false := by
  obtain ⟨m, hm, e⟩ := model_num hn hx hy he
  have hmod : isMod n ll l m = true := by
    unfold isMod
    rw [e, he, hl]; rfl
  cases hle : least n ll l with
  | none =>
    rw [least_eq, Option.map_eq_none_iff, List.find?_eq_none] at hle
    exact absurd hmod (hle m (List.mem_range.2 hm))
  | some s =>
    refine ⟨s, rfl, ?_⟩
    rw [least_eq, Option.map_eq_some_iff] at hle
    obtain ⟨k, hk, rfl⟩ := hle
    rw [List.find?_range_eq_some] at hk
    have hkm : k ≤ m := by
      apply Nat.le_of_not_lt
      intro h
      have := hk.2.2 m h
      rw [hmod] at this
      cases this
    cases hb : lessB x y (assign k n).1 (assign k n).2 with
    | false => rfl
    | true =>
      have e1 : (assign m n).1 = x := by rw [e]
      have e2 : (assign m n).2 = y := by rw [e]
      rw [← e1, ← e2] at hb
      have := less_assign hn hb hm (List.mem_range.1 hk.2.1)
      omega
theorem least_nomodel {n : Nat} {ll : List (List Int)} {l : List Int} {x y : Nat} (hn : n ≤ 128) (hx : x < 2 ^ 64) (hy : y < 2 ^ 64) (h : least n ll l = none) : (evalB n ll x y && l.all (holdsB x y)) = false := by
  cases he : evalB n ll x y with
  | false => rfl
  | true =>
    cases hl : l.all (holdsB x y) with
    | false => rfl
    | true =>
      obtain ⟨s, hs, _⟩ := least_at hn hx hy he hl
      rw [h] at hs
      cases hs
theorem least_less {n : Nat} {ll : List (List Int)} {l : List Int} {x y : Nat} {s : Nat × Nat} (hn : n ≤ 128) (hx : x < 2 ^ 64) (hy : y < 2 ^ 64) (h : least n ll l = some s) (he : (evalB n ll x y && l.all (holdsB x y)) = true) : lessB x y s.1 s.2 = false := by
  rw [Bool.and_eq_true] at he
  obtain ⟨t, ht, hl⟩ := least_at hn hx hy he.1 he.2
  rw [h] at ht
  cases ht
  exact hl
/-- With further clauses the least model stays, or comes later. -/
theorem more_clause {n : Nat} {ll : List (List Int)} {c l : List Int} {b : Nat × Nat} (hn : n ≤ 128) (he : theoryErr n ll = 0) (h : least n (ll ++ [c]) l = some b) : ∃ a, least n ll l = some a ∧ lessB b.1 b.2 a.1 a.2 = false := by
  obtain ⟨h1, h2⟩ := least_eval h
  obtain ⟨b1, b2⟩ := least_lt hn h
  refine least_at hn b1 b2 ?_ h2
  unfold evalB at h1 ⊢
  simp only [Bool.and_eq_true, decide_eq_true_eq] at h1 ⊢
  refine ⟨he, h1.2.1, ?_⟩
  have := h1.2.2
  unfold clausesB at this ⊢
  rw [List.all_append, Bool.and_eq_true] at this
  exact this.1
/-- With further assumptions too. -/
theorem more_assume {n : Nat} {ll : List (List Int)} {l m : List Int} {c : Nat × Nat} (hn : n ≤ 128) (h : least n ll (l ++ m) = some c) : ∃ b, least n ll l = some b ∧ lessB c.1 c.2 b.1 b.2 = false := by
  obtain ⟨h1, h2⟩ := least_eval h
  obtain ⟨b1, b2⟩ := least_lt hn h
  rw [List.all_append, Bool.and_eq_true] at h2
  exact least_at hn b1 b2 h1 h2.1
end Go.Proofs.YtagohmpbbbkdjaaDoor
