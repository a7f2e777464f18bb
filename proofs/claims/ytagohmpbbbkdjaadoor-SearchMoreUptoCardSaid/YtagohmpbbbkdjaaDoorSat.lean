/- Plain facts on partial assignments: what unit propagation keeps. No Go in sight. -/
import Derived.Test.YtagohmpbbbkdjaaDoorBack
namespace Go.Proofs.YtagohmpbbbkdjaaDoor
set_option linter.unusedSimpArgs false
set_option linter.unusedVariables false
open Go.RowKit
set_option maxRecDepth 20000

/-- Is a literal true under an assignment? -/
def trueL (α : Nat → Bool) (l : Int) : Bool := if l < 0 then !α l.natAbs else α l.natAbs
def satT (α : Nat → Bool) (ll : List (List Int)) : Prop := ∀ c ∈ ll, ∃ l ∈ c, trueL α l = true
/-- An assignment that has the values. -/
def Agree (n : Nat) (vals : List Int) (α : Nat → Bool) : Prop := ∀ v : Nat, 1 ≤ v → v ≤ n → (vals.getD v 0 = 1 → α v = true) ∧ (vals.getD v 0 = -1 → α v = false)
def zeros (vals : List Int) : Nat := vals.count 0
/-- More values, and on the trail just the variables that they belong to. -/
structure Grow (n : Nat) (vals tr vals' tr' : List Int) : Prop where
  ext : ∃ e, tr' = tr ++ e ∧ (∀ u ∈ e, 1 ≤ u ∧ u ≤ n ∧ vals.getD u.toNat 0 = 0 ∧ vals'.getD u.toNat 0 ≠ 0) ∧ (∀ i : Nat, (i : Int) ∉ e → vals'.getD i 0 = vals.getD i 0)
  len : vals'.length = vals.length
  tri : Tri vals'
/-- A clause at which nothing is to be done. -/
def Settled (vals : List Int) (c : List Int) : Prop := (∃ l ∈ c, truthV vals l = 1) ∨ (∃ l ∈ c, ∃ m ∈ c, l ≠ m ∧ truthV vals l = 0 ∧ truthV vals m = 0)

theorem getD_set {l : List Int} {i j : Nat} {x d : Int} : (l.set i x).getD j d = if i = j ∧ i < l.length then x else l.getD j d := by
  simp only [List.getD_eq_getElem?_getD, List.getElem?_set]
  by_cases h : i = j
  · subst h
    by_cases h2 : i < l.length
    · simp [h2]
    · simp [h2]
  · simp [h]
theorem zeros_set {vals : List Int} {a : Nat} {x : Int} (ha : a < vals.length) (h0 : vals.getD a 0 = 0) (hx : x ≠ 0) : zeros (vals.set a x) + 1 = zeros vals := by
  unfold zeros
  induction vals generalizing a with
  | nil => cases ha
  | cons y t ih =>
    cases a with
    | zero =>
      simp only [List.getD_cons_zero] at h0
      subst h0
      simp [List.count_cons, hx]
    | succ a =>
      simp only [List.set_cons_succ, List.count_cons]
      have := ih (a := a) (by simpa using ha) (by simpa using h0)
      omega
theorem truthV_tri {vals : List Int} (ht : Tri vals) (l : Int) : truthV vals l = 1 ∨ truthV vals l = -1 ∨ truthV vals l = 0 := by
  have a := ht (-l).toNat
  have b := ht l.toNat
  unfold truthV
  split <;> omega
theorem truthV_abs (vals : List Int) (l : Int) : truthV vals l = if l < 0 then -(vals.getD l.natAbs 0) else vals.getD l.natAbs 0 := by
  unfold truthV
  split
  · rw [show (-l).toNat = l.natAbs by omega]
  · rw [show l.toNat = l.natAbs by omega]
theorem setV1_length (vals : List Int) (l : Int) : (setV1 vals l).length = vals.length := by simp [setV1]
theorem setV1_get {n : Nat} {vals : List Int} {l : Int} (hlen : vals.length = n + 1) (hl : l.natAbs ≤ n) (i : Nat) : (setV1 vals l).getD i 0 = if l.natAbs = i then (if 0 < l then 1 else -1) else vals.getD i 0 := by
  unfold setV1
  rw [getD_set]
  by_cases h : l.natAbs = i
  · rw [if_pos ⟨h, by omega⟩, if_pos h]
  · rw [if_neg (fun e => h e.1), if_neg h]
theorem tri_set {n : Nat} {vals : List Int} {l : Int} (ht : Tri vals) (hlen : vals.length = n + 1) (hl : l.natAbs ≤ n) : Tri (setV1 vals l) := by
  intro i
  rw [setV1_get hlen hl]
  have := ht i
  split
  · split <;> simp
  · exact this
theorem Grow.refl {n : Nat} {vals tr : List Int} (ht : Tri vals) : Grow n vals tr vals tr := ⟨⟨[], by simp, by simp, fun _ _ => rfl⟩, rfl, ht⟩
theorem Grow.set {n : Nat} {vals tr : List Int} {l : Int} (ht : Tri vals) (hlen : vals.length = n + 1) (hl : l.natAbs ≤ n) (hl0 : l ≠ 0) (h0 : truthV vals l = 0) : Grow n vals tr (setV1 vals l) (tr ++ [(l.natAbs : Int)]) := by
  have h1 : vals.getD l.natAbs 0 = 0 := by rw [truthV_abs] at h0; split at h0 <;> omega
  refine ⟨⟨[(l.natAbs : Int)], rfl, ?_, ?_⟩, setV1_length _ _, tri_set ht hlen hl⟩
  · intro u hu
    simp only [List.mem_singleton] at hu
    subst hu
    refine ⟨by omega, by omega, by simpa using h1, ?_⟩
    rw [Int.toNat_natCast, setV1_get hlen hl, if_pos rfl]
    split <;> decide
  · intro i hi
    rw [setV1_get hlen hl, if_neg]
    intro e; apply hi; simp [e]
theorem Grow.trans {n : Nat} {a ta b tb c tc : List Int} (h : Grow n a ta b tb) (k : Grow n b tb c tc) : Grow n a ta c tc := by
  obtain ⟨⟨e, he, h1, h2⟩, hl, ht⟩ := h
  obtain ⟨⟨f, hf, k1, k2⟩, kl, kt⟩ := k
  refine ⟨⟨e ++ f, by rw [hf, he, List.append_assoc], ?_, ?_⟩, kl.trans hl, kt⟩
  · intro u hu
    rcases List.mem_append.1 hu with hu | hu
    · obtain ⟨a1, a2, a3, a4⟩ := h1 u hu
      refine ⟨a1, a2, a3, ?_⟩
      by_cases hf' : u ∈ f
      · exact (k1 u hf').2.2.2
      · rw [k2 u.toNat (by rwa [show ((u.toNat : Nat) : Int) = u by omega])]; exact a4
    · obtain ⟨a1, a2, a3, a4⟩ := k1 u hu
      refine ⟨a1, a2, ?_, a4⟩
      by_cases he' : u ∈ e
      · exact absurd a3 (h1 u he').2.2.2
      · rw [← h2 u.toNat (by rwa [show ((u.toNat : Nat) : Int) = u by omega])]; exact a3
  · intro i hi
    rw [k2 i (fun h => hi (List.mem_append.2 (.inr h))), h2 i (fun h => hi (List.mem_append.2 (.inl h)))]
/-- Going back restores. -/
theorem resetV_get : ∀ (e vals : List Int) (i : Nat), (∀ u ∈ e, 0 ≤ u) → (resetV vals e).getD i 0 = if (i : Int) ∈ e then 0 else vals.getD i 0
  | [], vals, i, _ => by simp [resetV]
  | u :: e, vals, i, h => by
    have ih := resetV_get e (vals.set u.toNat 0) i (fun v hv => h v (List.mem_cons_of_mem _ hv))
    have hu := h u List.mem_cons_self
    show (resetV (vals.set u.toNat 0) e).getD i 0 = _
    rw [ih, getD_set]
    by_cases h1 : (i : Int) ∈ e
    · rw [if_pos h1, if_pos (List.mem_cons_of_mem _ h1)]
    · rw [if_neg h1]
      by_cases h2 : (i : Int) = u
      · rw [if_pos (show (i : Int) ∈ u :: e by rw [h2]; exact List.mem_cons_self)]
        by_cases h3 : u.toNat < vals.length
        · rw [if_pos ⟨by omega, h3⟩]
        · rw [if_neg (fun e => h3 e.2), List.getD_eq_getElem?_getD, List.getElem?_eq_none (by omega)]; rfl
      · rw [if_neg (show ¬ ((i : Int) ∈ u :: e) by simp [h1, h2]), if_neg (fun e => h2 (by omega))]
theorem ext_getD {a b : List Int} (hl : a.length = b.length) (h : ∀ i, a.getD i 0 = b.getD i 0) : a = b := by
  refine List.ext_getElem hl fun i h1 h2 => ?_
  have := h i
  rwa [getD_getElem h1, getD_getElem h2] at this
theorem Grow.back {n : Nat} {vals tr vals' tr' : List Int} (h : Grow n vals tr vals' tr') : resetV vals' (tr'.drop tr.length) = vals ∧ tr'.take tr.length = tr := by
  obtain ⟨⟨e, he, h1, h2⟩, hl, ht⟩ := h
  have e1 : tr'.drop tr.length = e := by rw [he]; simp
  refine ⟨?_, by rw [he]; simp⟩
  rw [e1]
  refine ext_getD (by rw [resetV_length]; exact hl) fun i => ?_
  rw [resetV_get e vals' i (fun u hu => by have := (h1 u hu).1; omega)]
  by_cases hi : (i : Int) ∈ e
  · rw [if_pos hi]
    have := (h1 _ hi).2.2.1
    rw [Int.toNat_natCast] at this
    exact this.symm
  · rw [if_neg hi]; exact h2 i hi
/-- A unit clause's literal. -/
theorem agree_unit {n : Nat} {vals : List Int} {α : Nat → Bool} {x : Int} (hlen : vals.length = n + 1) (hx : x.natAbs ≤ n) (ha : Agree n vals α) (ht : trueL α x = true) : Agree n (setV1 vals x) α := by
  intro v h1 h2
  rw [setV1_get hlen hx]
  by_cases h : x.natAbs = v
  · rw [if_pos h]
    unfold trueL at ht
    rw [h] at ht
    by_cases hp : 0 < x
    · rw [if_pos hp]
      rw [if_neg (show ¬ x < 0 by omega)] at ht
      exact ⟨fun _ => ht, fun e => (by cases e)⟩
    · rw [if_neg hp]
      refine ⟨fun e => (by cases e), fun _ => ?_⟩
      split at ht
      · simpa using ht
      · omega
  · rw [if_neg h]; exact ha v h1 h2
theorem false_of_truth {n : Nat} {vals : List Int} {α : Nat → Bool} {l : Int} (ha : Agree n vals α) (h1 : l ≠ 0) (h2 : l.natAbs ≤ n) (h : truthV vals l = -1) : trueL α l = false := by
  have := ha l.natAbs (by omega) h2
  rw [truthV_abs] at h
  unfold trueL
  split
  · rename_i hl
    rw [if_pos hl] at h
    rw [this.1 (by omega)]; rfl
  · rename_i hl
    rw [if_neg hl] at h
    exact this.2 h
theorem true_of_truth {n : Nat} {vals : List Int} {α : Nat → Bool} {l : Int} (ha : Agree n vals α) (h1 : l ≠ 0) (h2 : l.natAbs ≤ n) (h : truthV vals l = 1) : trueL α l = true := by
  have := ha l.natAbs (by omega) h2
  rw [truthV_abs] at h
  unfold trueL
  split
  · rename_i hl
    rw [if_pos hl] at h
    rw [this.2 (by omega)]; rfl
  · rename_i hl
    rw [if_neg hl] at h
    exact this.1 h
/-- The open literal of a clause, as far as it has been read. -/
structure OpenI (vals row : List Int) (m : Nat) (op : Int) : Prop where
  read : ∀ j, j < m → truthV vals (row.getD j 0) = -1 ∨ (row.getD j 0 = op ∧ op ≠ 0)
  opn : op ≠ 0 → op ∈ row ∧ truthV vals op = 0
theorem OpenI.start (vals row : List Int) : OpenI vals row 0 0 := ⟨fun j h => by omega, fun h => absurd rfl h⟩
theorem OpenI.false {vals row : List Int} {m : Nat} {op : Int} (h : OpenI vals row m op) (hf : truthV vals (row.getD m 0) = -1) : OpenI vals row (m + 1) op :=
  ⟨fun j hj => by by_cases e : j = m
                  · subst e; exact .inl hf
                  · exact h.read j (by omega), h.opn⟩
theorem OpenI.open {vals row : List Int} {m : Nat} {op : Int} (h : OpenI vals row m op) (hm : m < row.length) (h0 : row.getD m 0 ≠ 0) (ho : truthV vals (row.getD m 0) = 0) (hop : op = 0 ∨ op = row.getD m 0) : OpenI vals row (m + 1) (row.getD m 0) :=
  ⟨fun j hj => by by_cases e : j = m
                  · subst e; exact .inr ⟨rfl, h0⟩
                  · rcases h.read j (by omega) with hr | ⟨hr, hr0⟩
                    · exact .inl hr
                    · rcases hop with hop | hop
                      · exact absurd hop hr0
                      · exact .inr ⟨by rw [hr, hop], h0⟩,
   fun _ => ⟨by rw [getD_getElem hm]; exact List.getElem_mem hm, ho⟩⟩
theorem OpenI.two {vals row : List Int} {m : Nat} {op : Int} (h : OpenI vals row m op) (hm : m < row.length) (ho : truthV vals (row.getD m 0) = 0) (h0 : op ≠ 0) (hne : op ≠ row.getD m 0) : Settled vals row :=
  .inr ⟨op, (h.opn h0).1, row.getD m 0, by rw [getD_getElem hm]; exact List.getElem_mem hm, hne, (h.opn h0).2, ho⟩
theorem OpenI.all {vals row : List Int} {op : Int} (h : OpenI vals row row.length op) : ∀ l ∈ row, truthV vals l = -1 ∨ (l = op ∧ op ≠ 0) := by
  intro l hl
  obtain ⟨j, hj, rfl⟩ := List.getElem_of_mem hl
  have := h.read j hj
  rwa [getD_getElem hj] at this
/-- What propagation comes to. -/
structure Prop0 (n : Nat) (ll : List (List Int)) (vals tr vals' tr' : List Int) : Prop where
  grow : Grow n vals tr vals' tr'
  keeps : ∀ α, Agree n vals α → satT α ll → Agree n vals' α
  bound : tr'.length + zeros vals' ≤ 1000
theorem Prop0.unit {n : Nat} {ll : List (List Int)} {vals tr v1 t1 row : List Int} {op : Int} (h : Prop0 n ll vals tr v1 t1) (hlen : vals.length = n + 1) (hrow : row ∈ ll) (hv : ∀ l ∈ row, l ≠ 0 ∧ l.natAbs ≤ n) (ho : OpenI v1 row row.length op) (h0 : op ≠ 0) :
    Prop0 n ll vals tr (setV1 v1 op) (t1 ++ [(op.natAbs : Int)]) ∧ zeros (setV1 v1 op) < zeros v1 := by
  obtain ⟨hmem, ht⟩ := ho.opn h0
  have hl1 : v1.length = n + 1 := h.grow.len.trans hlen
  have hop := hv op hmem
  have h1 : v1.getD op.natAbs 0 = 0 := by rw [truthV_abs] at ht; split at ht <;> omega
  have hz : zeros (setV1 v1 op) + 1 = zeros v1 := zeros_set (by omega) h1 (by split <;> decide)
  refine ⟨⟨h.grow.trans (Grow.set h.grow.tri hl1 hop.2 h0 ht), fun α ha hs => ?_, ?_⟩, by omega⟩
  · have ha1 := h.keeps α ha hs
    refine agree_unit hl1 hop.2 ha1 ?_
    obtain ⟨l, hl, hlt⟩ := hs row hrow
    rcases ho.all l hl with h2 | ⟨h2, _⟩
    · rw [false_of_truth ha1 (hv l hl).1 (hv l hl).2 h2] at hlt; cases hlt
    · rwa [← h2]
  · have := h.bound
    simp only [List.length_append, List.length_singleton]
    omega
theorem Prop0.conflict {n : Nat} {ll : List (List Int)} {vals tr v1 t1 row : List Int} (h : Prop0 n ll vals tr v1 t1) (hrow : row ∈ ll) (hv : ∀ l ∈ row, l ≠ 0 ∧ l.natAbs ≤ n) (ho : OpenI v1 row row.length 0) :
    ∀ α, Agree n vals α → ¬ satT α ll := fun α ha hs => by
  have ha1 := h.keeps α ha hs
  obtain ⟨l, hl, hlt⟩ := hs row hrow
  rcases ho.all l hl with h2 | ⟨_, h2⟩
  · rw [false_of_truth ha1 (hv l hl).1 (hv l hl).2 h2] at hlt; cases hlt
  · exact h2 rfl
end Go.Proofs.YtagohmpbbbkdjaaDoor
