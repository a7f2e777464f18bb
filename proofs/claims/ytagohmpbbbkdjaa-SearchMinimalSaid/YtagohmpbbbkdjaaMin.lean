/- Plain facts on what contradictory assumptions are reduced to: it is contradictory, a part of them in order, and without any one of its elements it is not. No Go in sight. -/
import Derived.Test.YtagohmpbbbkdjaaSem
namespace Go.Proofs.Ytagohmpbbbkdjaa
set_option linter.unusedSimpArgs false
set_option linter.unusedVariables false

theorem coreF_unsat {sat : List Int → Bool} : ∀ (k : Nat) (l : List Int) (i : Nat), sat l = false → sat (coreF sat k l i) = false
  | 0, _, _, h => h
  | k + 1, l, i, h => by
    unfold coreF
    split
    · split
      · exact coreF_unsat k l (i + 1) h
      · rename_i h2
        exact coreF_unsat k _ i (by simpa using h2)
    · exact h
theorem coreF_sublist {sat : List Int → Bool} : ∀ (k : Nat) (l : List Int) (i : Nat), (coreF sat k l i).Sublist l
  | 0, _, _ => List.Sublist.refl _
  | k + 1, l, i => by
    unfold coreF
    split
    · split
      · exact coreF_sublist k l (i + 1)
      · exact (coreF_sublist k _ i).trans (List.eraseIdx_sublist _ _)
    · exact List.Sublist.refl _
theorem eraseIdx_two_sublist {l : List Int} {i j : Nat} (hj : j < i) : ((l.eraseIdx i).eraseIdx j).Sublist (l.eraseIdx j) := by
  induction l generalizing i j with
  | nil => simp
  | cons x xs ih =>
    cases i with
    | zero => omega
    | succ i =>
      cases j with
      | zero => simpa using List.eraseIdx_sublist xs i
      | succ j => simpa using (ih (by omega))
theorem coreF_min {sat : List Int → Bool} (hs : ∀ a b, a.Sublist b → sat b = true → sat a = true) : ∀ (k : Nat) (l : List Int) (i : Nat), l.length ≤ k + i → (∀ j, j < i → j < l.length → sat (l.eraseIdx j) = true) →
    ∀ j, j < (coreF sat k l i).length → sat ((coreF sat k l i).eraseIdx j) = true
  | 0, l, i, hk, h => fun j hj => h j (by have : j < l.length := hj; omega) hj
  | k + 1, l, i, hk, h => by
    unfold coreF
    split
    · rename_i hi
      split
      · rename_i hsat
        refine coreF_min hs k l (i + 1) (by omega) fun j hj hl => ?_
        by_cases hji : j = i
        · subst hji; exact hsat
        · exact h j (by omega) hl
      · refine coreF_min hs k _ i (by rw [List.length_eraseIdx_of_lt hi]; omega) fun j hj hl => ?_
        rw [List.length_eraseIdx_of_lt hi] at hl
        exact hs _ _ (eraseIdx_two_sublist hj) (h j hj (by omega))
    · exact fun j hj => h j (by omega) hj
theorem satB_anti {n : Nat} {ll : List (List Int)} {a b : List Int} (h : a.Sublist b) (hb : satB n ll b = true) : satB n ll a = true := by
  unfold satB least at *
  rw [List.find?_isSome] at *
  obtain ⟨x, hx, hx2⟩ := hb
  exact ⟨x, hx, by rw [List.all_eq_true] at *; exact fun y hy => hx2 y (h.subset hy)⟩

theorem core_unsat {n : Nat} {ll : List (List Int)} {l : List Int} (h : satB n ll l = false) : satB n ll (coreL n ll l) = false := coreF_unsat _ _ _ h
theorem core_sublist (n : Nat) (ll : List (List Int)) (l : List Int) : (coreL n ll l).Sublist l := coreF_sublist _ _ _
theorem core_min (n : Nat) (ll : List (List Int)) (l : List Int) {j : Nat} (hj : j < (coreL n ll l).length) : satB n ll ((coreL n ll l).eraseIdx j) = true :=
  coreF_min (fun _ _ => satB_anti) _ _ _ (by omega) (fun j hj => by omega) j hj
/-- Without any assumption there is a model, unless nothing is left of the assumptions. -/
theorem core_any {n : Nat} {ll : List (List Int)} {l : List Int} (h : satB n ll l = false) : satB n ll [] = !decide ((coreL n ll l).length = 0) := by
  have h1 := core_unsat h
  by_cases h0 : (coreL n ll l).length = 0
  · rw [List.length_eq_zero_iff.1 h0] at h1
    simp [h0, h1]
  · have := satB_anti (List.nil_sublist _) (core_min n ll l (j := 0) (by omega))
    simp [h0, this]

/-- One step of looking for a part of a list from the left. -/
theorem greedy_yes {m l : List Int} {k i : Nat} (hk : k < m.length) (hi : i < l.length) (h : (m.drop k).Sublist (l.drop i)) (e : l.getD i 0 = m.getD k 0) : (m.drop (k + 1)).Sublist (l.drop (i + 1)) := by
  rw [List.drop_eq_getElem_cons hk, List.drop_eq_getElem_cons hi] at h
  rw [getD_getElem hk, getD_getElem hi] at e
  rw [e] at h
  exact List.cons_sublist_cons.1 h
theorem greedy_no {m l : List Int} {k i : Nat} (hk : k < m.length) (hi : i < l.length) (h : (m.drop k).Sublist (l.drop i)) (e : ¬ l.getD i 0 = m.getD k 0) : (m.drop k).Sublist (l.drop (i + 1)) := by
  rw [List.drop_eq_getElem_cons hi] at h
  rw [getD_getElem hk, getD_getElem hi] at e
  rw [List.sublist_cons_iff] at h
  rcases h with h | ⟨r, hr, _⟩
  · exact h
  · rw [List.drop_eq_getElem_cons hk] at hr
    exact absurd (List.cons.inj hr).1.symm e
theorem greedy_end {m l : List Int} {k i : Nat} (hk : k ≤ m.length) (hi : ¬ i < l.length) (h : (m.drop k).Sublist (l.drop i)) : k = m.length := by
  have := h.length_le
  rw [List.length_drop, List.length_drop] at this
  omega
end Go.Proofs.Ytagohmpbbbkdjaa
