/- Chapter 04, plainly: a list, its term and its clause are true where the others are; resolvents follow. No Go in sight. -/
import Derived.Test.YteaidblcjhbjnaaResolve04b
import Derived.Test.YteaidblcjhbjnaaUnitR
namespace Go.Proofs.Yteaidblcjhbjnaa
set_option linter.unusedSimpArgs false
set_option linter.unusedVariables false
open Go.RowKit
theorem any_order {l : List Int} (hv : ∀ x ∈ l, litVar x ≠ 0) (p : Int → Bool) : (orderL l).any p = l.any p := by
  rw [Bool.eq_iff_iff, List.any_eq_true, List.any_eq_true]
  constructor
  · rintro ⟨x, hx, h⟩; exact ⟨x, (orderL_mem hv x).1 hx, h⟩
  · rintro ⟨x, hx, h⟩; exact ⟨x, (orderL_mem hv x).2 hx, h⟩
theorem all_order {l : List Int} (hv : ∀ x ∈ l, litVar x ≠ 0) (p : Int → Bool) : (orderL l).all p = l.all p := by
  rw [Bool.eq_iff_iff, List.all_eq_true, List.all_eq_true]
  constructor
  · intro h x hx; exact h x ((orderL_mem hv x).2 hx)
  · intro h x hx; exact h x ((orderL_mem hv x).1 hx)
theorem opp_truth {l : List Int} (hv : ∀ x ∈ l, litVar x ≠ 0) (ho : oppB (orderL l) = true) (x y : Nat) : l.all (holdsB x y) = false ∧ l.any (holdsB x y) = true := by
  rw [opp_order hv, List.any_eq_true] at ho
  obtain ⟨z, hz, h⟩ := ho
  rw [List.contains_iff_mem] at h
  have hn := holdsB_neg (x := x) (y := y) (hv z hz)
  constructor
  · rw [Bool.eq_false_iff]
    intro ha
    rw [List.all_eq_true] at ha
    rw [ha z hz, ha _ h] at hn; cases hn
  · rw [List.any_eq_true]
    cases hh : holdsB x y z with
    | true => exact ⟨z, hz, hh⟩
    | false => exact ⟨-z, h, by rw [hn, hh]; rfl⟩
/-- What LitSame asks. -/
theorem same_ok {l : List Int} {n : Int} (h : l.all (litValid · n) = true) (x y : Nat) :
    (termB l n = true → (termL l n).all (holdsB x y) = l.all (holdsB x y)) ∧ (termB l n = false → l.all (holdsB x y) = false) ∧ (clauseL l n).any (holdsB x y) = l.any (holdsB x y) ∧
    (clauseB l n = true → l.any (holdsB x y) = true) ∧ clauseB l n = !termB l n ∧ clauseE l n = 0 := by
  have hv := valid_vars h
  unfold termB termL clauseL clauseB clauseE
  simp only [h, Bool.true_and, if_true]
  refine ⟨fun ht => ?_, fun ht => ?_, any_order hv _, fun hc => (opp_truth hv hc x y).2, by simp, trivial⟩
  · rw [if_pos ht]; exact all_order hv _
  · exact (opp_truth hv (by simpa using ht) x y).1
theorem same_bad {l : List Int} {n : Int} (h : l.all (litValid · n) = false) : clauseL l n = [] ∧ clauseB l n = false ∧ clauseE l n = 1 := by
  unfold clauseL clauseB clauseE
  simp [h]
/-- Where two clauses are true, so is their resolvent. -/
theorem res_truth {c d : List Int} {v : Int} (h : resOk c d v = true) (x y : Nat) (h1 : c.any (holdsB x y) = true) (h2 : d.any (holdsB x y) = true) : (resL c d v).any (holdsB x y) = true := by
  have ho := h
  unfold resOk at h
  simp only [Bool.and_eq_true] at h
  obtain ⟨⟨⟨⟨⟨hv, h0⟩, hc⟩, hd⟩, hk1⟩, hk2⟩ := h
  unfold resL
  rw [if_pos ho, any_order (resRaw_vars hc hd), List.any_eq_true]
  rw [List.any_eq_true] at h1 h2
  obtain ⟨a, ha, ha'⟩ := h1
  obtain ⟨b, hb, hb'⟩ := h2
  unfold resRaw
  by_cases e : a = v
  · have hn := holdsB_neg (x := x) (y := y) (l := v) (litVar_ne hv)
    rw [← e, ha'] at hn
    have hne : b ≠ -v := by
      rintro rfl
      rw [e] at hn
      rw [hb'] at hn; cases hn
    exact ⟨b, List.mem_append.2 (.inr (List.mem_filter.2 ⟨hb, by simpa using hne⟩)), hb'⟩
  · exact ⟨a, List.mem_append.2 (.inl (List.mem_filter.2 ⟨ha, by simpa using e⟩)), ha'⟩
theorem subs_truth {c d : List Int} (h : c.all (d.contains ·) = true) (x y : Nat) (h1 : c.any (holdsB x y) = true) : d.any (holdsB x y) = true := by
  rw [List.any_eq_true] at *
  rw [List.all_eq_true] at h
  obtain ⟨a, ha, ha'⟩ := h1
  exact ⟨a, List.contains_iff_mem.1 (h a ha), ha'⟩
/-- A clause without opposite literals is false where exactly the variables of its negative literals are in. -/
theorem false_truth {c : List Int} (hv : ∀ x ∈ c, litVar x ≠ 0) (ho : (c.any fun x => c.contains (-x)) = false) {x y : Nat} (hs : ∀ u : Int, 1 ≤ u → u ≤ 128 → hasB x y u = c.contains (-u)) : c.any (holdsB x y) = false := by
  rw [List.any_eq_false]
  intro z hz h
  have hz0 := hv z hz
  have hr := litVar_range z
  have hb : (litVar z != 0) = true := by simpa using hz0
  unfold holdsB at h
  rw [hb, Bool.true_and, hs _ (by omega) (by omega), beq_iff_eq] at h
  have e : litVar z = if 0 < z then z else -z := by unfold litVar at *; (repeat' split) <;> omega
  rw [e] at h
  by_cases h0 : 0 < z
  · rw [if_pos h0, decide_eq_true h0] at h
    have := List.any_eq_false.1 ho z hz
    exact this h
  · rw [if_neg h0, decide_eq_false h0, Int.neg_neg] at h
    have : c.contains z = true := List.contains_iff_mem.2 hz
    rw [this] at h; cases h
end Go.Proofs.Yteaidblcjhbjnaa
