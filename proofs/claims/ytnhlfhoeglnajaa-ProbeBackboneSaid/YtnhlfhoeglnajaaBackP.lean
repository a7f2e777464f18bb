/- The reference's backbone, plainly: by counting models. No Go in sight. -/
import Derived.Test.YtnhlfhoeglnajaaLaw15d
namespace Go.Proofs.Ytnhlfhoeglnajaa
set_option linter.unusedSimpArgs false
set_option linter.unusedVariables false
open Go.RowKit
set_option maxRecDepth 20000
/-- How many of the first k models have a variable. -/
def manyN (M : List (Nat × Nat)) (v : Int) (k : Nat) : Nat := ((M.take k).filter fun s => hasB s.1 s.2 v).length
theorem manyN_succ {M : List (Nat × Nat)} {v : Int} {k : Nat} (h : k < M.length) : manyN M v (k + 1) = manyN M v k + (if hasB (M.getD k (0, 0)).1 (M.getD k (0, 0)).2 v then 1 else 0) := by
  unfold manyN
  rw [List.take_succ_eq_append_getElem h, List.filter_append, List.length_append, getD_getElem h]
  congr 1
  simp only [List.filter_cons, List.filter_nil]
  cases hasB M[k].1 M[k].2 v <;> rfl
theorem manyN_le (M : List (Nat × Nat)) (v : Int) (k : Nat) : manyN M v k ≤ k := Nat.le_trans (List.length_filter_le _ _) (by simp; omega)
def backP (M : List (Nat × Nat)) (v : Int) : List Int := (if manyN M v M.length = M.length then [v] else []) ++ (if manyN M v M.length = 0 then [-v] else [])
def backF (M : List (Nat × Nat)) (m : Nat) : List Int := (List.range m).flatMap fun (k : Nat) => backP M ((k : Int) + 1)
theorem backF_succ (M : List (Nat × Nat)) (m : Nat) : backF M (m + 1) = backF M m ++ backP M ((m : Int) + 1) := by unfold backF; rw [List.range_succ, List.flatMap_append]; simp
theorem backF_len (M : List (Nat × Nat)) : ∀ m, (backF M m).length ≤ 2 * m
  | 0 => by simp [backF]
  | m + 1 => by
    have := backF_len M m
    rw [backF_succ, List.length_append]
    have : (backP M ((m : Int) + 1)).length ≤ 2 := by unfold backP; rw [List.length_append]; split <;> split <;> simp
    omega
theorem many_all {M : List (Nat × Nat)} {v : Int} : manyN M v M.length = M.length ↔ ∀ s ∈ M, hasB s.1 s.2 v = true := by
  unfold manyN
  rw [List.take_length]
  constructor
  · intro h s hs
    have := List.length_filter_eq_length_iff.1 h
    exact this s hs
  · intro h
    exact List.length_filter_eq_length_iff.2 h
theorem many_none {M : List (Nat × Nat)} {v : Int} : manyN M v M.length = 0 ↔ ∀ s ∈ M, hasB s.1 s.2 v = false := by
  unfold manyN
  rw [List.take_length, List.length_eq_zero_iff, List.filter_eq_nil_iff]
  simp
theorem least_nil {n : Nat} {ll : List (List Int)} : least n ll [] = (modelsL n ll).head? := by
  unfold least
  cases modelsL n ll with
  | nil => rfl
  | cons a t => simp
theorem least_one_none {n : Nat} {ll : List (List Int)} {z : Int} : least n ll [z] = none ↔ ∀ s ∈ modelsL n ll, holdsB s.1 s.2 z = false := by
  unfold least
  rw [List.find?_eq_none]
  simp
theorem holds_pos {x y : Nat} {v : Int} (h1 : 1 ≤ v) (h2 : v ≤ 128) : holdsB x y v = hasB x y v ∧ holdsB x y (-v) = !hasB x y v := by
  have e := litVar_self h1 h2 (x := v) (.inl rfl)
  have h0 : (v != 0) = true := by rw [bne_iff_ne]; omega
  have hd : decide (0 < v) = true := by rw [decide_eq_true_eq]; omega
  have hd2 : decide (0 < -v) = false := by rw [decide_eq_false_iff_not]; omega
  unfold holdsB
  rw [e.1, e.2, h0, hd, hd2]
  cases hasB x y v <;> exact ⟨rfl, rfl⟩
/-- The backbone by its models. -/
theorem back_bone {n : Nat} {ll : List (List Int)} (hn : n ≤ 128) {s : Nat × Nat} (hs : least n ll [] = some s) : ∀ m, m ≤ n → backF (modelsL n ll) m = boneL n ll s m
  | 0, _ => by simp [backF, boneL]
  | m + 1, hm => by
    rw [backF_succ, boneL_succ, back_bone hn hs m (by omega)]
    congr 1
    have hsm : s ∈ modelsL n ll := List.mem_of_find?_eq_some hs
    have hv1 : 1 ≤ (m : Int) + 1 := by omega
    have hv2 : (m : Int) + 1 ≤ 128 := by omega
    unfold backP sideV
    by_cases ha : ∀ t ∈ modelsL n ll, hasB t.1 t.2 ((m : Int) + 1) = true
    · have hno : ¬ ∀ t ∈ modelsL n ll, hasB t.1 t.2 ((m : Int) + 1) = false := fun h => by have := h s hsm; rw [ha s hsm] at this; cases this
      rw [if_pos (many_all.2 ha), if_neg (fun h => hno (many_none.1 h)), ha s hsm]
      have : least n ll [-((m : Int) + 1)] = none := least_one_none.2 fun t ht => by rw [(holds_pos hv1 hv2).2, ha t ht]; rfl
      simp [this]
    · by_cases hno : ∀ t ∈ modelsL n ll, hasB t.1 t.2 ((m : Int) + 1) = false
      · rw [if_neg (fun h => ha (many_all.1 h)), if_pos (many_none.2 hno), hno s hsm]
        have : least n ll [(m : Int) + 1] = none := least_one_none.2 fun t ht => by rw [(holds_pos hv1 hv2).1]; exact hno t ht
        simp [this]
      · rw [if_neg (fun h => ha (many_all.1 h)), if_neg (fun h => hno (many_none.1 h))]
        cases hh : hasB s.1 s.2 ((m : Int) + 1) with
        | true =>
          have : (least n ll [-((m : Int) + 1)]).isSome = true := by
            cases e : least n ll [-((m : Int) + 1)] with
            | some _ => rfl
            | none => exact absurd (fun t ht => by have := least_one_none.1 e t ht; rw [(holds_pos hv1 hv2).2] at this; simpa using this) ha
          simp [this]
        | false =>
          have : (least n ll [(m : Int) + 1]).isSome = true := by
            cases e : least n ll [(m : Int) + 1] with
            | some _ => rfl
            | none => exact absurd (fun t ht => by have := least_one_none.1 e t ht; rwa [(holds_pos hv1 hv2).1] at this) hno
          simp [this]
end Go.Proofs.Ytnhlfhoeglnajaa
