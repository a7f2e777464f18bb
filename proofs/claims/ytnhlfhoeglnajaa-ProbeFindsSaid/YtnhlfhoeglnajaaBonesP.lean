/- The backbone, plainly: true in every model, in order. No Go in sight. -/
import Derived.Test.YtnhlfhoeglnajaaBones2
import Derived.Test.YtnhlfhoeglnajaaG1
namespace Go.Proofs.Ytnhlfhoeglnajaa
set_option linter.unusedSimpArgs false
set_option linter.unusedVariables false
open Go.RowKit
set_option maxRecDepth 20000
def boneB (n : Int) (ll : List (List Int)) : Bool := decide (theoryErr n ll = 0) && (least n.toNat ll []).isSome
def boneO (n : Int) (ll : List (List Int)) : List Int := if boneB n ll then boneL n.toNat ll ((least n.toNat ll []).getD (0, 0)) n.toNat else []
/-- A set of words in which a theory is true is one of its models. -/
theorem model_mem {n : Nat} {ll : List (List Int)} {x y : Nat} (hx : x < 18446744073709551616) (hy : y < 18446744073709551616) (h : evalB n ll x y = true) : (x, y) ∈ modelsL n ll := by
  have ht := (evalB_clause h).1
  have hn : n ≤ 128 := by have := (theoryErr_zero ht).2.1; omega
  have ha : assignB x y n = true := by
    unfold evalB at h
    rw [Bool.and_eq_true, Bool.and_eq_true] at h
    exact h.2.1
  rw [assignB_iff] at ha
  let α : Nat → Bool := fun u => hasB x y u
  have hk := numOf_lt α n
  have e : assign (numOf α n) n = (x, y) := by
    have hl := assign_lt (k := numOf α n) hn
    have key := set_ext (x := (assign (numOf α n) n).1) (y := (assign (numOf α n) n).2) (x' := x) (y' := y) hl.1 hl.2 hx hy fun u u1 u2 => by
      rw [hasB_assign hn]
      by_cases hu : u ≤ n
      · have := numOf_bit α n u.toNat (by omega) (by omega)
        rw [this, show α u.toNat = hasB x y u from by show hasB x y ((u.toNat : Nat) : Int) = _; rw [show ((u.toNat : Nat) : Int) = u by omega]]
        simp [u1, hu]
      · rw [ha u (by omega)]
        simp [hu]
    exact Prod.ext key.1 key.2
  unfold modelsL
  rw [List.mem_filter, List.mem_map]
  exact ⟨⟨numOf α n, List.mem_range.2 hk, e⟩, h⟩
theorem least_none_no {n : Nat} {ll : List (List Int)} {l : List Int} (h : least n ll l = none) {s : Nat × Nat} (hs : s ∈ modelsL n ll) : l.all (holdsB s.1 s.2) = false := by
  unfold least at h
  rw [List.find?_eq_none] at h
  simpa using h s hs
theorem bone_mem {n : Nat} {ll : List (List Int)} {s : Nat × Nat} {m : Nat} {z : Int} : z ∈ boneL n ll s m ↔ ∃ k : Nat, k < m ∧ least n ll [-z] = none ∧ z = sideV s ((k : Int) + 1) := by
  unfold boneL
  rw [List.mem_flatMap]
  constructor
  · rintro ⟨k, hk, hz⟩
    split at hz
    · cases hz
    · rename_i hno
      rw [List.mem_singleton] at hz
      subst hz
      exact ⟨k, List.mem_range.1 hk, by simpa using hno, rfl⟩
  · rintro ⟨k, hk, hno, rfl⟩
    exact ⟨k, List.mem_range.2 hk, by rw [hno]; simp⟩
theorem sideV_abs (s : Nat × Nat) (v : Int) : sideV s v = v ∨ sideV s v = -v := by unfold sideV; split <;> simp
/-- A model has the backbone. -/
theorem bone_true {n : Int} {ll : List (List Int)} {x y : Nat} (hx : x < 18446744073709551616) (hy : y < 18446744073709551616) (h : evalB n ll x y = true) : boneB n ll = true ∧ (boneO n ll).all (holdsB x y) = true := by
  have ht := (evalB_clause h).1
  obtain ⟨n0, n1, _⟩ := theoryErr_zero ht
  obtain ⟨N, rfl⟩ : ∃ N : Nat, n = N := ⟨n.toNat, by omega⟩
  have hm := model_mem hx hy h
  have hb : boneB N ll = true := by
    unfold boneB
    rw [Bool.and_eq_true, decide_eq_true_eq]
    refine ⟨ht, ?_⟩
    rw [Int.toNat_natCast]
    cases hl : least N ll [] with
    | some s => rfl
    | none => have := least_none_no hl hm; simp at this
  refine ⟨hb, ?_⟩
  unfold boneO
  rw [if_pos hb, List.all_eq_true, Int.toNat_natCast]
  intro z hz
  obtain ⟨k, hk, hno, hzk⟩ := bone_mem.1 hz
  have hf := least_none_no hno hm
  have hzv : litValid z N = true := by
    rcases sideV_abs ((least N ll []).getD (0, 0)) ((k : Int) + 1) with e | e <;> rw [hzk, e, litValid_iff] <;> omega
  simp only [List.all_cons, List.all_nil, Bool.and_true] at hf
  rw [holdsB_neg (litVar_ne hzv)] at hf
  simpa using hf
theorem bone_var {n : Nat} {ll : List (List Int)} {s : Nat × Nat} (hn : n ≤ 128) : ∀ m, m ≤ n → (boneL n ll s m).Pairwise (fun a b => litVar a < litVar b) ∧ ∀ z ∈ boneL n ll s m, litVar z ≤ m
  | 0, _ => by simp [boneL]
  | m + 1, hm => by
    obtain ⟨i1, i2⟩ := bone_var hn m (by omega)
    have hv : litVar (sideV s ((m : Int) + 1)) = (m : Int) + 1 := by
      rcases sideV_abs s ((m : Int) + 1) with e | e <;> rw [e] <;> unfold litVar <;> (repeat' split) <;> omega
    rw [boneL_succ]
    split
    · rw [List.append_nil]
      exact ⟨i1, fun z hz => by have := i2 z hz; omega⟩
    · constructor
      · rw [List.pairwise_append]
        refine ⟨i1, by simp, fun a ha b hb => ?_⟩
        rw [List.mem_singleton] at hb
        subst hb
        rw [hv]
        have := i2 a ha; omega
      · intro z hz
        rw [List.mem_append, List.mem_singleton] at hz
        rcases hz with hz | rfl
        · have := i2 z hz; omega
        · rw [hv]; omega
/-- The backbone is in order. -/
theorem boneO_var (n : Int) (ll : List (List Int)) {i : Nat} (h : i + 1 < (boneO n ll).length) : litVar ((boneO n ll).getD i 0) < litVar ((boneO n ll).getD (i + 1) 0) := by
  have hp : (boneO n ll).Pairwise (fun a b => litVar a < litVar b) := by
    unfold boneO
    split
    · rename_i hb
      unfold boneB at hb
      rw [Bool.and_eq_true, decide_eq_true_eq] at hb
      have := (theoryErr_zero hb.1)
      exact (bone_var (by omega) n.toNat (Nat.le_refl _)).1
    · exact List.Pairwise.nil
  rw [getD_getElem (by omega), getD_getElem h]
  exact List.pairwise_iff_getElem.1 hp i (i + 1) (by omega) h (by omega)
theorem boneO_no {n : Int} {ll : List (List Int)} (h : boneB n ll = false) : boneO n ll = [] := by unfold boneO; rw [h]; rfl
/-- probe.Backbone, all its ways. -/
theorem Backbone_any (n : Int) (lv : Value) (ll : List (List Int)) (w : World) (hR : RowsAt w lv ll) :
    Calls Try.prog 21 #[.agg #[.int .i64 n, lv]] w (BoneRet w (boneO n ll) (boneB n ll) (theoryErr n ll)) := by
  by_cases he : theoryErr n ll = 0
  · obtain ⟨n0, n1, _⟩ := theoryErr_zero he
    obtain ⟨N, rfl⟩ : ∃ N : Nat, n = N := ⟨n.toNat, by omega⟩
    rw [he]
    cases hl : least N ll [] with
    | none =>
      have hb : boneB N ll = false := by unfold boneB; rw [Int.toNat_natCast, hl]; simp
      rw [boneO_no hb, hb]
      exact Backbone_none N lv ll w hR he hl
    | some s =>
      have hb : boneB N ll = true := by unfold boneB; rw [Int.toNat_natCast, hl]; simp [he]
      have ho : boneO N ll = boneL N ll s N := by unfold boneO; rw [if_pos hb, Int.toNat_natCast, hl]; rfl
      rw [hb, ho]
      exact Backbone_some N lv ll s w hR he hl
  · have hb : boneB n ll = false := by unfold boneB; simp [he]
    rw [boneO_no hb, hb]
    exact Backbone_bad n lv ll w hR he
end Go.Proofs.Ytnhlfhoeglnajaa
