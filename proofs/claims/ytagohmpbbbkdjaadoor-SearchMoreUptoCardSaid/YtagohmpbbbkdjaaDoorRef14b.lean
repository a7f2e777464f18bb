/- The reference of the chapter on search: Solve, Core and Entails return what the plain definitions say, and old memory stays. -/
import Derived.Test.YtagohmpbbbkdjaaDoorRef14
namespace Go.Proofs.YtagohmpbbbkdjaaDoor
set_option linter.unusedSimpArgs false
set_option linter.unusedVariables false
open Go.RowKit
set_option maxRecDepth 20000

theorem searchErr_zero {n : Int} {ll : List (List Int)} {l : List Int} (h : searchErr n ll l = 0) : theoryErr n ll = 0 ∧ ∀ x ∈ l, litValid x n = true := by
  unfold searchErr at h
  split at h
  · rename_i h0
    split at h
    · rename_i h1; rw [List.all_eq_true] at h1; exact ⟨h0, h1⟩
    · cases h
  · rename_i h0; exact absurd h h0
/-- A theory and a list, and the world in which the theory has been boxed. -/
theorem box_theory {n : Int} {lv av : Value} {ll : List (List Int)} {l : List Int} {w : World} (hR : RowsAt w lv ll) (hl : IntsAt w av l) (t : TypeId) :
    ∃ wa : World, wa = w.alloc (.cells #[.int .i64 n, lv] t) ∧ Ex w wa ∧ RowsAt wa lv ll ∧ IntsAt wa av l ∧ BoxT wa w.heap.size n lv :=
  ⟨_, rfl, Ex.alloc _ _, hR.ex (Ex.alloc _ _), hl.ex (Ex.alloc _ _), ⟨by simp, by simp⟩⟩

/-- The same with a set for the result. -/
theorem box_theory_set {n : Int} {lv av : Value} {ll : List (List Int)} {l : List Int} {w : World} (hR : RowsAt w lv ll) (hl : IntsAt w av l) (t t' : TypeId) :
    ∃ wa : World, wa = (w.alloc (.cells #[.int .i64 n, lv] t)).alloc (.cells #[.int .u64 0, .int .u64 0] t') ∧ Ex w wa ∧ RowsAt wa lv ll ∧ IntsAt wa av l ∧ BoxT wa w.heap.size n lv ∧
      OwnB wa (w.heap.size + 1) [.int .u64 0, .int .u64 0] t' := by
  have hx : Ex w ((w.alloc (.cells #[.int .i64 n, lv] t)).alloc (.cells #[.int .u64 0, .int .u64 0] t')) := (Ex.alloc _ _).alloc' _
  refine ⟨_, rfl, hx, hR.ex hx, hl.ex hx, ⟨by simp, by simp⟩, ?_⟩
  have := OwnB.new (w.alloc (.cells #[.int .i64 n, lv] t)) [.int .u64 0, .int .u64 0] t'
  rwa [World.size_alloc] at this

theorem entails_no {n : Nat} {ll : List (List Int)} {l : List Int} {k : Nat} (hk : k < (modelsL n ll).length) (h : l.any (holdsB ((modelsL n ll).getD k (0, 0)).1 ((modelsL n ll).getD k (0, 0)).2) = false) : entailsB n ll l = false := by
  unfold entailsB
  generalize modelsL n ll = M at *
  exact not_all_of_getD (d := (0, 0)) hk h
theorem entails_yes {n : Nat} {ll : List (List Int)} {l : List Int} (h : ∀ k, k < (modelsL n ll).length → l.any (holdsB ((modelsL n ll).getD k (0, 0)).1 ((modelsL n ll).getD k (0, 0)).2) = true) : entailsB n ll l = true := by
  unfold entailsB
  generalize modelsL n ll = M at *
  exact all_of_getD (d := (0, 0)) h
/-- What Core hands back: a list in new memory (nil where there is none), whether there is one, the error. -/
def CoreRet (w : World) (L : List Int) (b : Bool) (er : Int) (e : Ending) (w' : World) : Prop :=
  ∃ v, e = .returned (.tuple #[v, .bool b, .int .i64 er]) ∧ OwnI w' w.heap.size v L ∧ Ex w w'
end Go.Proofs.YtagohmpbbbkdjaaDoor
