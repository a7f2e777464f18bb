/- Texts of this claim, joined: Ref04, Ref04b, OppLaw. No condition. -/
import Derived.Test.YteagoaiiacideaaG2
/- The reference of the chapter on literals: what each call returns; old memory stays. -/
namespace Go.Proofs.Yteagoaiiacideaa
set_option linter.unusedSimpArgs false
set_option linter.unusedVariables false
open Go.RowKit

theorem litVar_bound {x : Int} (h : litVar x ≠ 0) : -128 ≤ x ∧ x ≤ 128 := by
  unfold litVar at h
  (repeat' split at h) <;> omega
end Go.Proofs.Yteagoaiiacideaa
/- The reference of the chapter on literals: Order, Opposite, Subsumes: what each call returns; old memory stays. -/
namespace Go.Proofs.Yteagoaiiacideaa
set_option linter.unusedSimpArgs false
set_option linter.unusedVariables false
open Go.RowKit
def pieceL (l : List Int) (v : Nat) : List Int := (if l.contains (-((v : Int) + 1)) then [-((v : Int) + 1)] else []) ++ (if l.contains ((v : Int) + 1) then [(v : Int) + 1] else [])
def orderTo (l : List Int) (k : Nat) : List Int := (List.range k).flatMap (pieceL l)
theorem orderTo_all (l : List Int) : orderTo l 128 = orderL l := rfl
theorem orderTo_succ (l : List Int) (k : Nat) : orderTo l (k + 1) = orderTo l k ++ pieceL l k := by
  unfold orderTo; rw [List.range_succ, List.flatMap_append]; simp
theorem orderTo_length (l : List Int) : ∀ k, (orderTo l k).length ≤ 2 * k
  | 0 => by simp [orderTo]
  | k + 1 => by
    have := orderTo_length l k
    rw [orderTo_succ, List.length_append]
    have : (pieceL l k).length ≤ 2 := by unfold pieceL; split <;> split <;> simp
    omega
/-- What Order hands back: a list of the call's own. -/
def OrdRet (w : World) (L : List Int) (e : Ending) (w' : World) : Prop := ∃ v, e = .returned v ∧ OwnI w' w.heap.size v L ∧ Ex w w'
end Go.Proofs.Yteagoaiiacideaa
/- A list of literals has opposite ones exactly if in order they are neighbours. No Go in sight. -/
namespace Go.Proofs.Yteagoaiiacideaa
set_option linter.unusedSimpArgs false
set_option linter.unusedVariables false
theorem opp_order {l : List Int} (hv : ∀ x ∈ l, litVar x ≠ 0) : oppB (orderL l) = l.any fun x => l.contains (-x) := by
  have hm := orderL_mem hv
  have hs := orderL_strict l
  generalize orderL l = L at *
  rw [Bool.eq_iff_iff]
  unfold oppB
  rw [List.any_eq_true, List.any_eq_true]
  have hp := List.pairwise_iff_getElem.1 hs
  constructor
  · rintro ⟨i, hi, h⟩
    rw [List.mem_range] at hi
    simp only [Bool.and_eq_true, decide_eq_true_eq, beq_iff_eq] at h
    obtain ⟨h1, h2⟩ := h
    rw [getD_getElem hi, getD_getElem (by omega)] at h2
    refine ⟨L[i - 1], (hm _).1 (List.getElem_mem _), ?_⟩
    rw [List.contains_iff_mem, ← h2]
    exact (hm _).1 (List.getElem_mem _)
  · rintro ⟨x, hx, h⟩
    rw [List.contains_iff_mem] at h
    have key : ∀ y : Int, y < 0 → y ∈ L → -y ∈ L → ∃ i, i ∈ List.range L.length ∧ (decide (1 ≤ i) && (L.getD i 0 == -(L.getD (i - 1) 0))) = true := by
      intro y hy h1 h2
      obtain ⟨i, hi, ei⟩ := List.getElem_of_mem h1
      obtain ⟨j, hj, ej⟩ := List.getElem_of_mem h2
      have ki : litKey L[i] = 2 * (y.natAbs : Int) := by rw [ei]; unfold litKey; rw [if_neg (by omega)]; omega
      have kj : litKey L[j] = 2 * (y.natAbs : Int) + 1 := by rw [ej]; unfold litKey; rw [if_pos (by omega)]; omega
      have hij : i < j := by
        rcases Nat.lt_trichotomy i j with h | h | h
        · exact h
        · subst h; omega
        · have := hp j i hj hi h; omega
      have hji : j = i + 1 := by
        by_cases h : j = i + 1
        · exact h
        · have a1 := hp i (i + 1) hi (by omega) (by omega)
          have a2 := hp (i + 1) j (by omega) hj (by omega)
          omega
      refine ⟨j, List.mem_range.2 hj, ?_⟩
      simp only [Bool.and_eq_true, decide_eq_true_eq, beq_iff_eq]
      refine ⟨by omega, ?_⟩
      rw [getD_getElem hj, getD_getElem (by omega), ej]
      subst hji
      simp only [Nat.add_sub_cancel]
      rw [ei]
    have h0 : x ≠ 0 := by rintro rfl; exact hv 0 hx rfl
    rcases Int.lt_or_gt_of_ne h0 with hn | hn
    · exact key x hn ((hm _).2 hx) ((hm _).2 h)
    · exact key (-x) (by omega) ((hm _).2 h) (by rw [Int.neg_neg]; exact (hm _).2 hx)
end Go.Proofs.Yteagoaiiacideaa
