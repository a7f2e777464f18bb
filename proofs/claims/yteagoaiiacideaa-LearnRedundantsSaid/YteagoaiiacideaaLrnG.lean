/- The reference's First, plainly: what its loops hold. No Go in sight but reading a slice. -/
import Derived.Test.YteagoaiiacideaaLearnT
import Derived.Test.YteagoaiiacideaaLrnC
import Derived.Test.YteagoaiiacideaaLrnD
namespace Go.Proofs.Yteagoaiiacideaa
set_option linter.unusedSimpArgs false
set_option linter.unusedVariables false
open Go.RowKit
set_option maxRecDepth 20000
theorem IntsAt.same {w : World} {v : Value} {l m : List Int} (h : IntsAt w v l) (k : IntsAt w v m) : l = m := by
  obtain ⟨a, cap, rfl, _, _, h3⟩ := h
  obtain ⟨b, bap, e, _, _, k3⟩ := k
  simp only [Value.slice.injEq] at e
  obtain ⟨rfl, hl, rfl⟩ := e
  refine List.ext_getElem hl fun i h1 h2 => ?_
  obtain ⟨b1, o1, e1, _, c1⟩ := h3 i h1
  obtain ⟨b2, o2, e2, _, c2⟩ := k3 i h2
  rw [e1] at e2
  cases e2
  rw [c1] at c2
  simp only [Option.some.injEq, Value.int.injEq, true_and] at c2
  rw [getD_getElem h1, getD_getElem h2] at c2
  exact c2
open Classical in
/-- What a slice reads as. -/
noncomputable def readI (w : World) (v : Value) : List Int := if h : ∃ l, IntsAt w v l then Classical.choose h else []
theorem readI_of {w : World} {v : Value} {l : List Int} (h : IntsAt w v l) : readI w v = l := by
  unfold readI
  rw [dif_pos ⟨l, h⟩]
  exact (Classical.choose_spec (⟨l, h⟩ : ∃ l, IntsAt w v l)).same h
theorem onpick_val {n : Int} {ll : List (List Int)} {tr : List St} (ht : Trl n ll tr) {top : Int} {F : Nat → Bool} {i : Nat} {c : List Int} (h : OnPick n ll tr top F i c) : ∀ y ∈ c, -1000 ≤ y ∧ y ≤ 1000 := fun y hy => by
  obtain ⟨P, h1, _⟩ := h
  obtain ⟨k, hk, _, rfl⟩ := (h1.mem y).1 hy
  have := (litValid_iff _ _).1 (ht.val k hk)
  omega
theorem onpick_len {n : Int} {ll : List (List Int)} {tr : List St} {top : Int} {F : Nat → Bool} {i : Nat} {c : List Int} (h : OnPick n ll tr top F i c) : c.length ≤ tr.length := by
  obtain ⟨P, h1, _⟩ := h
  have := len_le_of_sub c (outTo tr P tr.length) h1.nd fun y hy => outTo_mem.2 (by obtain ⟨k, hk, hP, e⟩ := (h1.mem y).1 hy; exact ⟨k, hk, hP, e⟩)
  have := outTo_len tr P tr.length
  omega
theorem onpick_last {n : Int} {ll : List (List Int)} {tr : List St} (ht : Trl n ll tr) {top : Int} {F : Nat → Bool} {i : Nat} {c : List Int} (h : OnPick n ll tr top F i c) : lastI tr c < i := by
  obtain ⟨P, h1, h2, h3, _⟩ := h
  obtain ⟨m, e, hm, hP, _⟩ := repC_last ht h1 h3
  have := h2.lt m hP
  omega
theorem lastI_take {tr : List St} {c : List Int} {k : Nat} (hk : k < c.length) : lastI tr (c.take (k + 1)) = max (lastI tr (c.take k)) (wrongI tr (c.getD k 0)) := by
  unfold lastI
  rw [List.take_succ_eq_append_getElem hk, List.foldl_append, getD_getElem hk]; rfl
theorem filter_take {c : List Int} {k : Nat} (hk : k < c.length) (x : Int) : (c.take (k + 1)).filter (fun y => y != x) = (c.take k).filter (fun y => y != x) ++ if c.getD k 0 = x then [] else [c.getD k 0] := by
  rw [List.take_succ_eq_append_getElem hk, List.filter_append, getD_getElem hk]
  by_cases e : c[k] = x
  · rw [if_pos e]; simp [e]
  · rw [if_neg e]; simp [e]
theorem addsL_take {b c : List Int} {k : Nat} (hk : k < c.length) (x : Int) : addsL b ((c.take (k + 1)).filter fun y => y != x) = if c.getD k 0 = x then addsL b ((c.take k).filter fun y => y != x) else addL (addsL b ((c.take k).filter fun y => y != x)) (c.getD k 0) := by
  rw [filter_take hk]
  by_cases e : c.getD k 0 = x
  · rw [if_pos e, if_pos e, List.append_nil]
  · rw [if_neg e, if_neg e, addsL_snoc]
theorem adds_take {c : List Int} {k : Nat} (hk : k < c.length) : addsL [] (c.take (k + 1)) = addL (addsL [] (c.take k)) (c.getD k 0) := by
  rw [List.take_succ_eq_append_getElem hk, addsL_snoc, getD_getElem hk]
theorem backL_take {tr : List St} {c : List Int} {k : Nat} (hk : k < c.length) (top : Int) : backL tr (c.take (k + 1)) top = if levelOf tr (c.getD k 0) < top then max (backL tr (c.take k) top) (levelOf tr (c.getD k 0)) else backL tr (c.take k) top := by
  unfold backL
  rw [List.take_succ_eq_append_getElem hk, List.filter_append, List.foldl_append, getD_getElem hk]
  by_cases e : levelOf tr c[k] < top
  · rw [if_pos e]; simp [e]
  · rw [if_neg e]; simp [e]
theorem filter_len_le (c : List Int) (k : Nat) (x : Int) : ((c.take k).filter fun y => y != x).length ≤ c.length := by
  have := List.length_filter_le (fun y => y != x) (c.take k)
  rw [List.length_take] at this; omega
/-- What a step of the reference comes to. -/
theorem step_list {n : Int} {ll : List (List Int)} {tr : List St} (ht : Trl n ll tr) {top : Int} {F : Nat → Bool} {i : Nat} {c : List Int} (h : OnPick n ll tr top F i c) (hm : 1 < (c.filter fun y => levelOf tr y == top).length) :
    ∃ m p : Nat, lastI tr c = m ∧ m < tr.length ∧ sW tr m = p ∧ p < ll.length ∧ OnPick n ll tr top F m (addsL (c.filter fun y => y != -sL tr m) ((ll.getD p []).filter fun y => y != sL tr m)) ∧ lastI tr (addsL (c.filter fun y => y != -sL tr m) ((ll.getD p []).filter fun y => y != sL tr m)) < m := by
  obtain ⟨m, e, _, hl, hw, hO⟩ := onpick_step ht h hm
  obtain ⟨_, h0, h1, _⟩ := ht.res m hl hw
  have hp : sW tr m = ((sW tr m).toNat : Nat) := by omega
  refine ⟨m, (sW tr m).toNat, e, hl, hp, by omega, hO, onpick_last ht hO⟩
end Go.Proofs.Yteagoaiiacideaa
