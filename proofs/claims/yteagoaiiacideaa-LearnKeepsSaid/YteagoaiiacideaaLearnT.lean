/- The program's way to a learned clause, plainly: maps of steps, counting. No Go in sight. -/
import Derived.Test.YteagoaiiacideaaLearnS
import Derived.Test.YteagoaiiacideaaLearn5
import Derived.Test.YteagoaiiacideaaLrnB
import Derived.Test.YteagoaiiacideaaMapP
namespace Go.Proofs.Yteagoaiiacideaa
set_option linter.unusedSimpArgs false
set_option linter.unusedVariables false
open Go.RowKit
set_option maxRecDepth 20000
/-- A set of steps as a test of numbers. -/
def toP (S : Nat → Bool) (x : Int) : Bool := decide (0 ≤ x) && S x.toNat
theorem toP_nat (S : Nat → Bool) (k : Nat) : toP S (k : Int) = S k := by unfold toP; rw [decide_eq_true (Int.natCast_nonneg k), Int.toNat_natCast]; rfl
theorem toP_true {S : Nat → Bool} {x : Int} (h : toP S x = true) : ∃ k : Nat, x = k ∧ S k = true := by
  unfold toP at h
  rw [Bool.and_eq_true, decide_eq_true_eq] at h
  exact ⟨x.toNat, by omega, h.2⟩
theorem toP_set (S : Nat → Bool) (t : Nat) (x : Int) : toP (fun j => if j = t then true else S j) x = (x == (t : Int) || toP S x) := by
  unfold toP
  by_cases h : 0 ≤ x
  · rw [decide_eq_true h]
    show (true && if x.toNat = t then true else S x.toNat) = _
    by_cases e : x.toNat = t
    · rw [if_pos e, show (x == (t : Int)) = true by rw [beq_iff_eq]; omega]; rfl
    · rw [if_neg e, show (x == (t : Int)) = false by rw [beq_eq_false_iff_ne]; omega]; rfl
  · rw [decide_eq_false h, show (x == (t : Int)) = false by rw [beq_eq_false_iff_ne]; omega]; rfl
theorem toP_del (S : Nat → Bool) (t : Nat) (x : Int) : toP (fun j => S j && j != t) x = (x != (t : Int) && toP S x) := by
  unfold toP
  by_cases h : 0 ≤ x
  · rw [decide_eq_true h]
    show (true && (S x.toNat && x.toNat != t)) = _
    by_cases e : x.toNat = t
    · rw [show (x != (t : Int)) = false by simp; omega, e]; simp
    · rw [show (x != (t : Int)) = true by rw [bne_iff_ne]; omega, show (x.toNat != t) = true from bne_iff_ne.2 e]; simp
  · rw [decide_eq_false h]; simp
theorem toP_none : toP (fun _ => false) = fun _ => false := by funext x; unfold toP; simp
/-- What has been counted while the map is gone through. -/
def cntLeft (tr : List St) (S : Nat → Bool) (top : Int) (left : Lit → Bool) : Nat := cnt tr.length fun k => S k && decide (sV tr k = top) && !left (.int .i64 (k : Int))
theorem cntLeft_start {tr : List St} {S : Nat → Bool} {top : Int} {left : Lit → Bool} (h : ∀ k, k < tr.length → left (.int .i64 (k : Int)) = S k) : cntLeft tr S top left = 0 := by
  unfold cntLeft
  rw [cnt_congr (q := fun _ => false) (fun k hk => by rw [h k hk]; cases S k <;> simp)]
  unfold cnt; simp
theorem cntLeft_end {tr : List St} {S : Nat → Bool} {top : Int} {left : Lit → Bool} (h : ∀ kl, left kl = false) : cntLeft tr S top left = manyN tr S top := by
  unfold cntLeft manyN
  exact cnt_congr fun k _ => by rw [h]; simp
theorem cntLeft_step {tr : List St} {S : Nat → Bool} {top : Int} {left : Lit → Bool} {t : Nat} (ht : t < tr.length) (hS : S t = true) (hl : left (.int .i64 (t : Int)) = true) :
    cntLeft tr S top (fun z => left z && !z.sameKey (.int .i64 (t : Int))) = cntLeft tr S top left + if sV tr t = top then 1 else 0 := by
  unfold cntLeft
  have key : ∀ j : Nat, j ≠ t → (left (.int .i64 (j : Int)) && !(Lit.int .i64 (j : Int)).sameKey (.int .i64 (t : Int))) = left (.int .i64 (j : Int)) := fun j hj => by
    rw [sameKey_nat, show (j == t) = false by simp [hj]]; simp
  have kt : (left (.int .i64 (t : Int)) && !(Lit.int .i64 (t : Int)).sameKey (.int .i64 (t : Int))) = false := by rw [sameKey_nat]; simp
  by_cases e : sV tr t = top
  · rw [if_pos e]
    refine cnt_add (k := t) ht ?_ ?_ fun j _ hj => ?_
    · rw [hl]; simp
    · simp only [kt, hS, decide_eq_true e]; rfl
    · simp only [key j hj]
  · rw [if_neg e, Nat.add_zero]
    refine cnt_congr fun j _ => ?_
    by_cases hj : j = t
    · subst hj; rw [decide_eq_false e]; simp
    · simp only [key j hj]
/-! ### Replacing a step -/
theorem repTo_zero (ll : List (List Int)) (tr : List St) (P : Nat → Bool) (i : Nat) : repTo ll tr P i 0 = fun k => P k && k != i := by
  funext k; unfold repTo; simp
theorem repTo_end (ll : List (List Int)) (tr : List St) (P : Nat → Bool) (i : Nat) : repTo ll tr P i (sR ll tr i).length = repS ll tr P i := by
  funext k; unfold repTo repS; rw [List.take_length]
theorem repTo_lit {ll : List (List Int)} {tr : List St} {P : Nat → Bool} {i j : Nat} (hj : j < (sR ll tr i).length) (h : (sR ll tr i).getD j 0 = sL tr i) : repTo ll tr P i (j + 1) = repTo ll tr P i j := by
  funext k
  unfold repTo
  rw [List.take_succ_eq_append_getElem hj, List.any_append, ← getD_getElem (d := 0) hj]
  simp only [List.any_cons, List.any_nil, h]
  simp
theorem repTo_add {ll : List (List Int)} {tr : List St} {P : Nat → Bool} {i j t : Nat} (hj : j < (sR ll tr i).length) (h : (sR ll tr i).getD j 0 ≠ sL tr i) (hw : wrongN tr ((sR ll tr i).getD j 0) = some t) : repTo ll tr P i (j + 1) = fun k => if k = t then true else repTo ll tr P i j k := by
  funext k
  unfold repTo
  rw [List.take_succ_eq_append_getElem hj, List.any_append, ← getD_getElem (d := 0) hj]
  simp only [List.any_cons, List.any_nil, hw]
  rw [show ((sR ll tr i).getD j 0 != sL tr i) = true from bne_iff_ne.2 h]
  by_cases e : k = t
  · subst e; rw [if_pos rfl]; simp
  · rw [if_neg e, show (some t == some k) = false by simp; exact fun g => e g.symm]; simp
theorem repTo_same {ll : List (List Int)} {tr : List St} {P : Nat → Bool} {i j t : Nat} (hj : j < (sR ll tr i).length) (h : (sR ll tr i).getD j 0 ≠ sL tr i) (hw : wrongN tr ((sR ll tr i).getD j 0) = some t) (hs : repTo ll tr P i j t = true) : repTo ll tr P i (j + 1) = repTo ll tr P i j := by
  rw [repTo_add hj h hw]
  funext k
  by_cases e : k = t
  · subst e; rw [if_pos rfl, hs]
  · rw [if_neg e]
theorem manyN_set {tr : List St} {P : Nat → Bool} {top : Int} {t : Nat} (ht : t < tr.length) (h : P t = false) : manyN tr (fun k => if k = t then true else P k) top = manyN tr P top + if sV tr t = top then 1 else 0 := by
  unfold manyN
  by_cases e : sV tr t = top
  · rw [if_pos e]
    refine cnt_add (k := t) ht ?_ ?_ fun j _ hj => ?_
    · rw [h]; rfl
    · simp only [if_pos, decide_eq_true e]; rfl
    · simp only [if_neg hj]
  · rw [if_neg e, Nat.add_zero]
    refine cnt_congr fun j _ => ?_
    by_cases hj : j = t
    · subst hj; rw [decide_eq_false e]; simp
    · simp only [if_neg hj]
theorem manyN_del {tr : List St} {P : Nat → Bool} {top : Int} {t : Nat} (ht : t < tr.length) (h : P t = true) (e : sV tr t = top) : manyN tr P top = manyN tr (fun k => P k && k != t) top + 1 := by
  unfold manyN
  refine cnt_add (k := t) ht ?_ ?_ fun j _ hj => ?_
  · simp
  · rw [h, decide_eq_true e]; rfl
  · simp only [show (j != t) = true from bne_iff_ne.2 hj, Bool.and_true]
theorem manyN_le (tr : List St) (P : Nat → Bool) (top : Int) : manyN tr P top ≤ tr.length := cnt_le _ _
/-- What holds where the program picks: i steps are left to look at. -/
structure AtPick (n : Int) (ll : List (List Int)) (tr : List St) (top : Int) (F : Nat → Bool) (i : Nat) (P : Nat → Bool) : Prop where
  inv : PInv tr top i P
  pos : 0 < manyN tr P top
  fin : pickF ll tr top i P = F
theorem AtPick.stop {n : Int} {ll : List (List Int)} {tr : List St} {top : Int} {F : Nat → Bool} {i : Nat} {P : Nat → Bool} (h : AtPick n ll tr top F i P) (hm : ¬ 1 < manyN tr P top) : P = F := by
  rw [← h.fin, pick_stop (by omega)]
theorem AtPick.some {n : Int} {ll : List (List Int)} {tr : List St} {top : Int} {F : Nat → Bool} {i : Nat} {P : Nat → Bool} (h : AtPick n ll tr top F i P) : ∃ i', i = i' + 1 := by
  obtain ⟨k, _, hk⟩ := cnt_pos.1 h.pos
  rw [Bool.and_eq_true] at hk
  have := h.inv.lt k hk.1
  exact ⟨i - 1, by omega⟩
theorem AtPick.skip {n : Int} {ll : List (List Int)} {tr : List St} {top : Int} {F : Nat → Bool} {i : Nat} {P : Nat → Bool} (h : AtPick n ll tr top F (i + 1) P) (hm : 1 < manyN tr P top) (hP : P i = false) : AtPick n ll tr top F i P := by
  refine ⟨h.inv.skip hP, h.pos, ?_⟩
  rw [← h.fin]
  conv => rhs; unfold pickF
  rw [if_neg (by omega), hP, if_neg (by simp)]
theorem AtPick.rep {n : Int} {ll : List (List Int)} {tr : List St} (ht : Trl n ll tr) {top : Int} {F : Nat → Bool} {i : Nat} {P : Nat → Bool} (h : AtPick n ll tr top F (i + 1) P) (hm : 1 < manyN tr P top) (hP : P i = true) : sV tr i = top ∧ sW tr i ≠ -1 ∧ AtPick n ll tr top F i (repS ll tr P i) := by
  obtain ⟨e, hw⟩ := h.inv.last ht hP hm
  refine ⟨e, hw, h.inv.rep ht hw e, many_rep hm, ?_⟩
  rw [← h.fin]
  conv => rhs; unfold pickF
  rw [if_neg (by omega), if_pos hP]
theorem atpick_start {n : Int} {ll : List (List Int)} {tr : List St} (ht : Trl n ll tr) {c : List Int} (hc : ∀ y ∈ c, trueT tr (-y) = true) (h0 : 0 ≤ topI tr c) : AtPick n ll tr (topI tr c) (pickF ll tr (topI tr c) tr.length (confS tr c)) tr.length (confS tr c) := by
  obtain ⟨a, b⟩ := conf_start ht hc
  exact ⟨a, b h0, rfl⟩
/-! ### What First says, by ways -/
theorem first_bad {n : Int} {ll : List (List Int)} {tr : List St} {cf : Int} (h : firstOk n ll tr cf = false) : firstL n ll tr cf = [] ∧ firstK n ll tr cf = 0 ∧ firstE n ll tr cf = 1 := by
  unfold firstL firstK firstE; rw [h]; simp
theorem first_low {n : Int} {ll : List (List Int)} {tr : List St} {cf : Int} (h : firstOk n ll tr cf = true) (ht : ¬ 0 < firstTop ll tr cf) : firstL n ll tr cf = [] ∧ firstK n ll tr cf = -1 ∧ firstE n ll tr cf = 0 := by
  unfold firstL firstK firstE; rw [h]; simp [ht]
theorem first_good {n : Int} {ll : List (List Int)} {tr : List St} {cf : Int} (h : firstOk n ll tr cf = true) (ht : 0 < firstTop ll tr cf) : firstL n ll tr cf = orderL (outTo tr (finalS ll tr cf) tr.length) ∧ firstK n ll tr cf = backTo tr (finalS ll tr cf) (firstTop ll tr cf) tr.length ∧ firstE n ll tr cf = 0 := by
  unfold firstL firstK firstE; rw [h]; simp [ht]
theorem firstOk_bad1 {n : Int} {ll : List (List Int)} {tr : List St} {cf : Int} (h : (decide (theoryErr n ll = 0) && trailB n ll tr) = false) : firstOk n ll tr cf = false := by
  unfold firstOk; rw [← Bool.and_assoc, h]; rfl
theorem firstOk_bad2 {n : Int} {ll : List (List Int)} {tr : List St} {cf : Int} (h : cf < 0 ∨ (ll.length : Int) ≤ cf) : firstOk n ll tr cf = false := by
  rw [← Bool.not_eq_true, firstOk_iff]
  rintro ⟨_, _, h3, h4, _⟩
  omega
theorem firstOk_bad3 {n : Int} {ll : List (List Int)} {tr : List St} {cf : Int} {k : Nat} (hk : k < (ll.getD cf.toNat []).length) (h : trueT tr (-((ll.getD cf.toNat []).getD k 0)) = false) : firstOk n ll tr cf = false := by
  rw [← Bool.not_eq_true, firstOk_iff]
  rintro ⟨_, _, _, _, h5⟩
  have := h5 _ (by rw [getD_getElem hk]; exact List.getElem_mem hk : (ll.getD cf.toNat []).getD k 0 ∈ ll.getD cf.toNat [])
  rw [h] at this; cases this
theorem firstOk_good {n : Int} {ll : List (List Int)} {tr : List St} {cf : Int} (h : (decide (theoryErr n ll = 0) && trailB n ll tr) = true) (h0 : 0 ≤ cf) (h1 : cf < ll.length) (h2 : ∀ k, k < (ll.getD cf.toNat []).length → trueT tr (-((ll.getD cf.toNat []).getD k 0)) = true) : firstOk n ll tr cf = true := by
  rw [Bool.and_eq_true, decide_eq_true_eq] at h
  rw [firstOk_iff]
  refine ⟨h.1, h.2, h0, h1, fun y hy => ?_⟩
  obtain ⟨k, hk, rfl⟩ := List.getElem_of_mem hy
  have := h2 k hk
  rwa [getD_getElem hk] at this
end Go.Proofs.Yteagoaiiacideaa
