/- Learned clauses, plainly: what follows by unit propagation; redundant literals; the theorems of the chapter. No Go in sight. -/
import Derived.Test.YteagoaiiacideaaLearnQ
namespace Go.Proofs.Yteagoaiiacideaa
set_option linter.unusedSimpArgs false
set_option linter.unusedVariables false
open Go.RowKit
set_option maxRecDepth 20000
def negL (c : List Int) : List Int := c.map fun y => -y
theorem negL_mem {c : List Int} {x : Int} : x ∈ negL c ↔ -x ∈ c := by
  unfold negL
  rw [List.mem_map]
  constructor
  · rintro ⟨y, hy, rfl⟩; rwa [Int.neg_neg]
  · intro h; exact ⟨-x, h, by omega⟩
/-- Does a clause follow by unit propagation? -/
def impB (n : Int) (ll : List (List Int)) (c : List Int) : Bool := decide (theoryErr n ll = 0) && (c.all (litValid · n) && (c.any (fun x => c.contains (-x)) || !closB n ll (negL (orderL c))))
theorem impB_iff {n : Int} {ll : List (List Int)} {c : List Int} : impB n ll c = true ↔ theoryErr n ll = 0 ∧ (∀ x ∈ c, litValid x n = true) ∧ ∀ S, ¬ Fits ll (negL c) S := by
  unfold impB
  rw [Bool.and_eq_true, Bool.and_eq_true, decide_eq_true_eq, List.all_eq_true, Bool.or_eq_true, Bool.not_eq_true']
  refine and_congr_right fun ht => and_congr_right fun hv => ?_
  have hm : ∀ x, x ∈ negL (orderL c) ↔ x ∈ negL c := fun x => by rw [negL_mem, negL_mem, orderL_mem fun y hy => litVar_ne (hv y hy)]
  have ha : askB n ll (negL (orderL c)) = true := askB_iff.2 ⟨ht, fun d hd => by
    have := lit_valid_neg (hv _ (negL_mem.1 ((hm d).1 hd)))
    rwa [Int.neg_neg] at this⟩
  constructor
  · rintro (h | h) S hS
    · rw [List.any_eq_true] at h
      obtain ⟨x, hx, hx'⟩ := h
      rw [List.contains_iff_mem] at hx'
      exact hS.con x (hS.has x (negL_mem.2 hx')) (hS.has _ (negL_mem.2 (by rwa [Int.neg_neg])))
    · have := clos_of_fits (S := S) ha ⟨hS.shut, fun d hd => hS.has d ((hm d).1 hd), hS.con, hS.live⟩
      rw [h] at this; cases this
  · intro h
    cases hb : closB n ll (negL (orderL c)) with
    | false => exact .inr rfl
    | true =>
      have hf := clos_member hb
      exact absurd ⟨hf.shut, fun d hd => hf.has d ((hm d).2 hd), hf.con, hf.live⟩ (h _)
/-- What is true in a model. -/
theorem model_fits {n : Int} {ll : List (List Int)} {x y : Nat} (h : evalB n ll x y = true) : Fits ll [] (fun l => holdsB x y l = true) := by
  obtain ⟨ht, hc⟩ := evalB_clause h
  have hv := (theoryErr_zero ht).2.2.2
  have hcon : ∀ l, holdsB x y l = true → holdsB x y (-l) = false := fun l hl => by
    have : litVar l ≠ 0 := fun e => by unfold holdsB at hl; rw [e] at hl; cases hl
    rw [holdsB_neg this, hl]; rfl
  refine ⟨fun c hm l hl hy => ?_, fun d hd => (by cases hd), fun l hl hl' => (by rw [hcon l hl] at hl'; cases hl'), fun c hm hy => ?_⟩
  · obtain ⟨k, hk, hh⟩ := hc c hm
    by_cases e : k = l
    · rw [← e]; exact hh
    · have := hy k hk e
      rw [hcon k hh] at this; cases this
  · obtain ⟨k, hk, hh⟩ := hc c hm
    have := hy k hk
    rw [hcon k hh] at this; cases this
/-- What follows by unit propagation is true in every model. -/
theorem imp_model {n : Int} {ll : List (List Int)} {c : List Int} (h : impB n ll c = true) {x y : Nat} (he : evalB n ll x y = true) : ∃ l ∈ c, holdsB x y l = true := by
  obtain ⟨ht, hv, hno⟩ := impB_iff.1 h
  have hf := model_fits he
  by_cases hx : ∃ l ∈ c, holdsB x y l = true
  · exact hx
  · refine absurd ⟨hf.shut, fun d hd => ?_, hf.con, hf.live⟩ (hno fun l => holdsB x y l = true)
    have hd := negL_mem.1 hd
    have : holdsB x y (-d) = false := by
      cases hb : holdsB x y (-d) with
      | false => rfl
      | true => exact absurd ⟨_, hd, hb⟩ hx
    rw [holdsB_neg (by have := litVar_ne (hv _ hd); unfold litVar at *; (repeat' split) <;> (repeat' split at this) <;> omega)] at this
    simpa using this
/-- All steps of a set are in a set of literals. -/
def AllIn (tr : List St) (T : Int → Prop) (P : Nat → Bool) : Prop := ∀ k, k < tr.length → P k = true → T (sL tr k)
theorem mem_reason {n : Int} {ll : List (List Int)} {tr : List St} (ht : Trl n ll tr) {i : Nat} (hi : i < tr.length) (hw : sW tr i ≠ -1) : sR ll tr i ∈ ll := by
  obtain ⟨_, h1, h2, _⟩ := ht.res i hi hw
  unfold sR
  rw [getD_getElem (by omega)]
  exact List.getElem_mem _
theorem allin_rep {n : Int} {ll : List (List Int)} {tr : List St} (ht : Trl n ll tr) {T : Int → Prop} (hT : Shut ll T) (i : Nat) (P : Nat → Bool) (hi : i < tr.length) (hP : P i = true) (hw : sW tr i ≠ -1) (h : AllIn tr T (repS ll tr P i)) : AllIn tr T P := fun k hk hPk => by
  by_cases e : k = i
  · subst e
    obtain ⟨_, _, _, hm, hall⟩ := ht.res k hk hw
    refine hT _ (mem_reason ht hk hw) _ hm fun y hy hne => ?_
    obtain ⟨j, hj, ej⟩ := hall y hy hne
    rw [← ej]
    refine h j (by omega) ?_
    unfold repS
    rw [Bool.or_eq_true, List.any_eq_true]
    refine .inr ⟨y, hy, ?_⟩
    rw [Bool.and_eq_true, bne_iff_ne, beq_iff_eq]
    exact ⟨hne, ht.wrong (by omega) ej⟩
  · exact h k hk (by unfold repS; rw [hPk, show (k != i) = true from bne_iff_ne.2 e]; rfl)
/-- The steps of level 0 are in each closed set. -/
theorem zero_in {n : Int} {ll : List (List Int)} {tr : List St} (ht : Trl n ll tr) {T : Int → Prop} (hT : Shut ll T) : ∀ k, k < tr.length → sV tr k = 0 → T (sL tr k) := by
  intro k
  induction k using Nat.strongRecOn with
  | ind k ih =>
    intro hk h0
    have hw := ht.zero_not_dec hk h0
    obtain ⟨_, _, _, hm, hall⟩ := ht.res k hk hw
    refine hT _ (mem_reason ht hk hw) _ hm fun y hy hne => ?_
    obtain ⟨j, hj, ej⟩ := hall y hy hne
    rw [← ej]
    have h1 := ht.lev_mono (i := j) (j := k) (by omega) hk
    have h2 := ht.lev_nonneg (i := j) (by omega)
    exact ih j hj (by omega) (by omega)
theorem firstOk_iff {n : Int} {ll : List (List Int)} {tr : List St} {cf : Int} : firstOk n ll tr cf = true ↔ theoryErr n ll = 0 ∧ trailB n ll tr = true ∧ 0 ≤ cf ∧ cf < ll.length ∧ ∀ y ∈ ll.getD cf.toNat [], trueT tr (-y) = true := by
  unfold firstOk confB
  simp only [Bool.and_eq_true, decide_eq_true_eq, List.all_eq_true]
theorem conf_mem {ll : List (List Int)} {cf : Int} (h0 : 0 ≤ cf) (h1 : cf < ll.length) : ll.getD cf.toNat [] ∈ ll := by
  rw [getD_getElem (by omega)]; exact List.getElem_mem _
/-- What is left of a conflict: one literal of the greatest level; all its steps in a closed set: a contradiction. -/
structure Learned (n : Int) (ll : List (List Int)) (tr : List St) (top : Int) (F : Nat → Bool) : Prop where
  one : manyN tr F top = 1
  lt : ∀ k, F k = true → k < tr.length
  le : ∀ k, F k = true → sV tr k ≤ top
  no : ∀ S, Fits ll [] S → ¬ AllIn tr S F
theorem learned {n : Int} {ll : List (List Int)} {tr : List St} {cf : Int} (h : firstOk n ll tr cf = true) (hp : 0 < firstTop ll tr cf) : Learned n ll tr (firstTop ll tr cf) (finalS ll tr cf) := by
  obtain ⟨_, h2, h3, h4, h5⟩ := firstOk_iff.1 h
  have ht := trl_of h2
  obtain ⟨a, b⟩ := conf_start ht h5
  obtain ⟨p1, p2, _⟩ := pick_ind ht (X := fun _ => True) (fun _ _ _ _ _ _ => trivial) _ _ a (b (Int.le_of_lt hp))
  refine ⟨p1, p2.lt, p2.le, fun S hS hA => ?_⟩
  obtain ⟨_, _, p3⟩ := pick_ind ht (X := AllIn tr S) (fun i P hi hP hw hh => allin_rep ht hS.shut i P hi hP hw hh) _ _ a (b (Int.le_of_lt hp))
  have hc := p3 hA
  refine hS.live _ (conf_mem h3 h4) fun y hy => ?_
  obtain ⟨k, hk⟩ := wrongN_isSome.2 (h5 y hy)
  obtain ⟨h6, e⟩ := wrongN_some hk
  rw [← e]
  exact hc k h6 ((confS_iff ht).2 ⟨h6, by rw [show -sL tr k = y by omega]; exact hy⟩)
theorem first_zero {n : Int} {ll : List (List Int)} {tr : List St} {cf : Int} (h : firstOk n ll tr cf = true) (hp : ¬ 0 < firstTop ll tr cf) : ∀ S, ¬ Fits ll [] S := fun S hS => by
  obtain ⟨_, h2, h3, h4, h5⟩ := firstOk_iff.1 h
  have ht := trl_of h2
  refine hS.live _ (conf_mem h3 h4) fun y hy => ?_
  obtain ⟨k, hk⟩ := wrongN_isSome.2 (h5 y hy)
  obtain ⟨h6, e⟩ := wrongN_some hk
  have := (foldl_max (levelOf tr) (ll.getD cf.toNat []) (-1)).2.1 y hy
  rw [levelOf_wrong hk] at this
  have h0 := ht.lev_nonneg h6
  rw [← e]
  refine zero_in ht hS.shut k h6 ?_
  unfold firstTop topI at hp
  omega
theorem firstL_mem {n : Int} {ll : List (List Int)} {tr : List St} {cf : Int} (h : firstOk n ll tr cf = true) (hp : 0 < firstTop ll tr cf) {y : Int} : y ∈ firstL n ll tr cf ↔ ∃ k, k < tr.length ∧ finalS ll tr cf k = true ∧ y = -sL tr k := by
  obtain ⟨_, h2, _⟩ := firstOk_iff.1 h
  have ht := trl_of h2
  unfold firstL
  rw [if_pos ⟨h, hp⟩, orderL_mem, outTo_mem]
  intro x hx
  obtain ⟨k, hk, _, rfl⟩ := outTo_mem.1 hx
  exact litVar_ne (lit_valid_neg (ht.val k hk))
theorem firstL_none {n : Int} {ll : List (List Int)} {tr : List St} {cf : Int} (hp : ¬ (firstOk n ll tr cf = true ∧ 0 < firstTop ll tr cf)) : firstL n ll tr cf = [] := by unfold firstL; rw [if_neg hp]
theorem firstL_some {n : Int} {ll : List (List Int)} {tr : List St} {cf : Int} (h : firstL n ll tr cf ≠ []) : firstOk n ll tr cf = true ∧ 0 < firstTop ll tr cf := by
  by_cases hp : firstOk n ll tr cf = true ∧ 0 < firstTop ll tr cf
  · exact hp
  · exact absurd (firstL_none hp) h
/-- The learned clause follows by unit propagation. -/
theorem first_implied {n : Int} {ll : List (List Int)} {tr : List St} {cf : Int} (h : firstOk n ll tr cf = true) : impB n ll (firstL n ll tr cf) = true := by
  obtain ⟨h1, h2, _⟩ := firstOk_iff.1 h
  have ht := trl_of h2
  rw [impB_iff]
  refine ⟨h1, fun x hx => ?_, fun S hS => ?_⟩
  · by_cases hp : 0 < firstTop ll tr cf
    · obtain ⟨k, hk, _, rfl⟩ := (firstL_mem h hp).1 hx
      exact lit_valid_neg (ht.val k hk)
    · rw [firstL_none (fun g => hp g.2)] at hx; cases hx
  · have hS0 : Fits ll [] S := ⟨hS.shut, fun d hd => (by cases hd), hS.con, hS.live⟩
    by_cases hp : 0 < firstTop ll tr cf
    · refine (learned h hp).no S hS0 fun k hk hF => hS.has _ (negL_mem.2 ((firstL_mem h hp).2 ⟨k, hk, hF, rfl⟩))
    · exact first_zero h hp S hS0
/-! ### Redundant literals -/
def inS (tr : List St) (cl : List Int) : Nat → Bool := confS tr cl
def coverAt (tr : List St) (I F : Nat → Bool) (y : Int) : Bool := match wrongN tr y with | some j => I j || F j | none => false
def folAt (ll : List (List Int)) (tr : List St) (I F : Nat → Bool) (i : Nat) : Bool := decide (0 ≤ sW tr i) && (sR ll tr i).all fun y => y == sL tr i || coverAt tr I F y
/-- Which of the first i steps follow from covered ones. -/
def folTo (ll : List (List Int)) (tr : List St) (I : Nat → Bool) : Nat → Nat → Bool
  | 0 => fun _ => false
  | i + 1 => fun k => if k = i then folAt ll tr I (folTo ll tr I i) i else folTo ll tr I i k
theorem folTo_same {ll : List (List Int)} {tr : List St} {I : Nat → Bool} {k : Nat} : ∀ i, k < i → folTo ll tr I i k = folTo ll tr I (k + 1) k
  | i + 1, h => by
    by_cases e : k = i
    · subst e; rfl
    · rw [← folTo_same i (by omega)]
      show (if k = i then _ else _) = _
      rw [if_neg e]
theorem folTo_at {ll : List (List Int)} {tr : List St} {I : Nat → Bool} {i k : Nat} (h : k < i) : folTo ll tr I i k = folAt ll tr I (folTo ll tr I k) k := by
  rw [folTo_same i h]
  show (if k = k then _ else _) = _
  rw [if_pos rfl]
def redOk (n : Int) (ll : List (List Int)) (tr : List St) (cl : List Int) : Bool := decide (theoryErr n ll = 0) && (trailB n ll tr && cl.all fun y => litValid y n && trueT tr (-y))
def redE (n : Int) (ll : List (List Int)) (tr : List St) (cl : List Int) : Int := if redOk n ll tr cl = true then 0 else 1
def redS (ll : List (List Int)) (tr : List St) (cl : List Int) : Nat → Bool := fun k => inS tr cl k && !folTo ll tr (inS tr cl) tr.length k
def redL (n : Int) (ll : List (List Int)) (tr : List St) (cl : List Int) : List Int := if redOk n ll tr cl = true then orderL (outTo tr (redS ll tr cl) tr.length) else []
theorem redOk_iff {n : Int} {ll : List (List Int)} {tr : List St} {cl : List Int} : redOk n ll tr cl = true ↔ theoryErr n ll = 0 ∧ trailB n ll tr = true ∧ ∀ y ∈ cl, litValid y n = true ∧ trueT tr (-y) = true := by
  unfold redOk
  simp only [Bool.and_eq_true, decide_eq_true_eq, List.all_eq_true]
theorem redL_mem {n : Int} {ll : List (List Int)} {tr : List St} {cl : List Int} (h : redOk n ll tr cl = true) {y : Int} : y ∈ redL n ll tr cl ↔ ∃ k, k < tr.length ∧ redS ll tr cl k = true ∧ y = -sL tr k := by
  obtain ⟨_, h2, _⟩ := redOk_iff.1 h
  have ht := trl_of h2
  unfold redL
  rw [if_pos h, orderL_mem, outTo_mem]
  intro x hx
  obtain ⟨k, hk, _, rfl⟩ := outTo_mem.1 hx
  exact litVar_ne (lit_valid_neg (ht.val k hk))
theorem fol_spec {n : Int} {ll : List (List Int)} {tr : List St} (ht : Trl n ll tr) {I : Nat → Bool} {k : Nat} (hk : k < tr.length) (h : folTo ll tr I tr.length k = true) : sW tr k ≠ -1 ∧ ∀ y ∈ sR ll tr k, y ≠ sL tr k → ∃ j, j < k ∧ sL tr j = -y ∧ (I j = true ∨ folTo ll tr I tr.length j = true) := by
  rw [folTo_at hk] at h
  unfold folAt at h
  rw [Bool.and_eq_true, decide_eq_true_eq, List.all_eq_true] at h
  have hw : sW tr k ≠ -1 := by have := h.1; omega
  refine ⟨hw, fun y hy hne => ?_⟩
  have := h.2 y hy
  rw [Bool.or_eq_true, beq_iff_eq] at this
  rcases this with e | e
  · exact absurd e hne
  obtain ⟨j, hj, ej⟩ := (ht.res k hk hw).2.2.2.2 y hy hne
  unfold coverAt at e
  rw [ht.wrong (by omega) ej] at e
  refine ⟨j, hj, ej, ?_⟩
  rw [Bool.or_eq_true] at e
  rcases e with e | e
  · exact .inl e
  · right
    rw [folTo_same _ hj] at e
    rw [folTo_same _ (by omega : j < tr.length)]; exact e
/-- A closed set that has the steps of what is left has all that is covered. -/
theorem red_in {n : Int} {ll : List (List Int)} {tr : List St} (ht : Trl n ll tr) {cl : List Int} {T : Int → Prop} (hT : Shut ll T) (h : AllIn tr T (redS ll tr cl)) : ∀ k, k < tr.length → (inS tr cl k = true ∨ folTo ll tr (inS tr cl) tr.length k = true) → T (sL tr k) := by
  intro k
  induction k using Nat.strongRecOn with
  | ind k ih =>
    intro hk hc
    cases hf : folTo ll tr (inS tr cl) tr.length k with
    | false =>
      refine h k hk ?_
      rcases hc with hc | hc
      · unfold redS; rw [hc, hf]; rfl
      · rw [hf] at hc; cases hc
    | true =>
      obtain ⟨hw, hall⟩ := fol_spec ht hk hf
      refine hT _ (mem_reason ht hk hw) _ (ht.res k hk hw).2.2.2.1 fun y hy hne => ?_
      obtain ⟨j, hj, ej, hcj⟩ := hall y hy hne
      rw [← ej]
      exact ih j hj (by omega) hcj
theorem red_fits {n : Int} {ll : List (List Int)} {tr : List St} {cl : List Int} (h : redOk n ll tr cl = true) {S : Int → Prop} (hS : Fits ll (negL (redL n ll tr cl)) S) : Fits ll (negL cl) S := by
  obtain ⟨h1, h2, h3⟩ := redOk_iff.1 h
  have ht := trl_of h2
  refine ⟨hS.shut, fun d hd => ?_, hS.con, hS.live⟩
  have hd := negL_mem.1 hd
  obtain ⟨k, hk⟩ := wrongN_isSome.2 (h3 _ hd).2
  obtain ⟨hl, e⟩ := wrongN_some hk
  rw [Int.neg_neg] at e
  rw [← e]
  refine red_in ht hS.shut (cl := cl) (fun k hk hr => hS.has _ (negL_mem.2 ((redL_mem h).2 ⟨k, hk, hr, rfl⟩))) k hl (.inl ((confS_iff ht).2 ⟨hl, ?_⟩))
  rw [e]; exact hd
/-- Nothing is lost without the redundant literals. -/
theorem red_implied {n : Int} {ll : List (List Int)} {tr : List St} {cl : List Int} (h : redOk n ll tr cl = true) (hi : impB n ll cl = true) : impB n ll (redL n ll tr cl) = true := by
  obtain ⟨h1, h2, h3⟩ := redOk_iff.1 h
  have ht := trl_of h2
  rw [impB_iff] at *
  refine ⟨h1, fun x hx => ?_, fun S hS => hi.2.2 S (red_fits h hS)⟩
  obtain ⟨k, hk, _, rfl⟩ := (redL_mem h).1 hx
  exact lit_valid_neg (ht.val k hk)
theorem red_model {n : Int} {ll : List (List Int)} {tr : List St} {cl : List Int} (h : redOk n ll tr cl = true) {x y : Nat} (he : evalB n ll x y = true) (hc : ∃ l ∈ cl, holdsB x y l = true) : ∃ l ∈ redL n ll tr cl, holdsB x y l = true := by
  obtain ⟨h1, h2, h3⟩ := redOk_iff.1 h
  have ht := trl_of h2
  by_cases hx : ∃ l ∈ redL n ll tr cl, holdsB x y l = true
  · exact hx
  exfalso
  have hf := model_fits he
  have hneg : ∀ l, litVar l ≠ 0 → ¬ holdsB x y l = true → holdsB x y (-l) = true := fun l hl hn => by
    rw [holdsB_neg hl]
    cases hb : holdsB x y l with
    | false => rfl
    | true => exact absurd hb hn
  have hall := red_fits h (S := fun l => holdsB x y l = true) ⟨hf.shut, fun d hd => by
    have hd := negL_mem.1 hd
    obtain ⟨k, hk, _, e⟩ := (redL_mem h).1 hd
    have := hneg (-d) (by rw [e]; exact litVar_ne (lit_valid_neg (ht.val k hk))) (fun g => hx ⟨_, hd, g⟩)
    rwa [Int.neg_neg] at this, hf.con, hf.live⟩
  obtain ⟨l, hl, hh⟩ := hc
  exact hf.con l hh (hall.has _ (negL_mem.2 (by rwa [Int.neg_neg])))
/-- What is left has no literals of level 0. -/
theorem fol_zero {n : Int} {ll : List (List Int)} {tr : List St} (ht : Trl n ll tr) (I : Nat → Bool) : ∀ k, k < tr.length → sV tr k = 0 → folTo ll tr I tr.length k = true := by
  intro k
  induction k using Nat.strongRecOn with
  | ind k ih =>
    intro hk h0
    have hw := ht.zero_not_dec hk h0
    obtain ⟨_, hw0, _, hm, hall⟩ := ht.res k hk hw
    rw [folTo_at hk]
    unfold folAt
    rw [Bool.and_eq_true, decide_eq_true_eq, List.all_eq_true]
    refine ⟨hw0, fun y hy => ?_⟩
    rw [Bool.or_eq_true, beq_iff_eq]
    by_cases hne : y = sL tr k
    · exact .inl hne
    obtain ⟨j, hj, ej⟩ := hall y hy hne
    have h1 := ht.lev_mono (i := j) (j := k) (by omega) hk
    have h2 := ht.lev_nonneg (i := j) (by omega)
    have := ih j hj (by omega) (by omega)
    rw [folTo_same _ (by omega : j < tr.length)] at this
    unfold coverAt
    rw [ht.wrong (by omega) ej]
    right
    show (I j || folTo ll tr I k j) = true
    rw [folTo_same _ hj, this, Bool.or_true]
theorem red_level {n : Int} {ll : List (List Int)} {tr : List St} {cl : List Int} (h : redOk n ll tr cl = true) : ∀ y ∈ redL n ll tr cl, 0 < levelOf tr y := fun y hy => by
  obtain ⟨h1, h2, h3⟩ := redOk_iff.1 h
  have ht := trl_of h2
  obtain ⟨k, hk, hr, rfl⟩ := (redL_mem h).1 hy
  rw [repC_level ht hk]
  have := ht.lev_nonneg hk
  by_cases e : sV tr k = 0
  · unfold redS at hr
    rw [fol_zero ht _ k hk e] at hr
    simp at hr
  · omega
end Go.Proofs.Yteagoaiiacideaa
