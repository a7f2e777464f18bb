/- Learned clauses, plainly: trails, the steps of a clause, the first unique implication point. No Go in sight. -/
import Derived.Test.YteagoaiiacideaaG1
namespace Go.Proofs.Yteagoaiiacideaa
set_option linter.unusedSimpArgs false
set_option linter.unusedVariables false
open Go.RowKit
set_option maxRecDepth 20000
/-- The literal, reason and level of a step; the clause of its reason; the level ahead of it. -/
abbrev sL (tr : List St) (k : Nat) : Int := (tr.getD k default).lit
abbrev sW (tr : List St) (k : Nat) : Int := (tr.getD k default).why
abbrev sV (tr : List St) (k : Nat) : Int := (tr.getD k default).lev
abbrev sR (ll : List (List Int)) (tr : List St) (k : Nat) : List Int := ll.getD (sW tr k).toNat []
def levAt (tr : List St) (i : Nat) : Int := if i = 0 then 0 else sV tr (i - 1)
/-- The step that makes a literal false. -/
def wrongN (tr : List St) (y : Int) : Option Nat := tr.findIdx? fun s => s.lit == -y
def wrongI (tr : List St) (y : Int) : Int := match wrongN tr y with | some i => (i : Int) | none => -1
def levelOf (tr : List St) (y : Int) : Int := match wrongN tr y with | some i => sV tr i | none => -1
theorem wrongN_some {tr : List St} {y : Int} {k : Nat} (h : wrongN tr y = some k) : k < tr.length ∧ sL tr k = -y := by
  unfold wrongN at h
  rw [List.findIdx?_eq_some_iff_getElem] at h
  obtain ⟨hk, h1, _⟩ := h
  exact ⟨hk, by unfold sL; rw [getD_getElem hk]; simpa using h1⟩
theorem wrongN_none {tr : List St} {y : Int} : wrongN tr y = none ↔ trueT tr (-y) = false := by
  unfold wrongN trueT
  rw [List.findIdx?_eq_none_iff, List.any_eq_false]
  simp
theorem wrongN_isSome {tr : List St} {y : Int} : (∃ k, wrongN tr y = some k) ↔ trueT tr (-y) = true := by
  cases h : wrongN tr y with
  | none => rw [wrongN_none] at h; simp [h]
  | some k =>
    have : trueT tr (-y) ≠ false := fun e => by rw [← wrongN_none, h] at e; cases e
    simp at this; simp [this]
theorem wrongI_neg {tr : List St} {y : Int} : wrongI tr y < 0 ↔ trueT tr (-y) = false := by
  rw [← wrongN_none]
  unfold wrongI
  cases wrongN tr y <;> simp
/-- A step is well: its literal is open; it is a decision of a greater level, or it follows by its reason at the level that is. -/
def reasonB (pre : List St) (c : List Int) (x : Int) : Bool := c.contains x && c.all fun y => y == x || trueT pre (-y)
def stepOk (n : Int) (ll : List (List Int)) (pre : List St) (lev : Int) (s : St) : Bool :=
  litValid s.lit n && openT pre s.lit && (if s.why = -1 then decide (lev < s.lev) else decide (s.lev = lev) && (decide (0 ≤ s.why) && (decide (s.why < ll.length) && reasonB pre (ll.getD s.why.toNat []) s.lit)))
def stepAt (n : Int) (ll : List (List Int)) (tr : List St) (i : Nat) : Bool := stepOk n ll (tr.take i) (levAt tr i) (tr.getD i default)
def trailB (n : Int) (ll : List (List Int)) (tr : List St) : Bool := (List.range tr.length).all (stepAt n ll tr)
theorem trailB_iff {n : Int} {ll : List (List Int)} {tr : List St} : trailB n ll tr = true ↔ ∀ i, i < tr.length → stepAt n ll tr i = true := by
  unfold trailB; simp [List.all_eq_true]
/-- What is known of a trail. -/
structure Trl (n : Int) (ll : List (List Int)) (tr : List St) : Prop where
  val : ∀ i, i < tr.length → litValid (sL tr i) n = true
  uniq : ∀ i j, i < j → j < tr.length → sL tr j ≠ sL tr i ∧ sL tr j ≠ -sL tr i
  dec : ∀ i, i < tr.length → sW tr i = -1 → levAt tr i < sV tr i
  res : ∀ i, i < tr.length → sW tr i ≠ -1 → sV tr i = levAt tr i ∧ 0 ≤ sW tr i ∧ sW tr i < ll.length ∧ sL tr i ∈ sR ll tr i ∧ ∀ y ∈ sR ll tr i, y ≠ sL tr i → ∃ j, j < i ∧ sL tr j = -y
theorem trueT_take {tr : List St} {i : Nat} (hi : i ≤ tr.length) {x : Int} : trueT (tr.take i) x = true ↔ ∃ j, j < i ∧ sL tr j = x := by
  rw [trueT_iff]
  constructor
  · rintro ⟨s, hs, rfl⟩
    obtain ⟨j, hj, rfl⟩ := List.getElem_of_mem hs
    rw [List.length_take] at hj
    refine ⟨j, by omega, ?_⟩
    unfold sL
    rw [getD_getElem (by omega), List.getElem_take]
  · rintro ⟨j, hj, rfl⟩
    refine ⟨tr.getD j default, ?_, rfl⟩
    rw [getD_getElem (by omega)]
    have : j < (tr.take i).length := by rw [List.length_take]; omega
    have e : (tr.take i)[j] = tr[j]'(by omega) := List.getElem_take
    rw [← e]; exact List.getElem_mem this
theorem trl_of {n : Int} {ll : List (List Int)} {tr : List St} (h : trailB n ll tr = true) : Trl n ll tr := by
  rw [trailB_iff] at h
  have h' : ∀ i, i < tr.length → litValid (sL tr i) n = true ∧ openT (tr.take i) (sL tr i) = true ∧ (if sW tr i = -1 then decide (levAt tr i < sV tr i) else decide (sV tr i = levAt tr i) && (decide (0 ≤ sW tr i) && (decide (sW tr i < ll.length) && reasonB (tr.take i) (sR ll tr i) (sL tr i)))) = true := fun i hi => by
    have := h i hi
    unfold stepAt stepOk at this
    rw [Bool.and_eq_true, Bool.and_eq_true] at this
    exact ⟨this.1.1, this.1.2, this.2⟩
  refine ⟨fun i hi => (h' i hi).1, fun i j hij hj => ?_, fun i hi hw => ?_, fun i hi hw => ?_⟩
  · have := (h' j hj).2.1
    rw [openT_iff] at this
    constructor
    · intro e
      have := (trueT_take (by omega : j ≤ tr.length) (x := sL tr j)).2 ⟨i, hij, e.symm⟩
      simp_all
    · intro e
      have := (trueT_take (by omega : j ≤ tr.length) (x := -sL tr j)).2 ⟨i, hij, by omega⟩
      simp_all
  · have := (h' i hi).2.2
    rw [if_pos hw] at this
    exact of_decide_eq_true this
  · have := (h' i hi).2.2
    rw [if_neg hw, Bool.and_eq_true, Bool.and_eq_true, Bool.and_eq_true, decide_eq_true_eq, decide_eq_true_eq, decide_eq_true_eq] at this
    obtain ⟨a, b, c, d⟩ := this
    unfold reasonB at d
    rw [Bool.and_eq_true, List.contains_iff_mem, List.all_eq_true] at d
    refine ⟨a, b, c, d.1, fun y hy hne => ?_⟩
    have := d.2 y hy
    rw [Bool.or_eq_true, beq_iff_eq] at this
    rcases this with e | e
    · exact absurd e hne
    · exact (trueT_take (by omega)).1 e
theorem Trl.lit_inj {n : Int} {ll : List (List Int)} {tr : List St} (h : Trl n ll tr) {i j : Nat} (hi : i < tr.length) (hj : j < tr.length) (e : sL tr i = sL tr j) : i = j := by
  rcases Nat.lt_trichotomy i j with g | g | g
  · exact absurd e.symm (h.uniq i j g hj).1
  · exact g
  · exact absurd e (h.uniq j i g hi).1
theorem Trl.lit_ne {n : Int} {ll : List (List Int)} {tr : List St} (h : Trl n ll tr) {i j : Nat} (hi : i < tr.length) (hj : j < tr.length) : sL tr i ≠ -sL tr j := by
  intro e
  have hv := (litValid_iff _ _).1 (h.val j hj)
  rcases Nat.lt_trichotomy i j with g | g | g
  · exact (h.uniq i j g hj).2 (by omega)
  · subst g; omega
  · exact (h.uniq j i g hi).2 e
theorem Trl.wrong {n : Int} {ll : List (List Int)} {tr : List St} (h : Trl n ll tr) {k : Nat} (hk : k < tr.length) {y : Int} (e : sL tr k = -y) : wrongN tr y = some k := by
  cases hw : wrongN tr y with
  | none =>
    rw [wrongN_none] at hw
    have : trueT tr (-y) = true := trueT_iff.2 ⟨tr.getD k default, by rw [getD_getElem hk]; exact List.getElem_mem hk, e⟩
    rw [hw] at this; cases this
  | some j =>
    obtain ⟨h1, h2⟩ := wrongN_some hw
    rw [h.lit_inj h1 hk (by rw [h2, e])]
theorem levAt_succ (tr : List St) (i : Nat) : levAt tr (i + 1) = sV tr i := by unfold levAt; rw [if_neg (by omega)]; rfl
theorem Trl.lev_step {n : Int} {ll : List (List Int)} {tr : List St} (h : Trl n ll tr) {i : Nat} (hi : i < tr.length) : levAt tr i ≤ sV tr i := by
  by_cases e : sW tr i = -1
  · exact Int.le_of_lt (h.dec i hi e)
  · have := (h.res i hi e).1; omega
theorem Trl.levAt_nonneg {n : Int} {ll : List (List Int)} {tr : List St} (h : Trl n ll tr) : ∀ i, i ≤ tr.length → 0 ≤ levAt tr i
  | 0, _ => by simp [levAt]
  | i + 1, hi => by
    have := h.levAt_nonneg i (by omega)
    have := h.lev_step (i := i) (by omega)
    rw [levAt_succ]; omega
theorem Trl.lev_nonneg {n : Int} {ll : List (List Int)} {tr : List St} (h : Trl n ll tr) {i : Nat} (hi : i < tr.length) : 0 ≤ sV tr i := by
  have := h.levAt_nonneg i (by omega)
  have := h.lev_step hi
  omega
theorem Trl.lev_at {n : Int} {ll : List (List Int)} {tr : List St} (h : Trl n ll tr) {i : Nat} : ∀ d, i + 1 + d ≤ tr.length → sV tr i ≤ levAt tr (i + 1 + d)
  | 0, _ => by rw [Nat.add_zero, levAt_succ]; exact Int.le_refl _
  | d + 1, hd => by
    have := h.lev_at (i := i) d (by omega)
    have := h.lev_step (i := i + 1 + d) (by omega)
    rw [show i + 1 + (d + 1) = (i + 1 + d) + 1 by omega, levAt_succ]; omega
theorem Trl.lev_before {n : Int} {ll : List (List Int)} {tr : List St} (h : Trl n ll tr) {i j : Nat} (hij : i < j) (hj : j ≤ tr.length) : sV tr i ≤ levAt tr j := by
  have := h.lev_at (i := i) (j - (i + 1)) (by omega)
  rwa [show i + 1 + (j - (i + 1)) = j by omega] at this
theorem Trl.lev_mono {n : Int} {ll : List (List Int)} {tr : List St} (h : Trl n ll tr) {i j : Nat} (hij : i ≤ j) (hj : j < tr.length) : sV tr i ≤ sV tr j := by
  by_cases e : i = j
  · subst e; exact Int.le_refl _
  · have := h.lev_before (i := i) (j := j) (by omega) (by omega)
    have := h.lev_step hj
    omega
/-- The decision of a level is its first step. -/
theorem Trl.not_dec {n : Int} {ll : List (List Int)} {tr : List St} (h : Trl n ll tr) {i j : Nat} (hij : i < j) (hj : j < tr.length) (e : sV tr i = sV tr j) : sW tr j ≠ -1 := fun hw => by
  have := h.dec j hj hw
  have := h.lev_before hij (by omega)
  omega
theorem Trl.zero_not_dec {n : Int} {ll : List (List Int)} {tr : List St} (h : Trl n ll tr) {j : Nat} (hj : j < tr.length) (e : sV tr j = 0) : sW tr j ≠ -1 := fun hw => by
  have := h.dec j hj hw
  have := h.levAt_nonneg j (by omega)
  omega
/-! ### Counting -/
def cnt (n : Nat) (q : Nat → Bool) : Nat := ((List.range n).filter q).length
theorem cnt_succ (n : Nat) (q : Nat → Bool) : cnt (n + 1) q = cnt n q + if q n = true then 1 else 0 := by
  unfold cnt
  rw [List.range_succ, List.filter_append, List.length_append]
  cases h : q n <;> simp [h]
theorem cnt_congr {n : Nat} {p q : Nat → Bool} (h : ∀ k, k < n → p k = q k) : cnt n p = cnt n q := by
  unfold cnt
  rw [List.filter_congr fun k hk => h k (List.mem_range.1 hk)]
theorem cnt_add {n : Nat} {p q : Nat → Bool} {k : Nat} (hk : k < n) (h0 : p k = false) (h1 : q k = true) (h : ∀ j, j < n → j ≠ k → q j = p j) : cnt n q = cnt n p + 1 := by
  induction n with
  | zero => omega
  | succ n ih =>
    rw [cnt_succ, cnt_succ]
    by_cases e : k = n
    · subst e
      rw [h0, h1, cnt_congr fun j hj => h j (by omega) (by omega)]
      simp
    · rw [ih (by omega) fun j hj => h j (by omega), h n (by omega) (fun g => e g.symm)]
      omega
theorem cnt_le (n : Nat) (q : Nat → Bool) : cnt n q ≤ n := by
  have := List.length_filter_le q (List.range n)
  simpa [cnt] using this
theorem cnt_two {n : Nat} {q : Nat → Bool} (h : 1 < cnt n q) : ∃ j k, j < k ∧ k < n ∧ q j = true ∧ q k = true := by
  unfold cnt at h
  have hp : ((List.range n).filter q).Pairwise (· < ·) := List.pairwise_lt_range.filter _
  match hl : (List.range n).filter q, h, hp with
  | a :: b :: t, _, hp =>
    have hab : a < b := (List.pairwise_cons.1 hp).1 b (by simp)
    have ha : a ∈ (List.range n).filter q := by rw [hl]; simp
    have hb : b ∈ (List.range n).filter q := by rw [hl]; simp
    rw [List.mem_filter, List.mem_range] at ha hb
    exact ⟨a, b, hab, hb.1, ha.2, hb.2⟩
theorem cnt_pos {n : Nat} {q : Nat → Bool} : 0 < cnt n q ↔ ∃ k, k < n ∧ q k = true := by
  unfold cnt
  rw [List.length_pos_iff_exists_mem]
  simp [List.mem_filter, List.mem_range]
theorem cnt_one {n : Nat} {q : Nat → Bool} (h : cnt n q = 1) {j k : Nat} (hj : j < n) (hk : k < n) (qj : q j = true) (qk : q k = true) : j = k := by
  unfold cnt at h
  obtain ⟨a, ha⟩ := List.length_eq_one_iff.1 h
  have h1 : j ∈ (List.range n).filter q := List.mem_filter.2 ⟨List.mem_range.2 hj, qj⟩
  have h2 : k ∈ (List.range n).filter q := List.mem_filter.2 ⟨List.mem_range.2 hk, qk⟩
  rw [ha, List.mem_singleton] at h1 h2
  rw [h1, h2]
/-! ### The steps of a clause -/
def manyN (tr : List St) (P : Nat → Bool) (top : Int) : Nat := cnt tr.length fun k => P k && decide (sV tr k = top)
def confS (tr : List St) (c : List Int) : Nat → Bool := fun k => c.any fun y => wrongN tr y == some k
def topI (tr : List St) (c : List Int) : Int := c.foldl (fun m y => max m (levelOf tr y)) (-1)
/-- The step i is replaced by those of the first j other literals of its reason. -/
def repTo (ll : List (List Int)) (tr : List St) (P : Nat → Bool) (i j : Nat) : Nat → Bool := fun k => (P k && k != i) || ((sR ll tr i).take j).any fun y => y != sL tr i && wrongN tr y == some k
def repS (ll : List (List Int)) (tr : List St) (P : Nat → Bool) (i : Nat) : Nat → Bool := fun k => (P k && k != i) || (sR ll tr i).any fun y => y != sL tr i && wrongN tr y == some k
def pickF (ll : List (List Int)) (tr : List St) (top : Int) : Nat → (Nat → Bool) → (Nat → Bool)
  | 0, P => P
  | i + 1, P => if manyN tr P top ≤ 1 then P else pickF ll tr top i (if P i = true then repS ll tr P i else P)
structure PInv (tr : List St) (top : Int) (i : Nat) (P : Nat → Bool) : Prop where
  lt : ∀ k, P k = true → k < i
  len : i ≤ tr.length
  le : ∀ k, P k = true → sV tr k ≤ top
/-- The last step of a clause with more than one literal of the greatest level is of this level, and no decision. -/
theorem PInv.last {n : Int} {ll : List (List Int)} {tr : List St} (ht : Trl n ll tr) {top : Int} {i : Nat} {P : Nat → Bool} (h : PInv tr top (i + 1) P) (hP : P i = true) (hm : 1 < manyN tr P top) : sV tr i = top ∧ sW tr i ≠ -1 := by
  obtain ⟨j, k, hjk, hk, qj, qk⟩ := cnt_two hm
  rw [Bool.and_eq_true, decide_eq_true_eq] at qj qk
  have hki := h.lt k qk.1
  have hlen := h.len
  have h1 := ht.lev_mono (i := k) (j := i) (by omega) (by omega)
  have h2 := h.le i hP
  have e : sV tr i = top := by omega
  exact ⟨e, ht.not_dec (i := j) (j := i) (by omega) (by omega) (by omega)⟩
theorem PInv.skip {tr : List St} {top : Int} {i : Nat} {P : Nat → Bool} (h : PInv tr top (i + 1) P) (hP : P i = false) : PInv tr top i P :=
  ⟨fun k hk => (by
    have := h.lt k hk
    rcases Nat.lt_or_ge k i with g | g
    · exact g
    · obtain rfl : k = i := by omega
      rw [hP] at hk; cases hk), by have := h.len; omega, h.le⟩
theorem rep_mem {n : Int} {ll : List (List Int)} {tr : List St} (ht : Trl n ll tr) {P : Nat → Bool} {i k : Nat} (hi : i < tr.length) (hw : sW tr i ≠ -1) (h : repS ll tr P i k = true) : (P k = true ∧ k ≠ i) ∨ (k < i ∧ -sL tr k ∈ sR ll tr i ∧ -sL tr k ≠ sL tr i) := by
  unfold repS at h
  rw [Bool.or_eq_true] at h
  rcases h with h | h
  · rw [Bool.and_eq_true, bne_iff_ne] at h
    exact .inl h
  · rw [List.any_eq_true] at h
    obtain ⟨y, hy, hh⟩ := h
    rw [Bool.and_eq_true, bne_iff_ne, beq_iff_eq] at hh
    obtain ⟨hk, e⟩ := wrongN_some hh.2
    obtain ⟨j, hj, ej⟩ := (ht.res i hi hw).2.2.2.2 y hy hh.1
    have : k = j := ht.lit_inj hk (by omega) (by rw [e, ej])
    have ey : -sL tr k = y := by omega
    exact .inr ⟨by omega, by rw [ey]; exact hy, by rw [ey]; exact hh.1⟩
theorem PInv.rep {n : Int} {ll : List (List Int)} {tr : List St} (ht : Trl n ll tr) {top : Int} {i : Nat} {P : Nat → Bool} (h : PInv tr top (i + 1) P) (hw : sW tr i ≠ -1) (e : sV tr i = top) : PInv tr top i (repS ll tr P i) := by
  have hlen := h.len
  refine ⟨fun k hk => ?_, by omega, fun k hk => ?_⟩
  · rcases rep_mem ht (by omega) hw hk with ⟨g, g'⟩ | ⟨g, _⟩
    · have := h.lt k g; omega
    · exact g
  · rcases rep_mem ht (by omega) hw hk with ⟨g, g'⟩ | ⟨g, _⟩
    · exact h.le k g
    · have := ht.lev_mono (i := k) (j := i) (by omega) (by omega); omega
/-- Something of the greatest level is left. -/
theorem many_rep {ll : List (List Int)} {tr : List St} {top : Int} {i : Nat} {P : Nat → Bool} (hm : 1 < manyN tr P top) : 0 < manyN tr (repS ll tr P i) top := by
  obtain ⟨j, k, hjk, hk, qj, qk⟩ := cnt_two hm
  refine cnt_pos.2 ?_
  by_cases e : j = i
  · exact ⟨k, hk, by
      rw [Bool.and_eq_true] at qk ⊢
      exact ⟨by unfold repS; rw [qk.1, show (k != i) = true from bne_iff_ne.2 (by omega)]; rfl, qk.2⟩⟩
  · exact ⟨j, by omega, by
      rw [Bool.and_eq_true] at qj ⊢
      exact ⟨by unfold repS; rw [qj.1, show (j != i) = true from bne_iff_ne.2 e]; rfl, qj.2⟩⟩
/-- What is left at the end; a law that holds backwards over each replacement holds of the beginning. -/
theorem pick_ind {n : Int} {ll : List (List Int)} {tr : List St} (ht : Trl n ll tr) {top : Int} {X : (Nat → Bool) → Prop} (hX : ∀ i P, i < tr.length → P i = true → sW tr i ≠ -1 → X (repS ll tr P i) → X P) : ∀ (i : Nat) (P : Nat → Bool), PInv tr top i P → 0 < manyN tr P top →
    manyN tr (pickF ll tr top i P) top = 1 ∧ PInv tr top i (pickF ll tr top i P) ∧ (X (pickF ll tr top i P) → X P)
  | 0, P, h, hm => by
    obtain ⟨k, _, hk⟩ := cnt_pos.1 hm
    rw [Bool.and_eq_true] at hk
    exact absurd (h.lt k hk.1) (Nat.not_lt_zero _)
  | i + 1, P, h, hm => by
    have hlen := h.len
    unfold pickF
    by_cases h1 : manyN tr P top ≤ 1
    · rw [if_pos h1]; exact ⟨by omega, h, id⟩
    rw [if_neg h1]
    cases hP : P i with
    | true =>
      obtain ⟨e, hw⟩ := h.last ht hP (by omega)
      obtain ⟨a, b, c⟩ := pick_ind ht hX i _ (h.rep ht hw e) (many_rep (by omega))
      rw [if_pos rfl]
      exact ⟨a, ⟨fun k hk => Nat.lt_succ_of_lt (b.lt k hk), hlen, b.le⟩, fun g => hX i P (by omega) hP hw (c g)⟩
    | false =>
      obtain ⟨a, b, c⟩ := pick_ind ht hX i _ (h.skip hP) hm
      rw [if_neg (by simp)]
      exact ⟨a, ⟨fun k hk => Nat.lt_succ_of_lt (b.lt k hk), hlen, b.le⟩, c⟩
/-- The greatest of a list. -/
theorem foldl_max {α : Type} (f : α → Int) : ∀ (l : List α) (m : Int), m ≤ l.foldl (fun m y => max m (f y)) m ∧ (∀ y ∈ l, f y ≤ l.foldl (fun m y => max m (f y)) m) ∧ (l.foldl (fun m y => max m (f y)) m = m ∨ ∃ y ∈ l, l.foldl (fun m y => max m (f y)) m = f y)
  | [], m => ⟨Int.le_refl _, fun y hy => (by cases hy), .inl rfl⟩
  | a :: t, m => by
    obtain ⟨h1, h2, h3⟩ := foldl_max f t (max m (f a))
    simp only [List.foldl_cons]
    refine ⟨by omega, fun y hy => ?_, ?_⟩
    · rcases List.mem_cons.1 hy with rfl | hy
      · omega
      · exact h2 y hy
    · rcases h3 with h3 | ⟨y, hy, h3⟩
      · rw [h3]
        by_cases e : f a ≤ m
        · exact .inl (by omega)
        · exact .inr ⟨a, by simp, by omega⟩
      · exact .inr ⟨y, List.mem_cons_of_mem _ hy, h3⟩
theorem foldl_max_eq {α β : Type} {f : α → Int} {g : β → Int} {l : List α} {l' : List β} {m : Int} (h : ∀ y ∈ l, m < f y → ∃ z ∈ l', f y ≤ g z) (h' : ∀ z ∈ l', m < g z → ∃ y ∈ l, g z ≤ f y) : l.foldl (fun m y => max m (f y)) m = l'.foldl (fun m y => max m (g y)) m := by
  obtain ⟨a1, a2, a3⟩ := foldl_max f l m
  obtain ⟨b1, b2, b3⟩ := foldl_max g l' m
  apply Int.le_antisymm
  · rcases a3 with a3 | ⟨y, hy, a3⟩
    · omega
    · by_cases e : m < f y
      · obtain ⟨z, hz, g⟩ := h y hy e
        have := b2 z hz; omega
      · omega
  · rcases b3 with b3 | ⟨y, hy, b3⟩
    · omega
    · by_cases e : m < g y
      · obtain ⟨z, hz, g⟩ := h' y hy e
        have := a2 z hz; omega
      · omega
theorem foldl_max_lt {α : Type} {f : α → Int} {l : List α} {m b : Int} (hm : m < b) (h : ∀ y ∈ l, f y < b) : l.foldl (fun m y => max m (f y)) m < b := by
  rcases (foldl_max f l m).2.2 with e | ⟨y, hy, e⟩
  · omega
  · have := h y hy; omega
theorem levelOf_wrong {tr : List St} {y : Int} {k : Nat} (h : wrongN tr y = some k) : levelOf tr y = sV tr k := by unfold levelOf; rw [h]
theorem confS_iff {n : Int} {ll : List (List Int)} {tr : List St} (ht : Trl n ll tr) {c : List Int} {k : Nat} : confS tr c k = true ↔ k < tr.length ∧ -sL tr k ∈ c := by
  unfold confS
  rw [List.any_eq_true]
  constructor
  · rintro ⟨y, hy, e⟩
    obtain ⟨hk, e⟩ := wrongN_some (beq_iff_eq.1 e)
    exact ⟨hk, by rw [show -sL tr k = y by omega]; exact hy⟩
  · rintro ⟨hk, h⟩
    exact ⟨_, h, beq_iff_eq.2 (ht.wrong hk (by omega))⟩
/-- Where a clause is false, its steps are as they should be. -/
theorem conf_start {n : Int} {ll : List (List Int)} {tr : List St} (ht : Trl n ll tr) {c : List Int} (hc : ∀ y ∈ c, trueT tr (-y) = true) : PInv tr (topI tr c) tr.length (confS tr c) ∧ (0 ≤ topI tr c → 0 < manyN tr (confS tr c) (topI tr c)) := by
  obtain ⟨h1, h2, h3⟩ := foldl_max (levelOf tr) c (-1)
  refine ⟨⟨fun k hk => ((confS_iff ht).1 hk).1, Nat.le_refl _, fun k hk => ?_⟩, fun h => ?_⟩
  · obtain ⟨hl, hm⟩ := (confS_iff ht).1 hk
    have := h2 _ hm
    rwa [levelOf_wrong (ht.wrong hl (by omega))] at this
  · rcases h3 with h3 | ⟨y, hy, h3⟩
    · unfold topI at h; omega
    · obtain ⟨k, hk⟩ := wrongN_isSome.2 (hc y hy)
      obtain ⟨hl, e⟩ := wrongN_some hk
      refine cnt_pos.2 ⟨k, hl, ?_⟩
      rw [Bool.and_eq_true, decide_eq_true_eq]
      refine ⟨(confS_iff ht).2 ⟨hl, by rw [show -sL tr k = y by omega]; exact hy⟩, ?_⟩
      unfold topI
      rw [h3, levelOf_wrong hk]
theorem conf_none {n : Int} {ll : List (List Int)} {tr : List St} (ht : Trl n ll tr) {c : List Int} (hc : ∀ y ∈ c, trueT tr (-y) = true) (h : topI tr c < 0) : c = [] := by
  cases c with
  | nil => rfl
  | cons y t =>
    exfalso
    have := (foldl_max (levelOf tr) (y :: t) (-1)).2.1 y (by simp)
    obtain ⟨k, hk⟩ := wrongN_isSome.2 (hc y (by simp))
    rw [levelOf_wrong hk] at this
    have := ht.lev_nonneg (wrongN_some hk).1
    unfold topI at h
    omega
end Go.Proofs.Yteagoaiiacideaa
