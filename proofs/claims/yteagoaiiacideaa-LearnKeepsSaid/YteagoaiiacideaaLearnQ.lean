/- Learned clauses, plainly: what First says; the reference's way, with a list of literals, comes to the same. No Go in sight. -/
import Derived.Test.YteagoaiiacideaaLearnP
namespace Go.Proofs.Yteagoaiiacideaa
set_option linter.unusedSimpArgs false
set_option linter.unusedVariables false
open Go.RowKit
set_option maxRecDepth 20000
/-- What First says. -/
def confB (tr : List St) (c : List Int) : Bool := c.all fun y => trueT tr (-y)
def firstOk (n : Int) (ll : List (List Int)) (tr : List St) (cf : Int) : Bool := decide (theoryErr n ll = 0) && (trailB n ll tr && (decide (0 ≤ cf) && (decide (cf < ll.length) && confB tr (ll.getD cf.toNat []))))
def firstE (n : Int) (ll : List (List Int)) (tr : List St) (cf : Int) : Int := if firstOk n ll tr cf = true then 0 else 1
def firstTop (ll : List (List Int)) (tr : List St) (cf : Int) : Int := topI tr (ll.getD cf.toNat [])
def finalS (ll : List (List Int)) (tr : List St) (cf : Int) : Nat → Bool := pickF ll tr (firstTop ll tr cf) tr.length (confS tr (ll.getD cf.toNat []))
def outTo (tr : List St) (P : Nat → Bool) (i : Nat) : List Int := ((List.range i).filter P).map fun k => -sL tr k
def backTo (tr : List St) (P : Nat → Bool) (top : Int) (i : Nat) : Int := ((List.range i).filter fun k => P k && decide (sV tr k < top)).foldl (fun m k => max m (sV tr k)) 0
def firstL (n : Int) (ll : List (List Int)) (tr : List St) (cf : Int) : List Int := if firstOk n ll tr cf = true ∧ 0 < firstTop ll tr cf then orderL (outTo tr (finalS ll tr cf) tr.length) else []
def firstK (n : Int) (ll : List (List Int)) (tr : List St) (cf : Int) : Int := if firstOk n ll tr cf = true then (if 0 < firstTop ll tr cf then backTo tr (finalS ll tr cf) (firstTop ll tr cf) tr.length else -1) else 0
theorem outTo_succ (tr : List St) (P : Nat → Bool) (i : Nat) : outTo tr P (i + 1) = outTo tr P i ++ if P i = true then [-sL tr i] else [] := by
  unfold outTo
  rw [List.range_succ, List.filter_append, List.map_append]
  cases h : P i <;> simp [h]
theorem outTo_len (tr : List St) (P : Nat → Bool) (i : Nat) : (outTo tr P i).length ≤ i := by
  unfold outTo
  rw [List.length_map]
  have := List.length_filter_le P (List.range i)
  simpa using this
theorem outTo_mem {tr : List St} {P : Nat → Bool} {i : Nat} {y : Int} : y ∈ outTo tr P i ↔ ∃ k, k < i ∧ P k = true ∧ y = -sL tr k := by
  unfold outTo
  rw [List.mem_map]
  constructor
  · rintro ⟨k, hk, e⟩
    rw [List.mem_filter, List.mem_range] at hk
    exact ⟨k, hk.1, hk.2, e.symm⟩
  · rintro ⟨k, h1, h2, e⟩
    exact ⟨k, List.mem_filter.2 ⟨List.mem_range.2 h1, h2⟩, e.symm⟩
theorem outTo_nodup {n : Int} {ll : List (List Int)} {tr : List St} (ht : Trl n ll tr) (P : Nat → Bool) {i : Nat} (hi : i ≤ tr.length) : (outTo tr P i).Nodup := by
  induction i with
  | zero => simp [outTo]
  | succ i ih =>
    rw [outTo_succ]
    have ih := ih (by omega)
    cases hP : P i with
    | false => simpa using ih
    | true =>
      rw [if_pos rfl]
      refine List.nodup_append.2 ⟨ih, by simp, fun a ha b hb e => ?_⟩
      rw [List.mem_singleton] at hb
      obtain ⟨k, hk, _, ek⟩ := outTo_mem.1 ha
      have := ht.lit_inj (i := k) (j := i) (by omega) (by omega) (by omega)
      omega
theorem backTo_succ (tr : List St) (P : Nat → Bool) (top : Int) (i : Nat) : backTo tr P top (i + 1) = if P i = true ∧ sV tr i < top then max (backTo tr P top i) (sV tr i) else backTo tr P top i := by
  unfold backTo
  rw [List.range_succ, List.filter_append, List.foldl_append]
  by_cases h1 : P i = true
  · by_cases h2 : sV tr i < top
    · rw [if_pos ⟨h1, h2⟩]; simp [h1, h2]
    · rw [if_neg (fun h => h2 h.2)]; simp [h1, h2]
  · rw [if_neg (fun h => h1 h.1)]; simp [h1]
/-! ### The reference's list of literals -/
structure RepC (tr : List St) (c : List Int) (P : Nat → Bool) : Prop where
  nd : c.Nodup
  mem : ∀ y, y ∈ c ↔ ∃ k, k < tr.length ∧ P k = true ∧ y = -sL tr k
def addL (l : List Int) (x : Int) : List Int := if l.contains x then l else l ++ [x]
theorem addL_nodup {l : List Int} (h : l.Nodup) (x : Int) : (addL l x).Nodup := by
  unfold addL
  by_cases hx : l.contains x = true
  · rw [if_pos hx]; exact h
  · rw [if_neg hx]
    rw [List.contains_iff_mem] at hx
    exact List.nodup_append.2 ⟨h, by simp, fun a ha b hb e => by rw [List.mem_singleton] at hb; subst hb; subst e; exact hx ha⟩
theorem addL_mem {l : List Int} {x y : Int} : y ∈ addL l x ↔ y ∈ l ∨ y = x := by
  unfold addL
  by_cases hx : l.contains x = true
  · rw [if_pos hx]
    rw [List.contains_iff_mem] at hx
    exact ⟨.inl, fun h => h.elim id fun e => e ▸ hx⟩
  · rw [if_neg hx, List.mem_append, List.mem_singleton]
theorem addL_len (l : List Int) (x : Int) : (addL l x).length ≤ l.length + 1 := by
  unfold addL; split <;> simp
/-- The literals of a clause, each once. -/
def addsL (l c : List Int) : List Int := c.foldl addL l
theorem addsL_nodup {c : List Int} : ∀ {l : List Int}, l.Nodup → (addsL l c).Nodup := by
  induction c with
  | nil => intro l h; exact h
  | cons x t ih => intro l h; exact ih (addL_nodup h x)
theorem addsL_mem {c : List Int} : ∀ {l : List Int} {y : Int}, y ∈ addsL l c ↔ y ∈ l ∨ y ∈ c := by
  induction c with
  | nil => intro l y; simp [addsL]
  | cons x t ih =>
    intro l y
    show y ∈ addsL (addL l x) t ↔ _
    rw [ih, addL_mem, List.mem_cons, or_assoc]
theorem addsL_snoc (l c : List Int) (x : Int) : addsL l (c ++ [x]) = addL (addsL l c) x := by unfold addsL; rw [List.foldl_append]; rfl
theorem addsL_len (c : List Int) : ∀ (l : List Int), (addsL l c).length ≤ l.length + c.length := by
  induction c with
  | nil => intro l; simp [addsL]
  | cons x t ih =>
    intro l
    have := ih (addL l x)
    have := addL_len l x
    show (addsL (addL l x) t).length ≤ _
    rw [List.length_cons]; omega
theorem repC_conf {n : Int} {ll : List (List Int)} {tr : List St} (ht : Trl n ll tr) {c : List Int} (hc : ∀ y ∈ c, trueT tr (-y) = true) : RepC tr (addsL [] c) (confS tr c) := by
  refine ⟨addsL_nodup (by simp), fun y => ?_⟩
  rw [addsL_mem]
  constructor
  · rintro (h | h)
    · cases h
    · obtain ⟨k, hk⟩ := wrongN_isSome.2 (hc y h)
      obtain ⟨h1, h2⟩ := wrongN_some hk
      exact ⟨k, h1, (confS_iff ht).2 ⟨h1, by rw [show -sL tr k = y by omega]; exact h⟩, by omega⟩
  · rintro ⟨k, hk, h, rfl⟩
    exact .inr ((confS_iff ht).1 h).2
/-- One step of the reference: the list without the literal of step m, and the other literals of its reason. -/
def repL (ll : List (List Int)) (tr : List St) (c : List Int) (m : Nat) : List Int := addsL (c.filter fun y => y != -sL tr m) ((sR ll tr m).filter fun y => y != sL tr m)
theorem repC_rep {n : Int} {ll : List (List Int)} {tr : List St} (ht : Trl n ll tr) {c : List Int} {P : Nat → Bool} (h : RepC tr c P) {m : Nat} (hm : m < tr.length) (hw : sW tr m ≠ -1) : RepC tr (repL ll tr c m) (repS ll tr P m) := by
  refine ⟨addsL_nodup (h.nd.filter _), fun y => ?_⟩
  unfold repL
  rw [addsL_mem, List.mem_filter, List.mem_filter, bne_iff_ne, bne_iff_ne]
  constructor
  · rintro (⟨h1, h2⟩ | ⟨h1, h2⟩)
    · obtain ⟨k, hk, hP, rfl⟩ := (h.mem y).1 h1
      refine ⟨k, hk, ?_, rfl⟩
      unfold repS
      rw [hP, show (k != m) = true from bne_iff_ne.2 (by rintro rfl; exact h2 rfl)]; rfl
    · obtain ⟨j, hj, ej⟩ := (ht.res m hm hw).2.2.2.2 y h1 h2
      refine ⟨j, by omega, ?_, by omega⟩
      unfold repS
      rw [Bool.or_eq_true, List.any_eq_true]
      refine .inr ⟨y, h1, ?_⟩
      rw [Bool.and_eq_true, bne_iff_ne, beq_iff_eq]
      exact ⟨h2, ht.wrong (by omega) ej⟩
  · rintro ⟨k, hk, hP, rfl⟩
    rcases rep_mem ht hm hw hP with ⟨g1, g2⟩ | ⟨g1, g2, g3⟩
    · refine .inl ⟨(h.mem _).2 ⟨k, hk, g1, rfl⟩, fun e => g2 (ht.lit_inj hk hm (by omega))⟩
    · exact .inr ⟨g2, g3⟩
theorem repC_level {n : Int} {ll : List (List Int)} {tr : List St} (ht : Trl n ll tr) {k : Nat} (hk : k < tr.length) : levelOf tr (-sL tr k) = sV tr k := levelOf_wrong (ht.wrong hk (by omega))
theorem repC_many {n : Int} {ll : List (List Int)} {tr : List St} (ht : Trl n ll tr) {c : List Int} {P : Nat → Bool} (h : RepC tr c P) (d : Int) : (c.filter fun y => levelOf tr y == d).length = manyN tr P d := by
  have hb : (outTo tr (fun k => P k && decide (sV tr k = d)) tr.length).length = manyN tr P d := by unfold outTo manyN cnt; rw [List.length_map]
  rw [← hb]
  apply Nat.le_antisymm
  · refine len_le_of_sub _ _ (h.nd.filter _) fun y hy => ?_
    rw [List.mem_filter, beq_iff_eq] at hy
    obtain ⟨k, hk, hP, rfl⟩ := (h.mem y).1 hy.1
    rw [repC_level ht hk] at hy
    exact outTo_mem.2 ⟨k, hk, by rw [Bool.and_eq_true, decide_eq_true_eq]; exact ⟨hP, hy.2⟩, rfl⟩
  · refine len_le_of_sub _ _ (outTo_nodup ht _ (Nat.le_refl _)) fun y hy => ?_
    obtain ⟨k, hk, hP, rfl⟩ := outTo_mem.1 hy
    rw [Bool.and_eq_true, decide_eq_true_eq] at hP
    rw [List.mem_filter, beq_iff_eq, repC_level ht hk]
    exact ⟨(h.mem _).2 ⟨k, hk, hP.1, rfl⟩, hP.2⟩
/-- The last step of a list of literals. -/
def lastI (tr : List St) (c : List Int) : Int := c.foldl (fun m y => max m (wrongI tr y)) (-1)
theorem repC_last {n : Int} {ll : List (List Int)} {tr : List St} (ht : Trl n ll tr) {c : List Int} {P : Nat → Bool} (h : RepC tr c P) {d : Int} (hm : 0 < manyN tr P d) : ∃ m : Nat, lastI tr c = m ∧ m < tr.length ∧ P m = true ∧ ∀ k, k < tr.length → P k = true → k ≤ m := by
  have hw : ∀ k, k < tr.length → wrongI tr (-sL tr k) = k := fun k hk => by unfold wrongI; rw [ht.wrong hk (by omega)]
  obtain ⟨h1, h2, h3⟩ := foldl_max (wrongI tr) c (-1)
  obtain ⟨k, hk, hP⟩ := cnt_pos.1 hm
  rw [Bool.and_eq_true] at hP
  have hkc := h2 _ ((h.mem _).2 ⟨k, hk, hP.1, rfl⟩)
  rw [hw k hk] at hkc
  rcases h3 with h3 | ⟨y, hy, h3⟩
  · unfold lastI; omega
  · obtain ⟨m, hm, hPm, rfl⟩ := (h.mem y).1 hy
    rw [hw m hm] at h3
    refine ⟨m, h3, hm, hPm, fun j hj hPj => ?_⟩
    have := h2 _ ((h.mem _).2 ⟨j, hj, hPj, rfl⟩)
    rw [hw j hj] at this
    omega
theorem pick_stop {ll : List (List Int)} {tr : List St} {top : Int} {P : Nat → Bool} (h : manyN tr P top ≤ 1) : ∀ i, pickF ll tr top i P = P
  | 0 => rfl
  | i + 1 => by unfold pickF; rw [if_pos h]
theorem pick_skip {ll : List (List Int)} {tr : List St} {top : Int} {P : Nat → Bool} (m : Nat) (hP : ∀ k, P k = true → k ≤ m) : ∀ d, pickF ll tr top (m + 1 + d) P = pickF ll tr top (m + 1) P
  | 0 => rfl
  | d + 1 => by
    by_cases h : manyN tr P top ≤ 1
    · rw [pick_stop h, pick_stop h]
    · rw [show m + 1 + (d + 1) = (m + 1 + d) + 1 by omega]
      have hf : P (m + 1 + d) = false := by
        cases hx : P (m + 1 + d) with
        | false => rfl
        | true => have := hP _ hx; omega
      rw [pickF, if_neg h, hf, if_neg (by simp), pick_skip m hP d]
/-- The reference's loop: where it goes on it comes to the same. -/
structure OnPick (n : Int) (ll : List (List Int)) (tr : List St) (top : Int) (F : Nat → Bool) (i : Nat) (c : List Int) : Prop where
  some : ∃ P, RepC tr c P ∧ PInv tr top i P ∧ 0 < manyN tr P top ∧ pickF ll tr top i P = F
theorem onpick_step {n : Int} {ll : List (List Int)} {tr : List St} (ht : Trl n ll tr) {top : Int} {F : Nat → Bool} {i : Nat} {c : List Int} (h : OnPick n ll tr top F i c) (hm : 1 < (c.filter fun y => levelOf tr y == top).length) :
    ∃ m : Nat, lastI tr c = m ∧ m < i ∧ m < tr.length ∧ sW tr m ≠ -1 ∧ OnPick n ll tr top F m (repL ll tr c m) := by
  obtain ⟨P, h1, h2, h3, h4⟩ := h
  rw [repC_many ht h1] at hm
  obtain ⟨m, e, hl, hP, hmax⟩ := repC_last ht h1 h3
  have hlen := h2.len
  have hmi := h2.lt m hP
  have hle : ∀ k, P k = true → k ≤ m := fun k hk => hmax k (by have := h2.lt k hk; omega) hk
  have hp : pickF ll tr top (m + 1) P = F := by
    rw [← h4, ← pick_skip m hle (i - (m + 1)), show m + 1 + (i - (m + 1)) = i by omega]
  have h2' : PInv tr top (m + 1) P := ⟨fun k hk => by have := hle k hk; omega, by omega, h2.le⟩
  obtain ⟨e', hw⟩ := h2'.last ht hP hm
  refine ⟨m, e, hmi, hl, hw, _, repC_rep ht h1 hl hw, h2'.rep ht hw e', many_rep hm, ?_⟩
  rw [← hp]
  conv => rhs; unfold pickF
  rw [if_neg (by omega), if_pos hP]
theorem onpick_end {n : Int} {ll : List (List Int)} {tr : List St} (ht : Trl n ll tr) {top : Int} {F : Nat → Bool} {i : Nat} {c : List Int} (h : OnPick n ll tr top F i c) (hm : (c.filter fun y => levelOf tr y == top).length ≤ 1) : RepC tr c F := by
  obtain ⟨P, h1, h2, h3, h4⟩ := h
  rw [repC_many ht h1] at hm
  rw [pick_stop hm] at h4
  rw [← h4]; exact h1
theorem onpick_start {n : Int} {ll : List (List Int)} {tr : List St} (ht : Trl n ll tr) {c : List Int} (hc : ∀ y ∈ c, trueT tr (-y) = true) (h0 : 0 ≤ topI tr c) : OnPick n ll tr (topI tr c) (pickF ll tr (topI tr c) tr.length (confS tr c)) tr.length (addsL [] c) := by
  obtain ⟨a, b⟩ := conf_start ht hc
  exact ⟨_, repC_conf ht hc, a, b h0, rfl⟩
theorem onpick_false {n : Int} {ll : List (List Int)} {tr : List St} {top : Int} {F : Nat → Bool} {i : Nat} {c : List Int} (h : OnPick n ll tr top F i c) : ∀ y ∈ c, trueT tr (-y) = true := fun y hy => by
  obtain ⟨P, h1, _⟩ := h
  obtain ⟨k, hk, _, rfl⟩ := (h1.mem y).1 hy
  exact trueT_iff.2 ⟨tr.getD k default, by rw [getD_getElem hk]; exact List.getElem_mem hk, by show sL tr k = _; omega⟩
theorem top_adds {tr : List St} {c : List Int} : topI tr (addsL [] c) = topI tr c :=
  foldl_max_eq (fun y hy _ => ⟨y, by simpa using addsL_mem.1 hy, Int.le_refl _⟩) fun y hy _ => ⟨y, addsL_mem.2 (.inr hy), Int.le_refl _⟩
/-- Where one goes back to. -/
def backL (tr : List St) (c : List Int) (top : Int) : Int := (c.filter fun y => decide (levelOf tr y < top)).foldl (fun m y => max m (levelOf tr y)) 0
theorem back_eq {n : Int} {ll : List (List Int)} {tr : List St} (ht : Trl n ll tr) {c : List Int} {P : Nat → Bool} (h : RepC tr c P) (top : Int) : backL tr c top = backTo tr P top tr.length := by
  unfold backL backTo
  refine foldl_max_eq (fun y hy _ => ?_) fun k hk _ => ?_
  · rw [List.mem_filter, decide_eq_true_eq] at hy
    obtain ⟨k, hk, hP, rfl⟩ := (h.mem y).1 hy.1
    rw [repC_level ht hk] at hy ⊢
    exact ⟨k, List.mem_filter.2 ⟨List.mem_range.2 hk, by rw [Bool.and_eq_true, decide_eq_true_eq]; exact ⟨hP, hy.2⟩⟩, Int.le_refl _⟩
  · rw [List.mem_filter, List.mem_range, Bool.and_eq_true, decide_eq_true_eq] at hk
    refine ⟨-sL tr k, List.mem_filter.2 ⟨(h.mem _).2 ⟨k, hk.1, hk.2.1, rfl⟩, ?_⟩, ?_⟩
    · rw [decide_eq_true_eq, repC_level ht hk.1]; exact hk.2.2
    · rw [repC_level ht hk.1]; exact Int.le_refl _
/-- Literals in the order of their variables. -/
def ordP (c : List Int) (k : Nat) : List Int := (if c.contains (-((k : Int) + 1)) then [-((k : Int) + 1)] else []) ++ if c.contains ((k : Int) + 1) then [(k : Int) + 1] else []
def ordF (c : List Int) (m : Nat) : List Int := (List.range m).flatMap (ordP c)
theorem ordF_succ (c : List Int) (m : Nat) : ordF c (m + 1) = ordF c m ++ ordP c m := by unfold ordF; rw [List.range_succ, List.flatMap_append]; simp
theorem ordP_len (c : List Int) (k : Nat) : (ordP c k).length ≤ 2 := by unfold ordP; split <;> split <;> simp
theorem ordF_len (c : List Int) : ∀ m, (ordF c m).length ≤ 2 * m
  | 0 => by simp [ordF]
  | m + 1 => by
    have := ordF_len c m
    have := ordP_len c m
    rw [ordF_succ, List.length_append]; omega
theorem ordP_mem {c : List Int} {k : Nat} {x : Int} : x ∈ ordP c k ↔ (x = -((k : Int) + 1) ∨ x = (k : Int) + 1) ∧ x ∈ c := by
  unfold ordP
  rw [List.mem_append]
  constructor
  · rintro (h | h)
    · split at h
      · rename_i hc; rw [List.mem_singleton] at h; subst h; exact ⟨.inl rfl, by simpa using hc⟩
      · cases h
    · split at h
      · rename_i hc; rw [List.mem_singleton] at h; subst h; exact ⟨.inr rfl, by simpa using hc⟩
      · cases h
  · rintro ⟨rfl | rfl, h⟩
    · exact .inl (by rw [if_pos (by simpa using h)]; exact List.mem_singleton.2 rfl)
    · exact .inr (by rw [if_pos (by simpa using h)]; exact List.mem_singleton.2 rfl)
theorem ordF_strict (c : List Int) (m : Nat) : Strict (ordF c m) := by
  induction m with
  | zero => simp [ordF, Strict]
  | succ n ih =>
    rw [ordF_succ, Strict, List.pairwise_append]
    refine ⟨ih, ?_, fun x hx y hy => ?_⟩
    · unfold ordP
      split <;> split <;> simp [litKey]
      repeat' split
      all_goals omega
    · unfold ordF at hx
      rw [List.mem_flatMap] at hx
      obtain ⟨v, hv, hx⟩ := hx
      have hv := List.mem_range.1 hv
      have h1 := (ordP_mem.1 hx).1
      have h2 := (ordP_mem.1 hy).1
      unfold litKey
      rcases h1 with rfl | rfl <;> rcases h2 with rfl | rfl <;> (repeat' split) <;> omega
theorem ordF_mem {c : List Int} {n : Nat} (hv : ∀ x ∈ c, litValid x n = true) (x : Int) : x ∈ ordF c n ↔ x ∈ c := by
  unfold ordF
  rw [List.mem_flatMap]
  constructor
  · rintro ⟨k, _, h⟩; exact (ordP_mem.1 h).2
  · intro hx
    have hi := (litValid_iff _ _).1 (hv x hx)
    by_cases hp : 0 < x
    · exact ⟨x.toNat - 1, List.mem_range.2 (by omega), ordP_mem.2 ⟨.inr (by omega), hx⟩⟩
    · exact ⟨(-x).toNat - 1, List.mem_range.2 (by omega), ordP_mem.2 ⟨.inl (by omega), hx⟩⟩
theorem ordF_order {a b : List Int} {n : Nat} (hv : ∀ x ∈ a, litValid x n = true) (h : ∀ x, x ∈ a ↔ x ∈ b) : ordF a n = orderL b :=
  strict_eq _ _ (ordF_strict a n) (orderL_strict b) fun x => by rw [ordF_mem hv, orderL_mem (fun y hy => litVar_ne (hv y ((h y).2 hy))), h]
theorem first_eq {n : Nat} {ll : List (List Int)} {tr : List St} (ht : Trl n ll tr) {c : List Int} {P : Nat → Bool} (h : RepC tr c P) : ordF c n = orderL (outTo tr P tr.length) :=
  ordF_order (fun x hx => by
    obtain ⟨k, hk, _, rfl⟩ := (h.mem x).1 hx
    exact lit_valid_neg (ht.val k hk)) fun x => by rw [h.mem, outTo_mem]
end Go.Proofs.Yteagoaiiacideaa
