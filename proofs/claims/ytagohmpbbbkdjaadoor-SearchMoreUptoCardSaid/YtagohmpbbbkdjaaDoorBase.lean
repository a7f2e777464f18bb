/- The ground: what a world that has only grown keeps; slices of integers and of rows read from memory; sets of variables as two words. No condition. -/
import Derived.Test.YtagohmpbbbkdjaaDoorRows
import Derived.WalkKit
import Derived.WalkSpells
import Derived.WalkLawsBesides
import Derived.Deep.LoopGhost
import Derived.BigQuiet
namespace Go.Proofs.YtagohmpbbbkdjaaDoor
set_option linter.unusedSimpArgs false
set_option linter.unusedVariables false
open Go.RowKit

/-- Old memory is as it was. -/
abbrev Ex (w w' : World) : Prop := Below w.heap.size w w'
theorem Ex.refl (w : World) : Ex w w := Below.refl _ _
theorem Ex.trans {a b c : World} (h : Ex a b) (k : Ex b c) : Ex a c := Below.trans h (Below.mono k h.size)
theorem Ex.alloc (w : World) (o : Obj) : Ex w (w.alloc o) := Below.alloc (Below.refl _ _) (Nat.le_refl _) o
theorem Ex.alloc' {w w' : World} (h : Ex w w') (o : Obj) : Ex w (w'.alloc o) := Below.alloc h h.size o
theorem Ex.drew {w w' : World} (h : Ex w w') : Ex w w'.drew := Below.drew h
theorem Ex.setCell {w w' : World} (h : Ex w w') {p : Addr} (hp : w.heap.size ≤ p.block) (u : Value) : Ex w (w'.setCell p u) := Below.setCell h hp u

theorem cell_lt {w : World} {p : Addr} {v : Value} (h : w.cell? p = some v) : p.block < w.heap.size := by
  unfold World.cell? at h
  rcases Nat.lt_or_ge p.block w.heap.size with h' | h'
  · exact h'
  · rw [Array.getElem?_eq_none h'] at h; cases h
/-! ### Regions that draw their order, whose calls may make memory -/
/-- The world with more blocks and another count of draws. -/
structure More where
  blocks : Array Obj
  draws : Nat
instance : Nonempty More := ⟨⟨#[], 0⟩⟩
def World.ext (w : World) (x : More) : World := { w with heap := w.heap ++ x.blocks, drawn := x.draws }
theorem ex_ext (w : World) (x : More) : Ex w (World.ext w x) :=
  ⟨rfl, rfl, rfl, by simp [World.ext], fun k hk => by simp [World.ext, Array.getElem?_append_left hk]⟩
theorem ext_of_ex {w w' : World} (h : Ex w w') : ∃ x, w' = World.ext w x := by
  refine ⟨⟨w'.heap.extract w.heap.size w'.heap.size, w'.drawn⟩, ?_⟩
  obtain ⟨h1, h2, h3, h4, h5⟩ := h
  have e : w'.heap = w.heap ++ w'.heap.extract w.heap.size w'.heap.size := by
    apply Array.ext_getElem?
    intro i
    rw [Array.getElem?_append]
    split
    · exact h5 i ‹_›
    · rename_i hi
      rw [Array.getElem?_extract]
      split
      · congr 1; omega
      · rw [Array.getElem?_eq_none]; omega
  cases w; cases w'
  simp only [World.ext] at *
  subst h1 h2 h3
  simp only [World.mk.injEq, true_and, and_true]
  exact e
theorem ext_cell {w : World} {p : Addr} {v : Value} (h : w.cell? p = some v) (x : More) : (World.ext w x).cell? p = some v :=
  ((ex_ext w x).cell (cell_lt h)).trans h
theorem ext_size (w : World) (x : More) : w.heap.size ≤ (World.ext w x).heap.size := (ex_ext w x).size
/-- A region that draws its order; its operations only read, its calls keep old memory. -/
theorem wp_region_quiet_ext {P : Program} {id : Nat} {Q : Exit → Act → World → Prop} {a : Act} {w : World} {l : List Oper} (hm : P.follows .mixedOrders = true) (hB : Region.lexB .any l.toArray = true)
    (h : wpQuiet P l.toArray (fun w' => ∃ x, w' = World.ext w x) (fun a' => ∀ w', Ex w w' → Q .normal a' w') l a) : (Code.region id l.toArray true).wp P Q a w := by
  refine wp_region_quiet (C := fun w' => ∃ x, w' = World.ext w x) hm hB (ext_of_ex ⟨rfl, rfl, rfl, Nat.le_refl _, fun _ _ => rfl⟩) ?_
  have e : (fun a' => ∀ w', (∃ x, w' = World.ext w x) → Q .normal a' w') = (fun a' => ∀ w', Ex w w' → Q .normal a' w') := by
    funext a'
    apply propext
    exact ⟨fun h w' hx => h w' (ext_of_ex hx), fun h w' ⟨x, hx⟩ => h w' (hx ▸ ex_ext w x)⟩
  rw [e]; simpa using h
theorem Calls.quiet_ext {P : Program} {f : FuncId} {args : Array Value} {w : World} {x : More} {v : Value}
    (h : Calls P f args (World.ext w x) fun e w' => e = .returned v ∧ Ex (World.ext w x) w') : Calls P f args (World.ext w x) fun e w'' => e = .returned v ∧ ∃ y, w'' = World.ext w y :=
  h.mono fun _ _ ⟨he, hm⟩ => ⟨he, ext_of_ex ((ex_ext w x).trans hm)⟩
theorem Calls.quiet_ext_same {P : Program} {f : FuncId} {args : Array Value} {w : World} {x : More} {v : Value}
    (h : Calls P f args (World.ext w x) fun e w' => e = .returned v ∧ World.ext w x = w') : Calls P f args (World.ext w x) fun e w'' => e = .returned v ∧ ∃ y, w'' = World.ext w y :=
  h.mono fun _ _ ⟨he, hm⟩ => ⟨he, x, hm.symm⟩

theorem ret_int {k : IntKind} {a b : Int} (h : a = b) : Ending.returned (.int k a) = .returned (.int k b) := by rw [h]
theorem ret_bool {a b : Bool} (h : a = b) : Ending.returned (.bool a) = .returned (.bool b) := by rw [h]
theorem val_int {k : IntKind} {a b : Int} (h : a = b) : Value.int k a = .int k b := by rw [h]

/-- A slice of integers, as it lies in memory. -/
def IntsAt (w : World) (v : Value) (l : List Int) : Prop :=
  ∃ a cap, v = .slice a l.length cap ∧ l.length ≤ cap ∧ cap ≤ maxLen ∧
    ∀ k, k < l.length → ∃ b off, a = some ⟨b, off, none⟩ ∧ b < w.heap.size ∧ w.cell? ⟨b, off + k, none⟩ = some (.int .i64 (l.getD k 0))
/-- A slice of slices of integers. -/
def RowsAt (w : World) (v : Value) (ll : List (List Int)) : Prop :=
  ∃ a cap, v = .slice a ll.length cap ∧ ll.length ≤ cap ∧ cap ≤ maxLen ∧
    ∀ k, k < ll.length → ∃ b off rv, a = some ⟨b, off, none⟩ ∧ b < w.heap.size ∧ w.cell? ⟨b, off + k, none⟩ = some rv ∧ IntsAt w rv (ll.getD k [])
theorem IntsAt.ex {w w' : World} {v : Value} {l : List Int} (h : IntsAt w v l) (hx : Ex w w') : IntsAt w' v l := by
  obtain ⟨a, cap, hv, h1, h2, h3⟩ := h
  refine ⟨a, cap, hv, h1, h2, fun k hk => ?_⟩
  obtain ⟨b, off, ha, hb, hc⟩ := h3 k hk
  exact ⟨b, off, ha, Nat.lt_of_lt_of_le hb hx.size, by rw [hx.cell (p := ⟨b, off + k, none⟩) hb]; exact hc⟩
theorem RowsAt.ex {w w' : World} {v : Value} {l : List (List Int)} (h : RowsAt w v l) (hx : Ex w w') : RowsAt w' v l := by
  obtain ⟨a, cap, hv, h1, h2, h3⟩ := h
  refine ⟨a, cap, hv, h1, h2, fun k hk => ?_⟩
  obtain ⟨b, off, rv, ha, hb, hc, hr⟩ := h3 k hk
  exact ⟨b, off, rv, ha, Nat.lt_of_lt_of_le hb hx.size, by rw [hx.cell (p := ⟨b, off + k, none⟩) hb]; exact hc, hr.ex hx⟩
theorem IntsAt.nil (w : World) : IntsAt w (.slice none 0 0) [] := ⟨none, 0, rfl, Nat.le_refl _, Nat.zero_le _, fun k hk => by cases hk⟩

theorem getD_getElem {α : Type} {l : List α} {k : Nat} {d : α} (h : k < l.length) : l.getD k d = l[k] := by
  rw [List.getD_eq_getElem?_getD, List.getElem?_eq_getElem h]; rfl
theorem all_of_getD {α : Type} {p : α → Bool} {d : α} {l : List α} (h : ∀ j, j < l.length → p (l.getD j d) = true) : l.all p = true := by
  rw [List.all_eq_true]
  intro x hx
  obtain ⟨j, hj, rfl⟩ := List.getElem_of_mem hx
  have := h j hj
  rwa [getD_getElem hj] at this
theorem any_of_getD {α : Type} {p : α → Bool} {d : α} {l : List α} {m : Nat} (hm : m < l.length) (h : p (l.getD m d) = true) : l.any p = true := by
  rw [List.any_eq_true]
  exact ⟨l[m], List.getElem_mem hm, by rwa [getD_getElem hm] at h⟩
theorem not_all_of_getD {α : Type} {p : α → Bool} {d : α} {l : List α} {m : Nat} (hm : m < l.length) (h : p (l.getD m d) = false) : l.all p = false := by
  rw [List.all_eq_false]
  exact ⟨l[m], List.getElem_mem hm, by rw [getD_getElem hm] at h; simp [h]⟩
theorem not_any_of_getD {α : Type} {p : α → Bool} {d : α} {l : List α} (h : ∀ j, j < l.length → p (l.getD j d) = false) : l.any p = false := by
  rw [List.any_eq_false]
  intro x hx
  obtain ⟨j, hj, rfl⟩ := List.getElem_of_mem hx
  have := h j hj
  rw [getD_getElem hj] at this
  simp [this]

/-- A set of variables: two words. -/
abbrev setV (x y : Nat) : Value := .agg #[.int .u64 x, .int .u64 y]
/-- Is variable v in the set? -/
def hasB (x y : Nat) (v : Int) : Bool := decide (1 ≤ v) && decide (v ≤ 128) && ((if v ≤ 64 then x else y).testBit ((v - 1) % 64).toNat)
theorem hasB_low (x y : Nat) {v : Int} (h : ¬ 1 ≤ v) : hasB x y v = false := by simp only [hasB, decide_eq_false h, Bool.false_and]
theorem hasB_high (x y : Nat) {v : Int} (h : ¬ v ≤ 128) : hasB x y v = false := by simp only [hasB, decide_eq_false h, Bool.and_false, Bool.false_and]
theorem hasB_fst (x y : Nat) {v : Int} (h1 : 1 ≤ v) (h3 : v ≤ 64) : hasB x y v = x.testBit ((v - 1) % 64).toNat := by
  simp only [hasB, decide_eq_true h1, decide_eq_true (show v ≤ 128 by omega), if_pos h3, Bool.true_and]
theorem hasB_snd (x y : Nat) {v : Int} (h2 : v ≤ 128) (h3 : ¬ v ≤ 64) : hasB x y v = y.testBit ((v - 1) % 64).toNat := by
  simp only [hasB, decide_eq_true (show 1 ≤ v by omega), decide_eq_true h2, if_neg h3, Bool.true_and]
theorem bit_form (x r : Nat) : (((x : Int) / 2 ^ r).tmod 2 == 1) = x.testBit r := by
  have e : ((x : Int) / 2 ^ r) = ((x / 2 ^ r : Nat) : Int) := by simp
  rw [e, Nat.testBit_eq_decide_div_mod_eq]
  generalize x / 2 ^ r = q
  have e2 : ((q : Int).tmod 2) = ((q % 2 : Nat) : Int) := by rw [Int.tmod_eq_emod_of_nonneg (by omega)]; simp
  rw [e2]
  rcases Nat.mod_two_eq_zero_or_one q with h | h <;> simp [h]
theorem bit_form' (x r : Nat) : (((x : Int) / 2 ^ r) % 2 == 1) = x.testBit r := by
  have e : ((x : Int) / 2 ^ r) = ((x / 2 ^ r : Nat) : Int) := by simp
  rw [← bit_form, e, Int.tmod_eq_emod_of_nonneg (Int.natCast_nonneg _)]

/-- A theory, boxed; a set, boxed. -/
structure BoxT (w : World) (b : Nat) (n : Int) (lv : Value) : Prop where
  c0 : w.cell? ⟨b, 0, none⟩ = some (.int .i64 n)
  c1 : w.cell? ⟨b, 1, none⟩ = some lv
structure BoxS (w : World) (b : Nat) (x y : Nat) : Prop where
  c0 : w.cell? ⟨b, 0, none⟩ = some (.int .u64 x)
  c1 : w.cell? ⟨b, 1, none⟩ = some (.int .u64 y)
theorem ex_cell {w w' : World} {p : Addr} {v : Value} (h : w.cell? p = some v) (hx : Ex w w') : w'.cell? p = some v := (hx.cell (cell_lt h)).trans h
theorem BoxT.ex {w w' : World} {b : Nat} {n : Int} {lv : Value} (h : BoxT w b n lv) (hx : Ex w w') : BoxT w' b n lv := ⟨ex_cell h.1 hx, ex_cell h.2 hx⟩
theorem BoxS.ex {w w' : World} {b x y : Nat} (h : BoxS w b x y) (hx : Ex w w') : BoxS w' b x y := ⟨ex_cell h.1 hx, ex_cell h.2 hx⟩

/-! ### Literals -/
/-- The variable of a literal, or 0. -/
def litVar (l : Int) : Int := if 1 ≤ l ∧ l ≤ 128 then l else if l ≤ -1 ∧ -128 ≤ l then -l else 0
/-- Is l a literal of n variables? -/
def litValid (l n : Int) : Bool := litVar l != 0 && decide (litVar l ≤ n)
/-- Is a literal true in a set? -/
def holdsB (x y : Nat) (l : Int) : Bool := litVar l != 0 && (hasB x y (litVar l) == decide (0 < l))
theorem litVar_range (l : Int) : 0 ≤ litVar l ∧ litVar l ≤ 128 := by unfold litVar; (repeat' split) <;> omega
theorem litValid_iff (l n : Int) : litValid l n = true ↔ (l ≠ 0 ∧ -128 ≤ l ∧ l ≤ 128 ∧ -n ≤ l ∧ l ≤ n) := by
  unfold litValid litVar
  (repeat' split) <;> simp <;> omega
theorem litVar_of_valid {l n : Int} (h : litValid l n = true) : litVar l = if 0 < l then l else -l := by
  rw [litValid_iff] at h
  unfold litVar
  (repeat' split) <;> omega

/-! ### The error of a theory -/
def clauseErr (n : Int) (c : List Int) : Int := if 128 < c.length then 2 else if c.all (litValid · n) then 0 else 1
def rowsErr (n : Int) : List (List Int) → Int
  | [] => 0
  | c :: t => if clauseErr n c = 0 then rowsErr n t else clauseErr n c
def theoryErr (n : Int) (ll : List (List Int)) : Int :=
  if n < 0 ∨ 128 < n then 6 else if 4096 < ll.length then 2 else rowsErr n ll
theorem rowsErr_drop (n : Int) (ll : List (List Int)) (k : Nat) (h : k < ll.length) :
    rowsErr n (ll.drop k) = if clauseErr n (ll.getD k []) = 0 then rowsErr n (ll.drop (k+1)) else clauseErr n (ll.getD k []) := by
  rw [List.drop_eq_getElem_cons h]
  simp only [rowsErr, List.getD_eq_getElem?_getD, List.getElem?_eq_getElem h, Option.getD_some]
theorem clauseErr_long {n : Int} {c : List Int} (h : 128 < c.length) : clauseErr n c = 2 := by simp [clauseErr, h]
theorem clauseErr_bad {n : Int} {c : List Int} (h : ¬ 128 < c.length) {m : Nat} (hm : m < c.length) (hv : litValid (c.getD m 0) n = false) : clauseErr n c = 1 := by
  unfold clauseErr
  rw [if_neg h, if_neg]
  rw [not_all_of_getD hm hv]; simp
theorem clauseErr_ok {n : Int} {c : List Int} (h : ¬ 128 < c.length) (hv : ∀ j, j < c.length → litValid (c.getD j 0) n = true) : clauseErr n c = 0 := by
  unfold clauseErr
  rw [if_neg h, if_pos (all_of_getD hv)]
theorem rowsErr_zero {n : Int} {ll : List (List Int)} (h : rowsErr n ll = 0) : ∀ c ∈ ll, c.length ≤ 128 ∧ ∀ x ∈ c, litValid x n = true := by
  induction ll with
  | nil => intro c hc; cases hc
  | cons d t ih =>
    simp only [rowsErr] at h
    split at h
    · rename_i h0
      intro c hc
      rcases List.mem_cons.1 hc with rfl | hc
      · unfold clauseErr at h0
        split at h0
        · cases h0
        · split at h0
          · rename_i h1 h2
            exact ⟨by omega, by rwa [List.all_eq_true] at h2⟩
          · cases h0
      · exact ih h c hc
    · rename_i h0; exact absurd h h0
theorem theoryErr_zero {n : Int} {ll : List (List Int)} (h : theoryErr n ll = 0) : 0 ≤ n ∧ n ≤ 128 ∧ ll.length ≤ 4096 ∧ ∀ c ∈ ll, c.length ≤ 128 ∧ ∀ x ∈ c, litValid x n = true := by
  unfold theoryErr at h
  split at h
  · cases h
  · split at h
    · cases h
    · exact ⟨by omega, by omega, by omega, rowsErr_zero h⟩
theorem theory_lit {n : Int} {ll : List (List Int)} (h : theoryErr n ll = 0) {k m : Nat} (hk : k < ll.length) (hm : m < (ll.getD k []).length) : litValid ((ll.getD k []).getD m 0) n = true := by
  have h1 := (theoryErr_zero h).2.2.2 (ll.getD k []) (by rw [getD_getElem hk]; exact List.getElem_mem hk)
  exact h1.2 _ (by rw [getD_getElem hm]; exact List.getElem_mem hm)
theorem litVar_ne {l n : Int} (h : litValid l n = true) : litVar l ≠ 0 := by
  intro e; simp [litValid, e] at h
end Go.Proofs.YtagohmpbbbkdjaaDoor
