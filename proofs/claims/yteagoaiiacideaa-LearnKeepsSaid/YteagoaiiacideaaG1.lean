/- Texts of this claim, joined: Base, Order, Sem, UnitP, UnitQ, UnitR, ProbeP, ProbeQ, EqualP. No condition. -/
import Derived.Test.YteagoaiiacideaaRows
import Derived.WalkKit
import Derived.WalkSpells
import Derived.WalkLawsBesides
import Derived.Deep.LoopGhost
import Derived.BigQuiet
import Derived.Lib.SlicesCompact
/- The ground: what a world that has only grown keeps; slices of integers and of rows read from memory; sets of variables as two words. No condition. -/
namespace Go.Proofs.Yteagoaiiacideaa
set_option linter.unusedSimpArgs false
set_option linter.unusedVariables false
open Go.RowKit

/-- Old memory is as it was. -/
abbrev Ex (w w' : World) : Prop := Below w.heap.size w w'
theorem Ex.refl (w : World) : Ex w w := Below.refl _ _
theorem Ex.trans {a b c : World} (h : Ex a b) (k : Ex b c) : Ex a c := Below.trans h (Below.mono k h.size)
theorem Ex.alloc (w : World) (o : Obj) : Ex w (w.alloc o) := Below.alloc (Below.refl _ _) (Nat.le_refl _) o
theorem Ex.alloc' {w w' : World} (h : Ex w w') (o : Obj) : Ex w (w'.alloc o) := Below.alloc h h.size o
theorem Ex.drew {w w' : World} (h : Ex w w') : Ex w w'.drew := Below.drew h
theorem Ex.setCell {w w' : World} (h : Ex w w') {p : Addr} (hp : w.heap.size ≤ p.block) (u : Value) : Ex w (w'.setCell p u) := Below.setCell h hp u

theorem cell_lt {w : World} {p : Addr} {v : Value} (h : w.cell? p = some v) : p.block < w.heap.size := by
  unfold World.cell? at h
  rcases Nat.lt_or_ge p.block w.heap.size with h' | h'
  · exact h'
  · rw [Array.getElem?_eq_none h'] at h; cases h
/-! ### Regions that draw their order, whose calls may make memory -/
/-- The world with more blocks and another count of draws. -/
structure More where
  blocks : Array Obj
  draws : Nat
instance : Nonempty More := ⟨⟨#[], 0⟩⟩
def World.ext (w : World) (x : More) : World := { w with heap := w.heap ++ x.blocks, drawn := x.draws }
theorem ex_ext (w : World) (x : More) : Ex w (World.ext w x) :=
  ⟨rfl, rfl, rfl, by simp [World.ext], fun k hk => by simp [World.ext, Array.getElem?_append_left hk]⟩
theorem ext_of_ex {w w' : World} (h : Ex w w') : ∃ x, w' = World.ext w x := by
  refine ⟨⟨w'.heap.extract w.heap.size w'.heap.size, w'.drawn⟩, ?_⟩
  obtain ⟨h1, h2, h3, h4, h5⟩ := h
  have e : w'.heap = w.heap ++ w'.heap.extract w.heap.size w'.heap.size := by
    apply Array.ext_getElem?
    intro i
    rw [Array.getElem?_append]
    split
    · exact h5 i ‹_›
    · rename_i hi
      rw [Array.getElem?_extract]
      split
      · congr 1; omega
      · rw [Array.getElem?_eq_none]; omega
  cases w; cases w'
  simp only [World.ext] at *
  subst h1 h2 h3
  simp only [World.mk.injEq, true_and, and_true]
  exact e
theorem ext_cell {w : World} {p : Addr} {v : Value} (h : w.cell? p = some v) (x : More) : (World.ext w x).cell? p = some v :=
  ((ex_ext w x).cell (cell_lt h)).trans h
theorem ext_size (w : World) (x : More) : w.heap.size ≤ (World.ext w x).heap.size := (ex_ext w x).size
/-- A region that draws its order; its operations only read, its calls keep old memory. -/
theorem wp_region_quiet_ext {P : Program} {id : Nat} {Q : Exit → Act → World → Prop} {a : Act} {w : World} {l : List Oper} (hm : P.follows .mixedOrders = true) (hB : Region.lexB .any l.toArray = true)
    (h : wpQuiet P l.toArray (fun w' => ∃ x, w' = World.ext w x) (fun a' => ∀ w', Ex w w' → Q .normal a' w') l a) : (Code.region id l.toArray true).wp P Q a w := by
  refine wp_region_quiet (C := fun w' => ∃ x, w' = World.ext w x) hm hB (ext_of_ex ⟨rfl, rfl, rfl, Nat.le_refl _, fun _ _ => rfl⟩) ?_
  have e : (fun a' => ∀ w', (∃ x, w' = World.ext w x) → Q .normal a' w') = (fun a' => ∀ w', Ex w w' → Q .normal a' w') := by
    funext a'
    apply propext
    exact ⟨fun h w' hx => h w' (ext_of_ex hx), fun h w' ⟨x, hx⟩ => h w' (hx ▸ ex_ext w x)⟩
  rw [e]; simpa using h
theorem Calls.quiet_ext {P : Program} {f : FuncId} {args : Array Value} {w : World} {x : More} {v : Value}
    (h : Calls P f args (World.ext w x) fun e w' => e = .returned v ∧ Ex (World.ext w x) w') : Calls P f args (World.ext w x) fun e w'' => e = .returned v ∧ ∃ y, w'' = World.ext w y :=
  h.mono fun _ _ ⟨he, hm⟩ => ⟨he, ext_of_ex ((ex_ext w x).trans hm)⟩
theorem Calls.quiet_ext_same {P : Program} {f : FuncId} {args : Array Value} {w : World} {x : More} {v : Value}
    (h : Calls P f args (World.ext w x) fun e w' => e = .returned v ∧ World.ext w x = w') : Calls P f args (World.ext w x) fun e w'' => e = .returned v ∧ ∃ y, w'' = World.ext w y :=
  h.mono fun _ _ ⟨he, hm⟩ => ⟨he, x, hm.symm⟩

theorem ret_int {k : IntKind} {a b : Int} (h : a = b) : Ending.returned (.int k a) = .returned (.int k b) := by rw [h]
theorem ret_bool {a b : Bool} (h : a = b) : Ending.returned (.bool a) = .returned (.bool b) := by rw [h]
theorem val_int {k : IntKind} {a b : Int} (h : a = b) : Value.int k a = .int k b := by rw [h]

/-- A slice of integers, as it lies in memory. -/
def IntsAt (w : World) (v : Value) (l : List Int) : Prop :=
  ∃ a cap, v = .slice a l.length cap ∧ l.length ≤ cap ∧ cap ≤ maxLen ∧
    ∀ k, k < l.length → ∃ b off, a = some ⟨b, off, none⟩ ∧ b < w.heap.size ∧ w.cell? ⟨b, off + k, none⟩ = some (.int .i64 (l.getD k 0))
/-- A slice of slices of integers. -/
def RowsAt (w : World) (v : Value) (ll : List (List Int)) : Prop :=
  ∃ a cap, v = .slice a ll.length cap ∧ ll.length ≤ cap ∧ cap ≤ maxLen ∧
    ∀ k, k < ll.length → ∃ b off rv, a = some ⟨b, off, none⟩ ∧ b < w.heap.size ∧ w.cell? ⟨b, off + k, none⟩ = some rv ∧ IntsAt w rv (ll.getD k [])
theorem IntsAt.ex {w w' : World} {v : Value} {l : List Int} (h : IntsAt w v l) (hx : Ex w w') : IntsAt w' v l := by
  obtain ⟨a, cap, hv, h1, h2, h3⟩ := h
  refine ⟨a, cap, hv, h1, h2, fun k hk => ?_⟩
  obtain ⟨b, off, ha, hb, hc⟩ := h3 k hk
  exact ⟨b, off, ha, Nat.lt_of_lt_of_le hb hx.size, by rw [hx.cell (p := ⟨b, off + k, none⟩) hb]; exact hc⟩
theorem RowsAt.ex {w w' : World} {v : Value} {l : List (List Int)} (h : RowsAt w v l) (hx : Ex w w') : RowsAt w' v l := by
  obtain ⟨a, cap, hv, h1, h2, h3⟩ := h
  refine ⟨a, cap, hv, h1, h2, fun k hk => ?_⟩
  obtain ⟨b, off, rv, ha, hb, hc, hr⟩ := h3 k hk
  exact ⟨b, off, rv, ha, Nat.lt_of_lt_of_le hb hx.size, by rw [hx.cell (p := ⟨b, off + k, none⟩) hb]; exact hc, hr.ex hx⟩
theorem IntsAt.nil (w : World) : IntsAt w (.slice none 0 0) [] := ⟨none, 0, rfl, Nat.le_refl _, Nat.zero_le _, fun k hk => by cases hk⟩

theorem getD_getElem {α : Type} {l : List α} {k : Nat} {d : α} (h : k < l.length) : l.getD k d = l[k] := by
  rw [List.getD_eq_getElem?_getD, List.getElem?_eq_getElem h]; rfl
theorem all_of_getD {α : Type} {p : α → Bool} {d : α} {l : List α} (h : ∀ j, j < l.length → p (l.getD j d) = true) : l.all p = true := by
  rw [List.all_eq_true]
  intro x hx
  obtain ⟨j, hj, rfl⟩ := List.getElem_of_mem hx
  have := h j hj
  rwa [getD_getElem hj] at this
theorem any_of_getD {α : Type} {p : α → Bool} {d : α} {l : List α} {m : Nat} (hm : m < l.length) (h : p (l.getD m d) = true) : l.any p = true := by
  rw [List.any_eq_true]
  exact ⟨l[m], List.getElem_mem hm, by rwa [getD_getElem hm] at h⟩
theorem not_all_of_getD {α : Type} {p : α → Bool} {d : α} {l : List α} {m : Nat} (hm : m < l.length) (h : p (l.getD m d) = false) : l.all p = false := by
  rw [List.all_eq_false]
  exact ⟨l[m], List.getElem_mem hm, by rw [getD_getElem hm] at h; simp [h]⟩
theorem not_any_of_getD {α : Type} {p : α → Bool} {d : α} {l : List α} (h : ∀ j, j < l.length → p (l.getD j d) = false) : l.any p = false := by
  rw [List.any_eq_false]
  intro x hx
  obtain ⟨j, hj, rfl⟩ := List.getElem_of_mem hx
  have := h j hj
  rw [getD_getElem hj] at this
  simp [this]

/-- A set of variables: two words. -/
abbrev setV (x y : Nat) : Value := .agg #[.int .u64 x, .int .u64 y]
/-- Is variable v in the set? -/
def hasB (x y : Nat) (v : Int) : Bool := decide (1 ≤ v) && decide (v ≤ 128) && ((if v ≤ 64 then x else y).testBit ((v - 1) % 64).toNat)
theorem hasB_low (x y : Nat) {v : Int} (h : ¬ 1 ≤ v) : hasB x y v = false := by simp only [hasB, decide_eq_false h, Bool.false_and]
theorem hasB_high (x y : Nat) {v : Int} (h : ¬ v ≤ 128) : hasB x y v = false := by simp only [hasB, decide_eq_false h, Bool.and_false, Bool.false_and]
theorem hasB_fst (x y : Nat) {v : Int} (h1 : 1 ≤ v) (h3 : v ≤ 64) : hasB x y v = x.testBit ((v - 1) % 64).toNat := by
  simp only [hasB, decide_eq_true h1, decide_eq_true (show v ≤ 128 by omega), if_pos h3, Bool.true_and]
theorem hasB_snd (x y : Nat) {v : Int} (h2 : v ≤ 128) (h3 : ¬ v ≤ 64) : hasB x y v = y.testBit ((v - 1) % 64).toNat := by
  simp only [hasB, decide_eq_true (show 1 ≤ v by omega), decide_eq_true h2, if_neg h3, Bool.true_and]
theorem bit_form (x r : Nat) : (((x : Int) / 2 ^ r).tmod 2 == 1) = x.testBit r := by
  have e : ((x : Int) / 2 ^ r) = ((x / 2 ^ r : Nat) : Int) := by simp
  rw [e, Nat.testBit_eq_decide_div_mod_eq]
  generalize x / 2 ^ r = q
  have e2 : ((q : Int).tmod 2) = ((q % 2 : Nat) : Int) := by rw [Int.tmod_eq_emod_of_nonneg (by omega)]; simp
  rw [e2]
  rcases Nat.mod_two_eq_zero_or_one q with h | h <;> simp [h]
theorem bit_form' (x r : Nat) : (((x : Int) / 2 ^ r) % 2 == 1) = x.testBit r := by
  have e : ((x : Int) / 2 ^ r) = ((x / 2 ^ r : Nat) : Int) := by simp
  rw [← bit_form, e, Int.tmod_eq_emod_of_nonneg (Int.natCast_nonneg _)]

/-- A theory, boxed; a set, boxed. -/
structure BoxT (w : World) (b : Nat) (n : Int) (lv : Value) : Prop where
  c0 : w.cell? ⟨b, 0, none⟩ = some (.int .i64 n)
  c1 : w.cell? ⟨b, 1, none⟩ = some lv
structure BoxS (w : World) (b : Nat) (x y : Nat) : Prop where
  c0 : w.cell? ⟨b, 0, none⟩ = some (.int .u64 x)
  c1 : w.cell? ⟨b, 1, none⟩ = some (.int .u64 y)
theorem ex_cell {w w' : World} {p : Addr} {v : Value} (h : w.cell? p = some v) (hx : Ex w w') : w'.cell? p = some v := (hx.cell (cell_lt h)).trans h
theorem BoxT.ex {w w' : World} {b : Nat} {n : Int} {lv : Value} (h : BoxT w b n lv) (hx : Ex w w') : BoxT w' b n lv := ⟨ex_cell h.1 hx, ex_cell h.2 hx⟩
theorem BoxS.ex {w w' : World} {b x y : Nat} (h : BoxS w b x y) (hx : Ex w w') : BoxS w' b x y := ⟨ex_cell h.1 hx, ex_cell h.2 hx⟩

/-! ### Literals -/
/-- The variable of a literal, or 0. -/
def litVar (l : Int) : Int := if 1 ≤ l ∧ l ≤ 128 then l else if l ≤ -1 ∧ -128 ≤ l then -l else 0
/-- Is l a literal of n variables? -/
def litValid (l n : Int) : Bool := litVar l != 0 && decide (litVar l ≤ n)
/-- Is a literal true in a set? -/
def holdsB (x y : Nat) (l : Int) : Bool := litVar l != 0 && (hasB x y (litVar l) == decide (0 < l))
theorem litVar_range (l : Int) : 0 ≤ litVar l ∧ litVar l ≤ 128 := by unfold litVar; (repeat' split) <;> omega
theorem litValid_iff (l n : Int) : litValid l n = true ↔ (l ≠ 0 ∧ -128 ≤ l ∧ l ≤ 128 ∧ -n ≤ l ∧ l ≤ n) := by
  unfold litValid litVar
  (repeat' split) <;> simp <;> omega
theorem litVar_of_valid {l n : Int} (h : litValid l n = true) : litVar l = if 0 < l then l else -l := by
  rw [litValid_iff] at h
  unfold litVar
  (repeat' split) <;> omega

/-! ### The error of a theory -/
def clauseErr (n : Int) (c : List Int) : Int := if 128 < c.length then 2 else if c.all (litValid · n) then 0 else 1
def rowsErr (n : Int) : List (List Int) → Int
  | [] => 0
  | c :: t => if clauseErr n c = 0 then rowsErr n t else clauseErr n c
def theoryErr (n : Int) (ll : List (List Int)) : Int :=
  if n < 0 ∨ 128 < n then 6 else if 4096 < ll.length then 2 else rowsErr n ll
theorem rowsErr_drop (n : Int) (ll : List (List Int)) (k : Nat) (h : k < ll.length) :
    rowsErr n (ll.drop k) = if clauseErr n (ll.getD k []) = 0 then rowsErr n (ll.drop (k+1)) else clauseErr n (ll.getD k []) := by
  rw [List.drop_eq_getElem_cons h]
  simp only [rowsErr, List.getD_eq_getElem?_getD, List.getElem?_eq_getElem h, Option.getD_some]
theorem clauseErr_long {n : Int} {c : List Int} (h : 128 < c.length) : clauseErr n c = 2 := by simp [clauseErr, h]
theorem clauseErr_bad {n : Int} {c : List Int} (h : ¬ 128 < c.length) {m : Nat} (hm : m < c.length) (hv : litValid (c.getD m 0) n = false) : clauseErr n c = 1 := by
  unfold clauseErr
  rw [if_neg h, if_neg]
  rw [not_all_of_getD hm hv]; simp
theorem clauseErr_ok {n : Int} {c : List Int} (h : ¬ 128 < c.length) (hv : ∀ j, j < c.length → litValid (c.getD j 0) n = true) : clauseErr n c = 0 := by
  unfold clauseErr
  rw [if_neg h, if_pos (all_of_getD hv)]
theorem rowsErr_zero {n : Int} {ll : List (List Int)} (h : rowsErr n ll = 0) : ∀ c ∈ ll, c.length ≤ 128 ∧ ∀ x ∈ c, litValid x n = true := by
  induction ll with
  | nil => intro c hc; cases hc
  | cons d t ih =>
    simp only [rowsErr] at h
    split at h
    · rename_i h0
      intro c hc
      rcases List.mem_cons.1 hc with rfl | hc
      · unfold clauseErr at h0
        split at h0
        · cases h0
        · split at h0
          · rename_i h1 h2
            exact ⟨by omega, by rwa [List.all_eq_true] at h2⟩
          · cases h0
      · exact ih h c hc
    · rename_i h0; exact absurd h h0
theorem theoryErr_zero {n : Int} {ll : List (List Int)} (h : theoryErr n ll = 0) : 0 ≤ n ∧ n ≤ 128 ∧ ll.length ≤ 4096 ∧ ∀ c ∈ ll, c.length ≤ 128 ∧ ∀ x ∈ c, litValid x n = true := by
  unfold theoryErr at h
  split at h
  · cases h
  · split at h
    · cases h
    · exact ⟨by omega, by omega, by omega, rowsErr_zero h⟩
theorem theory_lit {n : Int} {ll : List (List Int)} (h : theoryErr n ll = 0) {k m : Nat} (hk : k < ll.length) (hm : m < (ll.getD k []).length) : litValid ((ll.getD k []).getD m 0) n = true := by
  have h1 := (theoryErr_zero h).2.2.2 (ll.getD k []) (by rw [getD_getElem hk]; exact List.getElem_mem hk)
  exact h1.2 _ (by rw [getD_getElem hm]; exact List.getElem_mem hm)
theorem litVar_ne {l n : Int} (h : litValid l n = true) : litVar l ≠ 0 := by
  intro e; simp [litValid, e] at h
end Go.Proofs.Yteagoaiiacideaa
/- Plain facts on literals in order, each once: what sorting and leaving out repeats make of a list is what the document says. No Go in sight. -/
namespace Go.Proofs.Yteagoaiiacideaa
set_option linter.unusedSimpArgs false
set_option linter.unusedVariables false

/-- The place of a literal in the order: -1, 1, -2, 2, .. -/
def litKey (x : Int) : Int := 2 * (x.natAbs : Int) + (if 0 < x then 1 else 0)
theorem litKey_inj {x y : Int} (h : litKey x = litKey y) : x = y := by unfold litKey at h; split at h <;> split at h <;> omega
/-- The literals that occur, in order. -/
def orderL (l : List Int) : List Int := (List.range 128).flatMap fun (v : Nat) => (if l.contains (-((v : Int) + 1)) then [-((v : Int) + 1)] else []) ++ (if l.contains ((v : Int) + 1) then [(v : Int) + 1] else [])
abbrev Strict (l : List Int) : Prop := l.Pairwise fun a b => litKey a < litKey b
theorem strict_eq : ∀ (a b : List Int), Strict a → Strict b → (∀ x, x ∈ a ↔ x ∈ b) → a = b
  | [], [], _, _, _ => rfl
  | [], y :: _, _, _, h => by have := (h y).2 (List.mem_cons_self ..); cases this
  | x :: _, [], _, _, h => by have := (h x).1 (List.mem_cons_self ..); cases this
  | x :: xs, y :: ys, ha, hb, h => by
    rw [Strict, List.pairwise_cons] at ha hb
    have hxy : x = y := by
      rcases List.mem_cons.1 ((h x).1 (List.mem_cons_self ..)) with e | e
      · exact e
      · rcases List.mem_cons.1 ((h y).2 (List.mem_cons_self ..)) with e' | e'
        · exact e'.symm
        · have h1 := hb.1 x e
          have h2 := ha.1 y e'
          omega
    subst hxy
    have : xs = ys := strict_eq xs ys ha.2 hb.2 fun z => by
      constructor
      · intro hz
        rcases List.mem_cons.1 ((h z).1 (List.mem_cons_of_mem _ hz)) with e | e
        · subst e; have := ha.1 z hz; omega
        · exact e
      · intro hz
        rcases List.mem_cons.1 ((h z).2 (List.mem_cons_of_mem _ hz)) with e | e
        · subst e; have := hb.1 z hz; omega
        · exact e
    rw [this]
theorem orderL_mem {l : List Int} (hl : ∀ x ∈ l, litVar x ≠ 0) (x : Int) : x ∈ orderL l ↔ x ∈ l := by
  unfold orderL
  rw [List.mem_flatMap]
  constructor
  · rintro ⟨v, _, hv⟩
    rw [List.mem_append] at hv
    rcases hv with hv | hv
    · split at hv
      · rename_i h
        rw [List.mem_singleton] at hv
        subst hv
        simpa using h
      · cases hv
    · split at hv
      · rename_i h
        rw [List.mem_singleton] at hv
        subst hv
        simpa using h
      · cases hv
  · intro hx
    have h0 := hl x hx
    unfold litVar at h0
    by_cases hp : 1 ≤ x ∧ x ≤ 128
    · refine ⟨(x - 1).toNat, List.mem_range.2 (by omega), List.mem_append.2 (.inr ?_)⟩
      have e : (((x - 1).toNat : Int) + 1) = x := by omega
      rw [e, if_pos (by simpa using hx)]
      exact List.mem_singleton.2 rfl
    · rw [if_neg hp] at h0
      have hn : x ≤ -1 ∧ -128 ≤ x := by
        by_cases h : x ≤ -1 ∧ -128 ≤ x
        · exact h
        · rw [if_neg h] at h0; exact absurd rfl h0
      refine ⟨(-x - 1).toNat, List.mem_range.2 (by omega), List.mem_append.2 (.inl ?_)⟩
      have e : -((((-x - 1).toNat : Nat) : Int) + 1) = x := by omega
      rw [e, if_pos (by simpa using hx)]
      exact List.mem_singleton.2 rfl
/-- What a piece of the order holds. -/
theorem piece_mem {l : List Int} {v : Nat} {x : Int} (h : x ∈ (if l.contains (-((v : Int) + 1)) then [-((v : Int) + 1)] else []) ++ (if l.contains ((v : Int) + 1) then [(v : Int) + 1] else [])) : x = -((v : Int) + 1) ∨ x = (v : Int) + 1 := by
  rw [List.mem_append] at h
  rcases h with h | h
  · split at h
    · exact .inl (List.mem_singleton.1 h)
    · cases h
  · split at h
    · exact .inr (List.mem_singleton.1 h)
    · cases h
theorem piece_strict (l : List Int) (v : Nat) : Strict ((if l.contains (-((v : Int) + 1)) then [-((v : Int) + 1)] else []) ++ (if l.contains ((v : Int) + 1) then [(v : Int) + 1] else [])) := by
  split <;> split <;> simp [Strict, litKey] <;> omega
theorem orderL_strict (l : List Int) : Strict (orderL l) := by
  unfold orderL
  generalize (128 : Nat) = n
  induction n with
  | zero => simp [Strict]
  | succ n ih =>
    rw [List.range_succ, List.flatMap_append, Strict, List.pairwise_append]
    refine ⟨ih, by simpa using piece_strict l n, fun x hx y hy => ?_⟩
    rw [List.mem_flatMap] at hx
    obtain ⟨v, hv, hx⟩ := hx
    have hv := List.mem_range.1 hv
    have h1 := piece_mem hx
    have hy' := by simpa using hy
    have h2 := piece_mem (l := l) (v := n) (x := y) (by simpa using hy)
    clear hy hy' hx
    unfold litKey
    rcases h1 with rfl | rfl <;> rcases h2 with rfl | rfl <;> (repeat' split) <;> omega

open Go.Lib in
theorem compact_upTo {zs : List Int} (h : zs.Pairwise fun a b => litKey a ≤ litKey b) : ∀ m, m ≤ zs.length → Strict (compactUpTo zs.toArray m) ∧ ∀ x, x ∈ compactUpTo zs.toArray m ↔ ∃ j, j < m ∧ zs.toArray[j]! = x
  | 0, _ => ⟨by simp [compactUpTo, Strict], fun x => by simp [compactUpTo]⟩
  | m + 1, hm => by
    obtain ⟨ih1, ih2⟩ := compact_upTo h m (by omega)
    rw [compactUpTo_succ]
    have hget : ∀ j, (hj : j < zs.length) → zs.toArray[j]! = zs[j] := fun j hj => by simp [getElem!_pos, hj]
    by_cases hk : keeps zs.toArray m = true
    · rw [if_pos hk]
      refine ⟨?_, fun x => ?_⟩
      · rw [Strict, List.pairwise_append]
        refine ⟨ih1, by simp, fun x hx y hy => ?_⟩
        rw [List.mem_singleton] at hy
        subst hy
        obtain ⟨j, hj, rfl⟩ := (ih2 x).1 hx
        have h0 : m ≠ 0 := by omega
        have hne : zs.toArray[m]! ≠ zs.toArray[m - 1]! := by
          simp only [keeps, decide_eq_true_eq] at hk
          rcases hk with hk | hk
          · exact absurd hk h0
          · exact hk
        rw [hget m (by omega), hget (m - 1) (by omega)] at hne
        rw [hget m (by omega), hget j (by omega)]
        have hle := List.pairwise_iff_getElem.1 h
        have h1 := hle (m - 1) m (by omega) (by omega) (by omega)
        have h2 : litKey zs[m - 1] ≠ litKey zs[m] := fun e => hne (litKey_inj e).symm
        by_cases hjm : j = m - 1
        · subst hjm; omega
        · have h3 := hle j (m - 1) (by omega) (by omega) (by omega)
          omega
      · rw [List.mem_append, ih2, List.mem_singleton]
        constructor
        · rintro (⟨j, hj, e⟩ | rfl)
          · exact ⟨j, by omega, e⟩
          · exact ⟨m, by omega, rfl⟩
        · rintro ⟨j, hj, e⟩
          by_cases hjm : j = m
          · subst hjm; exact .inr e.symm
          · exact .inl ⟨j, by omega, e⟩
    · rw [if_neg hk, List.append_nil]
      refine ⟨ih1, fun x => ?_⟩
      rw [ih2]
      constructor
      · rintro ⟨j, hj, e⟩
        exact ⟨j, by omega, e⟩
      · rintro ⟨j, hj, e⟩
        by_cases hjm : j = m
        · subst hjm
          simp only [keeps, decide_eq_true_eq, not_or, Decidable.not_not] at hk
          exact ⟨j - 1, by omega, by rw [← hk.2]; exact e⟩
        · exact ⟨j, by omega, e⟩
theorem compact_eq_order {zs l : List Int} (h : zs.Pairwise fun a b => litKey a ≤ litKey b) (hm : ∀ x, x ∈ zs ↔ x ∈ l) (hl : ∀ x ∈ l, litVar x ≠ 0) : Lib.compact zs = orderL l := by
  obtain ⟨h1, h2⟩ := compact_upTo h zs.length (Nat.le_refl _)
  refine strict_eq _ _ h1 (orderL_strict l) fun x => ?_
  rw [orderL_mem hl, ← hm]
  show x ∈ Lib.compactUpTo _ _ ↔ _
  rw [h2]
  constructor
  · rintro ⟨j, hj, rfl⟩
    have : zs.toArray[j]! = zs[j] := by simp [getElem!_pos, hj]
    rw [this]; exact List.getElem_mem hj
  · intro hx
    obtain ⟨j, hj, rfl⟩ := List.getElem_of_mem hx
    exact ⟨j, hj, by simp [getElem!_pos, hj]⟩

/-- How literals are compared. -/
def litCmp (a b : Int) : Int := if litVar a = litVar b then a - b else litVar a - litVar b
theorem litCmp_lt {a b : Int} (ha : litVar a ≠ 0) (hb : litVar b ≠ 0) : decide (litCmp a b < 0) = decide (litKey a < litKey b) := by
  rw [decide_eq_decide]
  have ha' : (1 ≤ a ∧ a ≤ 128 ∧ litVar a = a) ∨ (a ≤ -1 ∧ -128 ≤ a ∧ litVar a = -a) := by
    unfold litVar at *; (repeat' split) <;> simp_all
  have hb' : (1 ≤ b ∧ b ≤ 128 ∧ litVar b = b) ∨ (b ≤ -1 ∧ -128 ≤ b ∧ litVar b = -b) := by
    unfold litVar at *; (repeat' split) <;> simp_all
  unfold litCmp litKey
  rcases ha' with ⟨h1, h2, h3⟩ | ⟨h1, h2, h3⟩ <;> rcases hb' with ⟨k1, k2, k3⟩ | ⟨k1, k2, k3⟩ <;> rw [h3, k3] <;> (repeat' split) <;> omega
end Go.Proofs.Yteagoaiiacideaa
/- Plain definitions: assignments, models of a theory, the least model under assumptions. No Go in sight. -/
namespace Go.Proofs.Yteagoaiiacideaa
set_option linter.unusedSimpArgs false
set_option linter.unusedVariables false
open Go.RowKit

/-- No variable beyond n. -/
def assignB (x y : Nat) (n : Int) : Bool := (List.range 128).all fun i => decide ((i : Int) + 1 ≤ n) || !hasB x y ((i : Int) + 1)
theorem assignB_iff (x y : Nat) (n : Int) : assignB x y n = true ↔ ∀ v : Int, n < v → hasB x y v = false := by
  unfold assignB
  rw [List.all_eq_true]
  constructor
  · intro h v hv
    by_cases h1 : 1 ≤ v
    · by_cases h2 : v ≤ 128
      · have := h (v - 1).toNat (List.mem_range.2 (by omega))
        have e : (((v - 1).toNat : Nat) : Int) + 1 = v := by omega
        rw [e] at this
        simp only [Bool.or_eq_true, decide_eq_true_eq, Bool.not_eq_true'] at this
        rcases this with h | h
        · omega
        · exact h
      · exact hasB_high x y h2
    · exact hasB_low x y h1
  · intro h i hi
    simp only [Bool.or_eq_true, decide_eq_true_eq, Bool.not_eq_true']
    by_cases h1 : (i : Int) + 1 ≤ n
    · exact .inl h1
    · exact .inr (h _ (by omega))
/-- All clauses have a true literal. -/
def clausesB (ll : List (List Int)) (x y : Nat) : Bool := ll.all fun c => c.any (holdsB x y)
def evalB (n : Int) (ll : List (List Int)) (x y : Nat) : Bool := decide (theoryErr n ll = 0) && (assignB x y n && clausesB ll x y)

/-- A set with one more variable. -/
def addVar (v : Nat) (s : Nat × Nat) : Nat × Nat := if v ≤ 64 then (s.1 + 2 ^ (v - 1), s.2) else (s.1, s.2 + 2 ^ (v - 65))
/-- The assignment with number k, of the variables 1 to v, added to a set. -/
def assignF : Nat → Nat → Nat × Nat → Nat × Nat
  | 0, _, s => s
  | v + 1, k, s => assignF v (k / 2) (if k % 2 = 1 then addVar (v + 1) s else s)
def assign (k n : Nat) : Nat × Nat := assignF n k (0, 0)
/-- Only variables beyond v, up to 128. -/
def Beyond (v : Nat) (s : Nat × Nat) : Prop := s.1 < 2 ^ 64 ∧ s.2 < 2 ^ 64 ∧ (v < 64 → s.1 % 2 ^ v = 0) ∧ (64 ≤ v → s.1 = 0 ∧ s.2 % 2 ^ (v - 64) = 0)
theorem Beyond.zero (v : Nat) : Beyond v (0, 0) := ⟨by decide, by decide, by simp, by simp⟩
theorem join_bit {x i n : Nat} (hx : x % 2 ^ (i + 1) = 0) (hn : x < 2 ^ n) (hi : i < n) : x + 2 ^ i < 2 ^ n ∧ ∀ j, (x + 2 ^ i).testBit j = (x.testBit j || decide (i = j)) := by
  have e : x ||| 2 ^ i = x + 2 ^ i := nat_join (i + 1) x (2 ^ i) hx (Nat.pow_lt_pow_right (by decide) (by omega))
  rw [← e]
  exact ⟨Nat.or_lt_two_pow hn (Nat.pow_lt_pow_right (by decide) hi), fun j => by rw [Nat.testBit_or, Nat.testBit_two_pow]⟩
theorem mod_two_pow_down {x i j : Nat} (h : x % 2 ^ i = 0) (hj : j ≤ i) : x % 2 ^ j = 0 := by
  obtain ⟨c, rfl⟩ := Nat.dvd_of_mod_eq_zero h
  obtain ⟨d, rfl⟩ := Nat.exists_eq_add_of_le hj
  rw [Nat.pow_add, Nat.mul_assoc]
  exact Nat.mul_mod_right _ _
theorem Beyond.down {v : Nat} {s : Nat × Nat} (h : Beyond (v + 1) s) : Beyond v s := by
  obtain ⟨h1, h2, h3, h4⟩ := h
  refine ⟨h1, h2, fun hv => ?_, fun hv => ⟨(h4 (by omega)).1, mod_two_pow_down (h4 (by omega)).2 (by omega)⟩⟩
  by_cases h : v + 1 < 64
  · exact mod_two_pow_down (h3 h) (by omega)
  · rw [(h4 (by omega)).1]; simp
theorem addVar_beyond {v : Nat} {s : Nat × Nat} (h : Beyond (v + 1) s) (hv : v < 128) : Beyond v (addVar (v + 1) s) := by
  have hd := h.down
  obtain ⟨h1, h2, h3, h4⟩ := h
  unfold addVar
  split
  · rename_i hle
    have hx : s.1 % 2 ^ (v + 1) = 0 := by
      by_cases h : v + 1 < 64
      · exact h3 h
      · rw [(h4 (by omega)).1]; simp
    have hj := join_bit hx h1 (by omega)
    refine ⟨by simpa using hj.1, h2, fun _ => ?_, fun h => by omega⟩
    simp only [Nat.add_sub_cancel]
    have := mod_two_pow_down hx (show v ≤ v + 1 by omega)
    rw [Nat.add_mod, this]; simp
  · rename_i hle
    obtain ⟨e0, e1⟩ := h4 (by omega)
    have hx : s.2 % 2 ^ ((v - 64) + 1) = 0 := by rw [show (v - 64) + 1 = v + 1 - 64 by omega]; exact e1
    have hj := join_bit hx h2 (by omega)
    refine ⟨h1, by simpa [show v + 1 - 65 = v - 64 by omega] using hj.1, fun h => by omega, fun _ => ⟨e0, ?_⟩⟩
    have := mod_two_pow_down hx (show v - 64 ≤ v - 64 + 1 by omega)
    simp only [show v + 1 - 65 = v - 64 by omega]
    rw [Nat.add_mod, this]; simp
theorem hasB_addVar {v : Nat} {s : Nat × Nat} (h : Beyond (v + 1) s) (hv : v < 128) (u : Int) :
    hasB (addVar (v + 1) s).1 (addVar (v + 1) s).2 u = (hasB s.1 s.2 u || decide (u = v + 1)) := by
  obtain ⟨h1, h2, h3, h4⟩ := h
  by_cases hu : 1 ≤ u
  · by_cases hu2 : u ≤ 128
    · unfold addVar
      split
      · rename_i hle
        have hx : s.1 % 2 ^ (v + 1) = 0 := by
          by_cases h : v + 1 < 64
          · exact h3 h
          · rw [(h4 (by omega)).1]; simp
        have hj := (join_bit hx h1 (show v < 64 by omega)).2
        by_cases hu3 : u ≤ 64
        · rw [hasB_fst _ _ hu hu3, hasB_fst _ _ hu hu3]
          simp only [Nat.add_sub_cancel]
          rw [hj]
          congr 1
          rw [decide_eq_decide]; omega
        · rw [hasB_snd _ _ hu2 hu3, hasB_snd _ _ hu2 hu3, decide_eq_false (by omega), Bool.or_false]
      · rename_i hle
        obtain ⟨e0, e1⟩ := h4 (by omega)
        have hx : s.2 % 2 ^ ((v - 64) + 1) = 0 := by rw [show (v - 64) + 1 = v + 1 - 64 by omega]; exact e1
        have hj := (join_bit hx h2 (show v - 64 < 64 by omega)).2
        by_cases hu3 : u ≤ 64
        · rw [hasB_fst _ _ hu hu3, hasB_fst _ _ hu hu3, decide_eq_false (by omega), Bool.or_false]
        · rw [hasB_snd _ _ hu2 hu3, hasB_snd _ _ hu2 hu3]
          simp only [show v + 1 - 65 = v - 64 by omega]
          rw [hj]
          congr 1
          rw [decide_eq_decide]; omega
    · rw [hasB_high _ _ hu2, hasB_high _ _ hu2, decide_eq_false (by omega)]; rfl
  · rw [hasB_low _ _ hu, hasB_low _ _ hu, decide_eq_false (by omega)]; rfl
theorem assignF_spec : ∀ (v k : Nat) (s : Nat × Nat), v ≤ 128 → Beyond v s → Beyond 0 (assignF v k s) ∧
    ∀ u : Int, hasB (assignF v k s).1 (assignF v k s).2 u = (hasB s.1 s.2 u || (decide (1 ≤ u) && decide (u ≤ v) && k.testBit (v - u.toNat)))
  | 0, k, s, _, h => ⟨h, fun u => by simp only [assignF]; rw [show (decide (1 ≤ u) && decide (u ≤ ((0 : Nat) : Int))) = false by simp; omega]; simp⟩
  | v + 1, k, s, hv, h => by
    have hb : Beyond v (if k % 2 = 1 then addVar (v + 1) s else s) := by
      split
      · exact addVar_beyond h (by omega)
      · exact h.down
    obtain ⟨i1, i2⟩ := assignF_spec v (k / 2) _ (by omega) hb
    refine ⟨i1, fun u => ?_⟩
    simp only [assignF]
    rw [i2 u]
    have e1 : hasB (if k % 2 = 1 then addVar (v + 1) s else s).1 (if k % 2 = 1 then addVar (v + 1) s else s).2 u = (hasB s.1 s.2 u || (decide (k % 2 = 1) && decide (u = v + 1))) := by
      split
      · rename_i hk; rw [hasB_addVar h (by omega), hk]; simp
      · rename_i hk; simp [hk]
    rw [e1, Bool.or_assoc]
    congr 1
    by_cases hu : u = v + 1
    · subst hu
      have : ((v : Int) + 1).toNat = v + 1 := by omega
      rw [this, Nat.sub_self, Nat.testBit_zero, decide_eq_true (show (v : Int) + 1 = v + 1 from rfl), decide_eq_false (show ¬ ((v : Int) + 1 ≤ v) by omega), decide_eq_true (show (1 : Int) ≤ (v : Int) + 1 by omega), decide_eq_true (show (v : Int) + 1 ≤ ((v + 1 : Nat) : Int) by omega)]
      simp
    · by_cases h1 : 1 ≤ u
      · by_cases h2 : u ≤ v
        · rw [decide_eq_false hu, decide_eq_true h1, decide_eq_true h2, decide_eq_true (show u ≤ ((v + 1 : Nat) : Int) by omega), Nat.testBit_div_two]
          rw [show v - u.toNat + 1 = v + 1 - u.toNat by omega]; simp
        · rw [decide_eq_false hu, decide_eq_false h2, decide_eq_false (show ¬ u ≤ ((v + 1 : Nat) : Int) by omega)]; simp
      · rw [decide_eq_false hu, decide_eq_false h1]; simp
theorem hasB_assign {k n : Nat} (hn : n ≤ 128) (u : Int) : hasB (assign k n).1 (assign k n).2 u = (decide (1 ≤ u) && decide (u ≤ n) && k.testBit (n - u.toNat)) := by
  unfold assign
  rw [(assignF_spec n k (0, 0) hn (Beyond.zero _)).2 u]
  have : hasB 0 0 u = false := by unfold hasB; split <;> simp
  rw [this, Bool.false_or]
theorem assign_lt {k n : Nat} (hn : n ≤ 128) : (assign k n).1 < 2 ^ 64 ∧ (assign k n).2 < 2 ^ 64 :=
  let h := (assignF_spec n k (0, 0) hn (Beyond.zero _)).1
  ⟨h.1, h.2.1⟩
/-- A set is known by what is in it. -/
theorem set_ext {x y x' y' : Nat} (hx : x < 2 ^ 64) (hy : y < 2 ^ 64) (hx' : x' < 2 ^ 64) (hy' : y' < 2 ^ 64) (h : ∀ u : Int, 1 ≤ u → u ≤ 128 → hasB x y u = hasB x' y' u) : x = x' ∧ y = y' := by
  constructor
  · apply Nat.eq_of_testBit_eq
    intro i
    by_cases hi : i < 64
    · have := h ((i : Int) + 1) (by omega) (by omega)
      rw [hasB_fst _ _ (by omega) (by omega), hasB_fst _ _ (by omega) (by omega)] at this
      rwa [show ((((i : Int) + 1) - 1) % 64).toNat = i by omega] at this
    · rw [Nat.testBit_lt_two_pow (Nat.lt_of_lt_of_le hx (Nat.pow_le_pow_right (by decide) (by omega))), Nat.testBit_lt_two_pow (Nat.lt_of_lt_of_le hx' (Nat.pow_le_pow_right (by decide) (by omega)))]
  · apply Nat.eq_of_testBit_eq
    intro i
    by_cases hi : i < 64
    · have := h ((i : Int) + 65) (by omega) (by omega)
      rw [hasB_snd _ _ (by omega) (by omega), hasB_snd _ _ (by omega) (by omega)] at this
      rwa [show ((((i : Int) + 65) - 1) % 64).toNat = i by omega] at this
    · rw [Nat.testBit_lt_two_pow (Nat.lt_of_lt_of_le hy (Nat.pow_le_pow_right (by decide) (by omega))), Nat.testBit_lt_two_pow (Nat.lt_of_lt_of_le hy' (Nat.pow_le_pow_right (by decide) (by omega)))]

/-- The models, in order. -/
def modelsL (n : Nat) (ll : List (List Int)) : List (Nat × Nat) := ((List.range (2 ^ n)).map fun k => assign k n).filter fun s => evalB n ll s.1 s.2
/-- The least model under assumptions. -/
def least (n : Nat) (ll : List (List Int)) (l : List Int) : Option (Nat × Nat) := (modelsL n ll).find? fun s => l.all (holdsB s.1 s.2)
/-- The error of a theory with literals. -/
def searchErr (n : Int) (ll : List (List Int)) (l : List Int) : Int := if theoryErr n ll = 0 then (if l.all (litValid · n) then 0 else 1) else theoryErr n ll
/-- What contradictory assumptions are reduced to: one after the other is left out if there is no model all the same. -/
def coreF (sat : List Int → Bool) : Nat → List Int → Nat → List Int
  | 0, l, _ => l
  | k + 1, l, i => if i < l.length then (if sat (l.eraseIdx i) then coreF sat k l (i + 1) else coreF sat k (l.eraseIdx i) i) else l
theorem coreF_yes {sat : List Int → Bool} {l : List Int} {i : Nat} (hi : i < l.length) (h : sat (l.eraseIdx i) = true) : coreF sat (l.length - i) l i = coreF sat (l.length - (i + 1)) l (i + 1) := by
  rw [show l.length - i = (l.length - (i + 1)) + 1 by omega]
  simp only [coreF, hi, h, if_true]
theorem coreF_no {sat : List Int → Bool} {l : List Int} {i : Nat} (hi : i < l.length) (h : sat (l.eraseIdx i) = false) : coreF sat (l.length - i) l i = coreF sat ((l.eraseIdx i).length - i) (l.eraseIdx i) i := by
  rw [List.length_eraseIdx_of_lt hi, show l.length - i = (l.length - 1 - i) + 1 by omega]
  simp only [coreF, hi, h, if_true]
  simp
theorem coreF_end {sat : List Int → Bool} {l : List Int} {i : Nat} (hi : ¬ i < l.length) : coreF sat (l.length - i) l i = l := by
  rw [show l.length - i = 0 by omega]; rfl
def satB (n : Nat) (ll : List (List Int)) (l : List Int) : Bool := (least n ll l).isSome
def coreL (n : Nat) (ll : List (List Int)) (l : List Int) : List Int := coreF (satB n ll) l.length l 0
/-- Is a clause true in all models? -/
def entailsB (n : Nat) (ll : List (List Int)) (l : List Int) : Bool := (modelsL n ll).all fun s => l.any (holdsB s.1 s.2)
end Go.Proofs.Yteagoaiiacideaa
/- Unit propagation, plainly: trails, clauses that are false or unit, what follows at a level, trails of decisions. No Go in sight. -/
namespace Go.Proofs.Yteagoaiiacideaa
set_option linter.unusedSimpArgs false
set_option linter.unusedVariables false
open Go.RowKit
/-- A step of a trail: its literal, its reason, its level. -/
structure St where
  lit : Int
  why : Int
  lev : Int
deriving DecidableEq
instance : Inhabited St := ⟨⟨0, 0, 0⟩⟩
def trueT (tr : List St) (x : Int) : Bool := tr.any fun s => s.lit == x
def openT (tr : List St) (x : Int) : Bool := !trueT tr x && !trueT tr (-x)
def falseT (tr : List St) (c : List Int) : Bool := c.all fun y => trueT tr (-y)
def unitF (tr : List St) : List Int → Int → Int
  | [], x => x
  | y :: t, x => if trueT tr y = true then 0 else if openT tr y = true then (if x ≠ 0 ∧ x ≠ y then 0 else unitF tr t y) else unitF tr t x
def unitT (tr : List St) (c : List Int) : Int := unitF tr c 0
def liveT (tr : List St) (c : List Int) : Bool := falseT tr c || unitT tr c != 0
def firstT (ll : List (List Int)) (tr : List St) : Option Nat := ll.findIdx? (liveT tr)
theorem or_true {a b : Bool} (h : (a || b) = true) : a = true ∨ b = true := by cases a <;> simp_all
theorem trueT_append (tr : List St) (s : St) (x : Int) : trueT (tr ++ [s]) x = (trueT tr x || s.lit == x) := by
  simp [trueT, List.any_append]
theorem trueT_iff {tr : List St} {x : Int} : trueT tr x = true ↔ ∃ s ∈ tr, s.lit = x := by
  unfold trueT; rw [List.any_eq_true]; simp
theorem trueT_nil (x : Int) : trueT [] x = false := rfl
theorem openT_iff {tr : List St} {x : Int} : openT tr x = true ↔ trueT tr x = false ∧ trueT tr (-x) = false := by
  unfold openT; simp
theorem firstT_none {ll : List (List Int)} {tr : List St} (h : ∀ j, j < ll.length → liveT tr (ll.getD j []) = false) : firstT ll tr = none := by
  unfold firstT
  rw [List.findIdx?_eq_none_iff]
  intro c hc
  obtain ⟨j, hj, rfl⟩ := List.getElem_of_mem hc
  have := h j hj
  rwa [getD_getElem hj] at this
theorem firstT_some {ll : List (List Int)} {tr : List St} {k : Nat} (hk : k < ll.length) (h : ∀ j, j < k → liveT tr (ll.getD j []) = false) (hl : liveT tr (ll.getD k []) = true) : firstT ll tr = some k := by
  unfold firstT
  rw [List.findIdx?_eq_some_iff_getElem]
  refine ⟨hk, by rwa [getD_getElem hk] at hl, fun j hj => ?_⟩
  have := h j hj
  rw [getD_getElem (by omega)] at this
  simp [this]
theorem firstT_no {ll : List (List Int)} {tr : List St} (h : firstT ll tr = none) : ∀ c ∈ ll, liveT tr c = false := by
  unfold firstT at h
  rwa [List.findIdx?_eq_none_iff] at h
theorem firstT_yes {ll : List (List Int)} {tr : List St} {k : Nat} (h : firstT ll tr = some k) : k < ll.length ∧ liveT tr (ll.getD k []) = true := by
  unfold firstT at h
  rw [List.findIdx?_eq_some_iff_getElem] at h
  obtain ⟨hk, h1, _⟩ := h
  exact ⟨hk, by rwa [getD_getElem hk]⟩
/-- What follows at a level: the trail, and the conflict, or -1. -/
def propF (ll : List (List Int)) : Nat → List St → Int → List St × Int
  | 0, tr, _ => (tr, -1)
  | f + 1, tr, lev => match firstT ll tr with
    | none => (tr, -1)
    | some i => if falseT tr (ll.getD i []) = true then (tr, (i : Int)) else propF ll f (tr ++ [⟨unitT tr (ll.getD i []), i, lev⟩]) lev
def propL (ll : List (List Int)) (tr : List St) (lev : Int) : List St × Int := propF ll (300 - tr.length) tr lev
theorem prop_none {ll : List (List Int)} {tr : List St} {lev : Int} (h : firstT ll tr = none) : propL ll tr lev = (tr, -1) := by
  unfold propL
  cases 300 - tr.length with
  | zero => rfl
  | succ f => simp only [propF, h]
theorem prop_false {ll : List (List Int)} {tr : List St} {lev : Int} {k : Nat} (hl : tr.length < 300) (h : firstT ll tr = some k) (hf : falseT tr (ll.getD k []) = true) : propL ll tr lev = (tr, (k : Int)) := by
  unfold propL
  obtain ⟨f, hf'⟩ : ∃ f, 300 - tr.length = f + 1 := ⟨299 - tr.length, by omega⟩
  rw [hf']
  simp only [propF, h, hf, if_true]
theorem prop_step {ll : List (List Int)} {tr : List St} {lev : Int} {k : Nat} (hl : tr.length < 300) (h : firstT ll tr = some k) (hf : falseT tr (ll.getD k []) = false) :
    propL ll tr lev = propL ll (tr ++ [⟨unitT tr (ll.getD k []), k, lev⟩]) lev := by
  unfold propL
  rw [List.length_append]
  obtain ⟨f, hf'⟩ : ∃ f, 300 - tr.length = f + 1 := ⟨299 - tr.length, by omega⟩
  rw [hf', show 300 - (tr.length + [(⟨unitT tr (ll.getD k []), k, lev⟩ : St)].length) = f by simp; omega]
  simp only [propF, h, hf, Bool.false_eq_true, if_false]
/-- The trail of decisions; none: one of them is false already. -/
def trailF (ll : List (List Int)) : List Int → Nat → List St × Int → Option (List St × Int)
  | [], _, s => some s
  | d :: ds, i, s => if 0 ≤ s.2 then some s else if trueT s.1 (-d) = true then none else trailF ll ds (i + 1) (propL ll (if trueT s.1 d = true then s.1 else s.1 ++ [⟨d, -1, (i : Int) + 1⟩]) ((i : Int) + 1))
def trailO (ll : List (List Int)) (ds : List Int) : Option (List St × Int) := trailF ll ds 0 (propL ll [] 0)
/-- Can a trail be asked for? -/
def askB (n : Int) (ll : List (List Int)) (ds : List Int) : Bool := decide (theoryErr n ll = 0) && ds.all (litValid · n)
def trailL (n : Int) (ll : List (List Int)) (ds : List Int) : List St := if askB n ll ds then (match trailO ll ds with | some s => s.1 | none => []) else []
def trailC (n : Int) (ll : List (List Int)) (ds : List Int) : Int := if askB n ll ds then (match trailO ll ds with | some s => s.2 | none => 0) else 0
def trailE (n : Int) (ll : List (List Int)) (ds : List Int) : Int := if askB n ll ds then (match trailO ll ds with | some _ => 0 | none => 8) else 1
/-- The closure of a term. -/
def closB (n : Int) (ll : List (List Int)) (ds : List Int) : Bool := decide (trailE n ll ds = 0) && decide (trailC n ll ds < 0)
def closL (n : Int) (ll : List (List Int)) (ds : List Int) : List Int := if closB n ll ds then orderL ((trailL n ll ds).map St.lit) else []

/-- A trail whose literals are valid, of distinct variables. -/
structure Good (n : Int) (tr : List St) : Prop where
  val : ∀ s ∈ tr, litValid s.lit n = true
  con : ∀ x, trueT tr x = true → trueT tr (-x) = false
  nod : (tr.map St.lit).Nodup
theorem Good.nil (n : Int) : Good n [] := ⟨fun s hs => (by cases hs), fun x hx => (by cases hx), by simp⟩
theorem Good.add {n : Int} {tr : List St} (h : Good n tr) {s : St} (hv : litValid s.lit n = true) (ho : openT tr s.lit = true) : Good n (tr ++ [s]) := by
  obtain ⟨o1, o2⟩ := openT_iff.1 ho
  refine ⟨fun t ht => ?_, fun x hx => ?_, ?_⟩
  · rw [List.mem_append, List.mem_singleton] at ht
    rcases ht with ht | rfl
    · exact h.val t ht
    · exact hv
  · rw [trueT_append] at hx ⊢
    have hs0 : s.lit ≠ 0 := ((litValid_iff _ _).1 hv).1
    rcases or_true hx with hx | hx
    · rw [h.con x hx, Bool.false_or, beq_eq_false_iff_ne]
      intro e
      rw [e, Int.neg_neg, hx] at o2; cases o2
    · rw [beq_iff_eq] at hx
      subst hx
      rw [o2, Bool.false_or, beq_eq_false_iff_ne]; omega
  · rw [List.map_append, List.nodup_append]
    refine ⟨h.nod, by simp, fun a ha b hb => ?_⟩
    simp only [List.map_cons, List.map_nil, List.mem_singleton] at hb
    subst hb
    rintro rfl
    obtain ⟨t, ht, e⟩ := List.mem_map.1 ha
    have : trueT tr s.lit = true := trueT_iff.2 ⟨t, ht, e⟩
    rw [o1] at this; cases this
theorem len_le_of_sub : ∀ (l L : List Int), l.Nodup → (∀ x ∈ l, x ∈ L) → l.length ≤ L.length
  | [], _, _, _ => Nat.zero_le _
  | x :: t, L, h, hs => by
    have hx := hs x (by simp)
    obtain ⟨h1, h2⟩ := List.nodup_cons.1 h
    have ih := len_le_of_sub t (L.erase x) h2 (fun y hy => (List.mem_erase_of_ne (by rintro rfl; exact h1 hy)).2 (hs y (by simp [hy])))
    have e := List.length_erase_of_mem hx
    have := List.length_pos_of_mem hx
    simp only [List.length_cons]; omega
theorem Good.length {n : Int} {tr : List St} (h : Good n tr) : tr.length ≤ 257 := by
  have := len_le_of_sub (tr.map St.lit) ((List.range 257).map fun (k : Nat) => (k : Int) - 128) h.nod (fun x hx => by
    obtain ⟨s, hs, rfl⟩ := List.mem_map.1 hx
    have := (litValid_iff _ _).1 (h.val s hs)
    refine List.mem_map.2 ⟨(s.lit + 128).toNat, List.mem_range.2 (by omega), by omega⟩)
  simpa using this
theorem Good.zero {n : Int} {tr : List St} (h : Good n tr) : trueT tr 0 = false := by
  rw [Bool.eq_false_iff]
  intro e
  obtain ⟨s, hs, e⟩ := trueT_iff.1 e
  have := (litValid_iff _ _).1 (h.val s hs)
  omega
/-- What a unit clause hands out: one of its literals, open; the others are false. -/
theorem unitF_spec {tr : List St} : ∀ (c : List Int) (x : Int), (∀ y ∈ c, y ≠ 0) → unitF tr c x ≠ 0 → (x ≠ 0 → openT tr x = true) →
    (unitF tr c x = x ∨ unitF tr c x ∈ c) ∧ openT tr (unitF tr c x) = true ∧ (x ≠ 0 → unitF tr c x = x) ∧ ∀ y ∈ c, y ≠ unitF tr c x → trueT tr (-y) = true
  | [], x, _, h, hx => by
    simp only [unitF] at h ⊢
    exact ⟨.inl trivial, hx h, fun _ => trivial, fun y hy => by cases hy⟩
  | y :: t, x, hc, h, hx => by
    have hy0 : y ≠ 0 := hc y List.mem_cons_self
    have hc' : ∀ z ∈ t, z ≠ 0 := fun z hz => hc z (List.mem_cons_of_mem _ hz)
    simp only [unitF] at h ⊢
    by_cases h1 : trueT tr y = true
    · rw [if_pos h1] at h; exact absurd rfl h
    rw [if_neg h1] at h ⊢
    by_cases h2 : openT tr y = true
    · rw [if_pos h2] at h ⊢
      by_cases h3 : x ≠ 0 ∧ x ≠ y
      · rw [if_pos h3] at h; exact absurd rfl h
      rw [if_neg h3] at h ⊢
      obtain ⟨i1, i2, i3, i4⟩ := unitF_spec t y hc' h (fun _ => h2)
      have e := i3 hy0
      refine ⟨.inr (by rw [e]; exact List.mem_cons_self), i2, fun hx0 => by rw [e]; omega, fun z hz hne => ?_⟩
      rcases List.mem_cons.1 hz with rfl | hz
      · exact absurd e.symm hne
      · exact i4 z hz hne
    · rw [if_neg h2] at h ⊢
      obtain ⟨i1, i2, i3, i4⟩ := unitF_spec t x hc' h hx
      refine ⟨i1.imp id (List.mem_cons_of_mem _), i2, i3, fun z hz hne => ?_⟩
      rcases List.mem_cons.1 hz with rfl | hz
      · unfold openT at h2
        simp only [Bool.and_eq_true, Bool.not_eq_true', not_and] at h2
        have h1' : trueT tr z = false := by simpa using h1
        have := h2 h1'
        simpa using this
      · exact i4 z hz hne
theorem unitT_spec {tr : List St} {c : List Int} (hc : ∀ y ∈ c, y ≠ 0) (h : unitT tr c ≠ 0) : unitT tr c ∈ c ∧ openT tr (unitT tr c) = true ∧ ∀ y ∈ c, y ≠ unitT tr c → trueT tr (-y) = true := by
  obtain ⟨i1, i2, _, i4⟩ := unitF_spec c 0 hc h (fun e => absurd rfl e)
  refine ⟨i1.resolve_left h, i2, i4⟩
/-- Looked through once, as the program does it: none: true, or two open ones; otherwise the open one, or 0. -/
def scanF (tr : List St) : List Int → Int → Option Int
  | [], x => some x
  | y :: t, x => if trueT tr y = true then none else if trueT tr (-y) = true ∨ y = x then scanF tr t x else if x = 0 then scanF tr t y else none
theorem scan_unit {tr : List St} : ∀ (c : List Int) (x : Int), (∀ y ∈ c, y ≠ 0) → (x ≠ 0 → openT tr x = true) → unitF tr c x = (scanF tr c x).getD 0
  | [], x, _, _ => rfl
  | y :: t, x, hc, hx => by
    have hy0 : y ≠ 0 := hc y List.mem_cons_self
    have hc' : ∀ z ∈ t, z ≠ 0 := fun z hz => hc z (List.mem_cons_of_mem _ hz)
    simp only [unitF, scanF]
    by_cases h1 : trueT tr y = true
    · rw [if_pos h1, if_pos h1]; rfl
    rw [if_neg h1, if_neg h1]
    by_cases h2 : trueT tr (-y) = true
    · have : ¬ openT tr y = true := by rw [openT_iff, h2]; simp
      rw [if_neg this, if_pos (.inl h2)]
      exact scan_unit t x hc' hx
    · have ho : openT tr y = true := by rw [openT_iff]; exact ⟨by simpa using h1, by simpa using h2⟩
      rw [if_pos ho]
      by_cases h3 : y = x
      · subst h3
        rw [if_neg (by simp), if_pos (.inr rfl)]
        exact scan_unit t y hc' hx
      · have e2 : ¬ (trueT tr (-y) = true ∨ y = x) := fun h => h.elim h2 h3
        rw [if_neg e2]
        by_cases h4 : x = 0
        · rw [if_neg (by simp [h4]), if_pos h4]
          exact scan_unit t y hc' (fun _ => ho)
        · rw [if_pos ⟨h4, fun e => h3 e.symm⟩, if_neg h4]; rfl
theorem scan_zero {tr : List St} : ∀ (c : List Int) (x : Int), (∀ y ∈ c, y ≠ 0) → scanF tr c x = some 0 → x = 0 ∧ ∀ y ∈ c, trueT tr (-y) = true
  | [], x, _, h => by
    simp only [scanF, Option.some.injEq] at h
    exact ⟨h, fun y hy => by cases hy⟩
  | y :: t, x, hc, h => by
    have hy0 : y ≠ 0 := hc y List.mem_cons_self
    have hc' : ∀ z ∈ t, z ≠ 0 := fun z hz => hc z (List.mem_cons_of_mem _ hz)
    simp only [scanF] at h
    by_cases h1 : trueT tr y = true
    · rw [if_pos h1] at h; cases h
    rw [if_neg h1] at h
    by_cases h2 : trueT tr (-y) = true ∨ y = x
    · rw [if_pos h2] at h
      obtain ⟨i1, i2⟩ := scan_zero t x hc' h
      refine ⟨i1, fun z hz => ?_⟩
      rcases List.mem_cons.1 hz with rfl | hz
      · rcases h2 with h2 | h2
        · exact h2
        · omega
      · exact i2 z hz
    · rw [if_neg h2] at h
      by_cases h4 : x = 0
      · rw [if_pos h4] at h
        exact absurd (scan_zero t y hc' h).1 hy0
      · rw [if_neg h4] at h; cases h
theorem scan_false {tr : List St} (hcon : ∀ x, trueT tr x = true → trueT tr (-x) = false) : ∀ (c : List Int), (∀ y ∈ c, trueT tr (-y) = true) → scanF tr c 0 = some 0
  | [], _ => rfl
  | y :: t, h => by
    have hy := h y List.mem_cons_self
    have : ¬ trueT tr y = true := fun e => by have := hcon y e; rw [hy] at this; cases this
    simp only [scanF]
    rw [if_neg this, if_pos (.inl hy)]
    exact scan_false hcon t fun z hz => h z (List.mem_cons_of_mem _ hz)
/-- What the program's look at a clause says. -/
theorem scan_none {n : Int} {tr : List St} (hg : Good n tr) {c : List Int} (hc : ∀ y ∈ c, y ≠ 0) (h : scanF tr c 0 = none) : liveT tr c = false := by
  have e := scan_unit c 0 hc (tr := tr) (fun e => absurd rfl e)
  rw [h] at e
  unfold liveT unitT
  rw [e]
  have : falseT tr c = false := by
    rw [Bool.eq_false_iff]
    intro hf
    have := scan_false hg.con c (List.all_eq_true.1 hf)
    rw [h] at this; cases this
  rw [this]; rfl
theorem scan_some {n : Int} {tr : List St} (hg : Good n tr) {c : List Int} (hc : ∀ y ∈ c, y ≠ 0) {x : Int} (h : scanF tr c 0 = some x) :
    liveT tr c = true ∧ falseT tr c = decide (x = 0) ∧ unitT tr c = x := by
  have e := scan_unit c 0 hc (tr := tr) (fun e => absurd rfl e)
  rw [h] at e
  have e' : unitT tr c = x := e
  by_cases hx : x = 0
  · subst hx
    have hf : falseT tr c = true := List.all_eq_true.2 (scan_zero c 0 hc h).2
    refine ⟨?_, ?_, e'⟩
    · unfold liveT; rw [hf]; rfl
    · rw [hf]; rfl
  · have hf : falseT tr c = false := by
      rw [Bool.eq_false_iff]
      intro hf
      have := scan_false hg.con c (List.all_eq_true.1 hf)
      rw [h] at this; cases this; exact hx rfl
    refine ⟨?_, ?_, e'⟩
    · unfold liveT; rw [e']; simp [hx]
    · rw [hf]; simp [hx]
/-- A step of propagation keeps a trail good. -/
theorem Good.step {n : Int} {ll : List (List Int)} {tr : List St} (h : Good n tr) (ht : theoryErr n ll = 0) {k : Nat} {why lev : Int} (hf : firstT ll tr = some k) (hn : falseT tr (ll.getD k []) = false) :
    Good n (tr ++ [⟨unitT tr (ll.getD k []), why, lev⟩]) ∧ unitT tr (ll.getD k []) ≠ 0 ∧ unitT tr (ll.getD k []) ∈ ll.getD k [] := by
  obtain ⟨hk, hl⟩ := firstT_yes hf
  have hm : ll.getD k [] ∈ ll := by rw [getD_getElem hk]; exact List.getElem_mem hk
  have hv := ((theoryErr_zero ht).2.2.2 _ hm).2
  have hc : ∀ y ∈ ll.getD k [], y ≠ 0 := fun y hy => ((litValid_iff _ _).1 (hv y hy)).1
  have hu : unitT tr (ll.getD k []) ≠ 0 := by
    unfold liveT at hl
    rw [hn, Bool.false_or, bne_iff_ne] at hl
    exact hl
  obtain ⟨s1, s2, _⟩ := unitT_spec hc hu
  exact ⟨h.add (hv _ s1) s2, hu, s1⟩
end Go.Proofs.Yteagoaiiacideaa
/- Unit propagation, plainly: what holds of each trail: reasons, models, the end, closures as least closed sets. No Go in sight. -/
namespace Go.Proofs.Yteagoaiiacideaa
set_option linter.unusedSimpArgs false
set_option linter.unusedVariables false
open Go.RowKit
/-- How propagation ends: nothing is left, or a clause is false. -/
def EndOk (ll : List (List Int)) (s : List St × Int) : Prop := (s.2 = -1 ∧ firstT ll s.1 = none) ∨ ∃ k : Nat, s.2 = k ∧ k < ll.length ∧ falseT s.1 (ll.getD k []) = true
theorem prop_ind {n : Int} {ll : List (List Int)} (ht : theoryErr n ll = 0) {lev : Int} {P : List St → Prop}
    (hs : ∀ tr k, Good n tr → P tr → firstT ll tr = some k → falseT tr (ll.getD k []) = false → P (tr ++ [⟨unitT tr (ll.getD k []), (k : Nat), lev⟩])) :
    ∀ (m : Nat) (tr : List St), 300 - tr.length = m → Good n tr → P tr → Good n (propL ll tr lev).1 ∧ P (propL ll tr lev).1 ∧ EndOk ll (propL ll tr lev)
  | m, tr, hm, hg, hp => by
    have hlen := hg.length
    cases hf : firstT ll tr with
    | none => rw [prop_none hf]; exact ⟨hg, hp, .inl ⟨rfl, hf⟩⟩
    | some k =>
      cases hff : falseT tr (ll.getD k []) with
      | true => rw [prop_false (by omega) hf hff]; exact ⟨hg, hp, .inr ⟨k, rfl, (firstT_yes hf).1, hff⟩⟩
      | false =>
        rw [prop_step (by omega) hf hff]
        exact prop_ind ht hs (300 - (tr ++ [(⟨unitT tr (ll.getD k []), (k : Nat), lev⟩ : St)]).length) _ rfl (hg.step ht hf hff).1 (hs tr k hg hp hf hff)
  termination_by m => m
  decreasing_by simp only [List.length_append, List.length_cons, List.length_nil]; omega
theorem trail_ind {n : Int} {ll : List (List Int)} {ds : List Int} (ht : theoryErr n ll = 0) (hv : ∀ d ∈ ds, litValid d n = true) {P : Nat → List St → Prop} (h0 : P 0 [])
    (hs : ∀ i tr k, i ≤ ds.length → Good n tr → P i tr → firstT ll tr = some k → falseT tr (ll.getD k []) = false → P i (tr ++ [⟨unitT tr (ll.getD k []), (k : Nat), (i : Nat)⟩]))
    (hd : ∀ i tr, i < ds.length → Good n tr → P i tr → openT tr (ds.getD i 0) = true → P (i + 1) (tr ++ [⟨ds.getD i 0, -1, (i : Nat) + 1⟩]))
    (hk : ∀ i tr, i < ds.length → Good n tr → P i tr → trueT tr (ds.getD i 0) = true → P (i + 1) tr) :
    (∀ s, trailO ll ds = some s → ∃ i, i ≤ ds.length ∧ Good n s.1 ∧ P i s.1 ∧ EndOk ll s ∧ (s.2 < 0 → i = ds.length)) ∧
    (trailO ll ds = none → ∃ i tr, i < ds.length ∧ Good n tr ∧ P i tr ∧ trueT tr (-(ds.getD i 0)) = true) := by
  have key : ∀ (m i : Nat) (s : List St × Int), m = ds.length - i → i ≤ ds.length → Good n s.1 → P i s.1 → EndOk ll s →
      (∀ r, trailF ll (ds.drop i) i s = some r → ∃ i, i ≤ ds.length ∧ Good n r.1 ∧ P i r.1 ∧ EndOk ll r ∧ (r.2 < 0 → i = ds.length)) ∧
      (trailF ll (ds.drop i) i s = none → ∃ i tr, i < ds.length ∧ Good n tr ∧ P i tr ∧ trueT tr (-(ds.getD i 0)) = true) := by
    intro m
    induction m with
    | zero =>
      intro i s hm hi hg hp he
      obtain rfl : i = ds.length := by omega
      rw [List.drop_length]
      simp only [trailF]
      exact ⟨fun r hr => by cases hr; exact ⟨ds.length, Nat.le_refl _, hg, hp, he, fun _ => rfl⟩, fun h => by cases h⟩
    | succ m ih =>
      intro i s hm hi hg hp he
      have hlt : i < ds.length := by omega
      rw [List.drop_eq_getElem_cons hlt]
      have ed : ds.getD i 0 = ds[i] := getD_getElem hlt
      simp only [trailF]
      by_cases h1 : 0 ≤ s.2
      · rw [if_pos h1]
        exact ⟨fun r hr => by cases hr; exact ⟨i, hi, hg, hp, he, fun h => by omega⟩, fun h => by cases h⟩
      rw [if_neg h1]
      by_cases h2 : trueT s.1 (-ds[i]) = true
      · rw [if_pos h2]
        exact ⟨(fun r hr => by cases hr), fun _ => ⟨i, s.1, hlt, hg, hp, by rw [ed]; exact h2⟩⟩
      rw [if_neg h2]
      have hg2 : Good n (if trueT s.1 ds[i] = true then s.1 else s.1 ++ [⟨ds[i], -1, (i : Int) + 1⟩]) ∧ P (i + 1) (if trueT s.1 ds[i] = true then s.1 else s.1 ++ [⟨ds[i], -1, (i : Int) + 1⟩]) := by
        by_cases h3 : trueT s.1 ds[i] = true
        · rw [if_pos h3]; exact ⟨hg, hk i s.1 hlt hg hp (by rw [ed]; exact h3)⟩
        · have ho : openT s.1 ds[i] = true := by rw [openT_iff]; exact ⟨by simpa using h3, by simpa using h2⟩
          rw [if_neg h3]
          exact ⟨hg.add (hv _ (List.getElem_mem hlt)) ho, by have := hd i s.1 hlt hg hp (by rw [ed]; exact ho); rwa [ed] at this⟩
      obtain ⟨q1, q2, q3⟩ := prop_ind ht (lev := (i : Int) + 1) (P := P (i + 1)) (fun tr k g p f x => by have := hs (i + 1) tr k hlt g p f x; simpa using this) _ _ rfl hg2.1 hg2.2
      exact ih (i + 1) _ (by omega) hlt q1 q2 q3
  obtain ⟨q1, q2, q3⟩ := prop_ind ht (lev := 0) (P := P 0) (fun tr k g p f x => hs 0 tr k (Nat.zero_le _) g p f x) _ [] rfl (Good.nil n) h0
  have := key ds.length 0 (propL ll [] 0) rfl (Nat.zero_le _) q1 q2 q3
  simpa [trailO] using this
theorem askB_iff {n : Int} {ll : List (List Int)} {ds : List Int} : askB n ll ds = true ↔ theoryErr n ll = 0 ∧ ∀ d ∈ ds, litValid d n = true := by
  unfold askB; rw [Bool.and_eq_true, decide_eq_true_eq, List.all_eq_true]
theorem trailE_zero {n : Int} {ll : List (List Int)} {ds : List Int} (h : trailE n ll ds = 0) : askB n ll ds = true ∧ trailO ll ds = some (trailL n ll ds, trailC n ll ds) := by
  unfold trailE at h
  unfold trailL trailC
  by_cases ha : askB n ll ds = true
  · rw [if_pos ha] at h
    cases ho : trailO ll ds with
    | none => rw [ho] at h; cases h
    | some s => rw [if_pos ha, if_pos ha]; exact ⟨ha, rfl⟩
  · rw [if_neg ha] at h; cases h
theorem trailE_of {n : Int} {ll : List (List Int)} {ds : List Int} {s : List St × Int} (ha : askB n ll ds = true) (ho : trailO ll ds = some s) : trailE n ll ds = 0 ∧ trailL n ll ds = s.1 ∧ trailC n ll ds = s.2 := by
  unfold trailE trailL trailC
  rw [if_pos ha, if_pos ha, if_pos ha, ho]
  exact ⟨rfl, rfl, rfl⟩
theorem trail_bad {n : Int} {ll : List (List Int)} {ds : List Int} (h : trailE n ll ds ≠ 0) : trailL n ll ds = [] ∧ trailC n ll ds = 0 := by
  unfold trailE at h
  unfold trailL trailC
  by_cases ha : askB n ll ds = true
  · rw [if_pos ha] at h
    rw [if_pos ha, if_pos ha]
    cases ho : trailO ll ds with
    | none => exact ⟨rfl, rfl⟩
    | some s => rw [ho] at h; exact absurd rfl h
  · rw [if_neg ha, if_neg ha]; exact ⟨rfl, rfl⟩
/-! ### Closures are least closed sets -/
def Shut (ll : List (List Int)) (S : Int → Prop) : Prop := ∀ c ∈ ll, ∀ x ∈ c, (∀ y ∈ c, y ≠ x → S (-y)) → S x
/-- A set that shows that a closure exists. -/
structure Fits (ll : List (List Int)) (ds : List Int) (S : Int → Prop) : Prop where
  shut : Shut ll S
  has : ∀ d ∈ ds, S d
  con : ∀ x, S x → ¬ S (-x)
  live : ∀ c ∈ ll, ¬ ∀ y ∈ c, S (-y)
theorem trail_sub {n : Int} {ll : List (List Int)} {ds : List Int} (ht : theoryErr n ll = 0) (hv : ∀ d ∈ ds, litValid d n = true) {S : Int → Prop} (hS : Shut ll S) (hd : ∀ d ∈ ds, S d) :
    (∀ s, trailO ll ds = some s → ∃ i, i ≤ ds.length ∧ Good n s.1 ∧ (∀ x, trueT s.1 x = true → S x) ∧ (∀ j, j < i → trueT s.1 (ds.getD j 0) = true) ∧ EndOk ll s ∧ (s.2 < 0 → i = ds.length)) ∧
    (trailO ll ds = none → ∃ d ∈ ds, S (-d)) := by
  have hm : ∀ i, i < ds.length → ds.getD i 0 ∈ ds := fun i hi => by rw [getD_getElem hi]; exact List.getElem_mem hi
  obtain ⟨k1, k2⟩ := trail_ind ht hv (P := fun i tr => (∀ x, trueT tr x = true → S x) ∧ ∀ j, j < i → trueT tr (ds.getD j 0) = true) ⟨fun x hx => (by cases hx), fun j hj => (by omega)⟩
    (fun i tr k hi hg ⟨p1, p2⟩ hf hn => ⟨fun x hx => by
      rw [trueT_append] at hx
      rcases or_true hx with hx | hx
      · exact p1 x hx
      · rw [beq_iff_eq] at hx
        obtain ⟨g1, g2, g3⟩ := hg.step ht (why := 0) (lev := 0) hf hn
        obtain ⟨hk, _⟩ := firstT_yes hf
        have hmem : ll.getD k [] ∈ ll := by rw [getD_getElem hk]; exact List.getElem_mem hk
        have hc : ∀ y ∈ ll.getD k [], y ≠ 0 := fun y hy => ((litValid_iff _ _).1 (((theoryErr_zero ht).2.2.2 _ hmem).2 y hy)).1
        rw [← hx]
        exact hS _ hmem _ g3 fun y hy hne => p1 _ ((unitT_spec hc g2).2.2 y hy hne), fun j hj => by rw [trueT_append, p2 j hj]; rfl⟩)
    (fun i tr hi hg ⟨p1, p2⟩ ho => ⟨fun x hx => by
      rw [trueT_append] at hx
      rcases or_true hx with hx | hx
      · exact p1 x hx
      · rw [beq_iff_eq] at hx
        rw [← hx]; exact hd _ (hm i hi), fun j hj => by
      rw [trueT_append]
      by_cases e : j = i
      · subst e; simp
      · rw [p2 j (by omega)]; rfl⟩)
    (fun i tr hi hg ⟨p1, p2⟩ ho => ⟨p1, fun j hj => by
      by_cases e : j = i
      · subst e; exact ho
      · exact p2 j (by omega)⟩)
  refine ⟨fun s hs => ?_, fun h => ?_⟩
  · obtain ⟨i, q1, q2, ⟨q3, q4⟩, q5, q6⟩ := k1 s hs
    exact ⟨i, q1, q2, q3, q4, q5, q6⟩
  · obtain ⟨i, tr, q1, _, ⟨q3, _⟩, q5⟩ := k2 h
    exact ⟨_, hm i q1, q3 _ q5⟩
/-- Where propagation is at its end, what is true is closed, and no clause is false. -/
theorem end_shut {n : Int} {ll : List (List Int)} {tr : List St} (ht : theoryErr n ll = 0) (hg : Good n tr) (h : firstT ll tr = none) :
    Shut ll (fun x => trueT tr x = true) ∧ ∀ c ∈ ll, ¬ ∀ y ∈ c, trueT tr (-y) = true := by
  have hl := firstT_no h
  have hlive : ∀ c ∈ ll, falseT tr c = false ∧ unitT tr c = 0 := fun c hc => by
    have := hl c hc
    unfold liveT at this
    rw [Bool.or_eq_false_iff] at this
    exact ⟨this.1, by simpa using this.2⟩
  have hno : ∀ c ∈ ll, ¬ ∀ y ∈ c, trueT tr (-y) = true := fun c hc h => by
    have := (hlive c hc).1
    unfold falseT at this
    rw [List.all_eq_true.2 h] at this; cases this
  refine ⟨fun c hc x hx hy => ?_, hno⟩
  have hcz : ∀ y ∈ c, y ≠ 0 := fun y hy => ((litValid_iff _ _).1 (((theoryErr_zero ht).2.2.2 _ hc).2 y hy)).1
  by_cases h1 : trueT tr x = true
  · exact h1
  exfalso
  by_cases h2 : trueT tr (-x) = true
  · exact hno c hc fun y hy' => by
      by_cases e : y = x
      · rw [e]; exact h2
      · exact hy y hy' e
  have ho : openT tr x = true := by rw [openT_iff]; exact ⟨by simpa using h1, by simpa using h2⟩
  have hu : unitT tr c = x := by
    have aux : ∀ (d : List Int) (z : Int), (∀ y ∈ d, y ≠ 0) → (z = 0 ∨ z = x) → (∀ y ∈ d, y ≠ x → trueT tr (-y) = true) → ((z = x) ∨ x ∈ d) → unitF tr d z = x := by
      intro d
      induction d with
      | nil =>
        intro z _ hz _ hx'
        simp only [unitF]
        rcases hx' with h | h
        · exact h
        · cases h
      | cons y t ih =>
        intro z hz0 hz hd hx'
        have hnt : ¬ trueT tr y = true := by
          by_cases e : y = x
          · rw [e]; exact h1
          · intro h
            have := hg.con y h
            rw [hd y List.mem_cons_self e] at this; cases this
        simp only [unitF]
        rw [if_neg hnt]
        by_cases e : y = x
        · subst e
          rw [if_pos ho, if_neg (by rcases hz with h | h <;> simp [h])]
          exact ih y (fun u hu => hz0 u (List.mem_cons_of_mem _ hu)) (.inr rfl) (fun u hu => hd u (List.mem_cons_of_mem _ hu)) (.inl rfl)
        · have hcl : ¬ openT tr y = true := by rw [openT_iff, hd y List.mem_cons_self e]; simp
          rw [if_neg hcl]
          refine ih z (fun u hu => hz0 u (List.mem_cons_of_mem _ hu)) hz (fun u hu => hd u (List.mem_cons_of_mem _ hu)) ?_
          rcases hx' with h | h
          · exact .inl h
          · rcases List.mem_cons.1 h with h | h
            · exact absurd h.symm e
            · exact .inr h
    exact aux c 0 hcz (.inl rfl) hy (.inr hx)
  have := (hlive c hc).2
  rw [hu] at this
  exact hcz x hx this
theorem clos_fits {n : Int} {ll : List (List Int)} {ds : List Int} (h : closB n ll ds = true) :
    Fits ll ds (fun x => trueT (trailL n ll ds) x = true) ∧ Good n (trailL n ll ds) ∧ ∀ S, Shut ll S → (∀ d ∈ ds, S d) → ∀ x, trueT (trailL n ll ds) x = true → S x := by
  unfold closB at h
  rw [Bool.and_eq_true, decide_eq_true_eq, decide_eq_true_eq] at h
  obtain ⟨he, hc⟩ := h
  obtain ⟨ha, ho⟩ := trailE_zero he
  obtain ⟨ht, hv⟩ := askB_iff.1 ha
  have key := fun S hS hd => (trail_sub (S := S) ht hv hS hd).1 _ ho
  obtain ⟨i, q1, q2, _, q4, q5, q6⟩ := key (fun _ => True) (fun _ _ _ _ _ => trivial) (fun _ _ => trivial)
  have hi := q6 hc
  have hf : firstT ll (trailL n ll ds) = none := by
    rcases q5 with ⟨_, q⟩ | ⟨k, q, _⟩
    · exact q
    · simp only at q; omega
  obtain ⟨s1, s2⟩ := end_shut ht q2 hf
  refine ⟨⟨s1, fun d hd => ?_, fun x hx hx' => ?_, s2⟩, q2, fun S hS hd x hx => ?_⟩
  · obtain ⟨j, hj, rfl⟩ := List.getElem_of_mem hd
    have := q4 j (by omega)
    rwa [getD_getElem hj] at this
  · have := q2.con x hx
    rw [hx'] at this; cases this
  · obtain ⟨_, _, _, q3, _⟩ := key S hS hd
    exact q3 x hx
theorem clos_of_fits {n : Int} {ll : List (List Int)} {ds : List Int} (ha : askB n ll ds = true) {S : Int → Prop} (h : Fits ll ds S) : closB n ll ds = true := by
  obtain ⟨ht, hv⟩ := askB_iff.1 ha
  obtain ⟨k1, k2⟩ := trail_sub (S := S) ht hv h.shut h.has
  cases ho : trailO ll ds with
  | none =>
    obtain ⟨d, hd, hs⟩ := k2 ho
    exact absurd hs (h.con d (h.has d hd))
  | some s =>
    obtain ⟨i, _, _, q3, _, q5, _⟩ := k1 s ho
    obtain ⟨e1, e2, e3⟩ := trailE_of ha ho
    unfold closB
    rw [e1, e3]
    rcases q5 with ⟨q, _⟩ | ⟨k, q, hk, hf⟩
    · rw [q]; rfl
    · exfalso
      refine h.live (ll.getD k []) (by rw [getD_getElem hk]; exact List.getElem_mem hk) fun y hy => q3 _ ?_
      exact List.all_eq_true.1 hf y hy
theorem closB_ask {n : Int} {ll : List (List Int)} {ds : List Int} (h : closB n ll ds = true) : askB n ll ds = true := by
  unfold closB at h
  rw [Bool.and_eq_true, decide_eq_true_eq] at h
  exact (trailE_zero h.1).1
theorem closL_mem {n : Int} {ll : List (List Int)} {ds : List Int} (h : closB n ll ds = true) (x : Int) : x ∈ closL n ll ds ↔ trueT (trailL n ll ds) x = true := by
  obtain ⟨_, hg, _⟩ := clos_fits h
  unfold closL
  rw [if_pos h, orderL_mem (fun x hx => by
    obtain ⟨s, hs, rfl⟩ := List.mem_map.1 hx
    exact litVar_ne (hg.val s hs)), trueT_iff, List.mem_map]
theorem closL_of {n : Int} {ll : List (List Int)} {ds ds' : List Int} (h : closB n ll ds = true) (h' : closB n ll ds' = true) (he : ∀ x, x ∈ closL n ll ds ↔ x ∈ closL n ll ds') : closL n ll ds = closL n ll ds' := by
  refine strict_eq _ _ ?_ ?_ he
  · unfold closL; rw [if_pos h]; exact orderL_strict _
  · unfold closL; rw [if_pos h']; exact orderL_strict _
/-- The closure of literals whose least closed set is the same. -/
theorem clos_same {n : Int} {ll : List (List Int)} {ds ds' : List Int} (h : closB n ll ds = true) (ha : askB n ll ds' = true) (h1 : ∀ d ∈ ds', d ∈ closL n ll ds) (h2 : ∀ d ∈ ds, d ∈ ds' ∨ d ∈ closL n ll ds' ) :
    closB n ll ds' = true ∧ closL n ll ds' = closL n ll ds := by
  obtain ⟨hf, hg, hl⟩ := clos_fits h
  have hf' : Fits ll ds' (fun x => trueT (trailL n ll ds) x = true) := ⟨hf.shut, fun d hd => (closL_mem h d).1 (h1 d hd), hf.con, hf.live⟩
  have hb := clos_of_fits ha hf'
  obtain ⟨kf, _, kl⟩ := clos_fits hb
  refine ⟨hb, closL_of hb h fun x => ?_⟩
  rw [closL_mem hb, closL_mem h]
  constructor
  · exact kl _ hf'.shut hf'.has x
  · refine hl _ kf.shut (fun d hd => ?_) x
    rcases h2 d hd with h | h
    · exact kf.has d h
    · exact (closL_mem hb d).1 h
/-- .. and of fewer literals. -/
theorem clos_less {n : Int} {ll : List (List Int)} {ds ds' : List Int} (h : closB n ll ds = true) (h1 : ∀ d ∈ ds', d ∈ closL n ll ds) :
    closB n ll ds' = true ∧ ∀ x ∈ closL n ll ds', x ∈ closL n ll ds := by
  obtain ⟨hf, hg, hl⟩ := clos_fits h
  have hf' : Fits ll ds' (fun x => trueT (trailL n ll ds) x = true) := ⟨hf.shut, fun d hd => (closL_mem h d).1 (h1 d hd), hf.con, hf.live⟩
  have ha' : askB n ll ds' = true := askB_iff.2 ⟨(askB_iff.1 (closB_ask h)).1, fun d hd => by
    obtain ⟨s, hs, e⟩ := trueT_iff.1 ((closL_mem h d).1 (h1 d hd))
    rw [← e]; exact hg.val s hs⟩
  have hb := clos_of_fits ha' hf'
  obtain ⟨kf, _, kl⟩ := clos_fits hb
  refine ⟨hb, fun x hx => ?_⟩
  rw [closL_mem hb] at hx
  rw [closL_mem h]
  exact kl _ hf'.shut hf'.has x hx
theorem clos_has {n : Int} {ll : List (List Int)} {ds : List Int} (h : closB n ll ds = true) : ∀ d ∈ ds, d ∈ closL n ll ds := fun d hd => (closL_mem h d).2 ((clos_fits h).1.has d hd)
end Go.Proofs.Yteagoaiiacideaa
/- Unit propagation, plainly: the reasons of a trail; what is true in all models; what two closures have in common. No Go in sight. -/
namespace Go.Proofs.Yteagoaiiacideaa
set_option linter.unusedSimpArgs false
set_option linter.unusedVariables false
open Go.RowKit
/-- The literal of each step was open; its reason, if it has one, was unit. -/
def JustAt (ll : List (List Int)) (tr : List St) (s : St) : Prop := openT tr s.lit = true ∧ -1 ≤ s.why ∧ s.why < ll.length ∧ (0 ≤ s.why → unitT tr (ll.getD s.why.toNat []) = s.lit)
def Just (ll : List (List Int)) (tr : List St) : Prop := ∀ i, i < tr.length → JustAt ll (tr.take i) (tr.getD i default)
theorem Just.nil (ll : List (List Int)) : Just ll [] := fun i hi => by cases hi
theorem Just.add {ll : List (List Int)} {tr : List St} {s : St} (h : Just ll tr) (hs : JustAt ll tr s) : Just ll (tr ++ [s]) := fun i hi => by
  rw [List.length_append] at hi
  by_cases e : i < tr.length
  · have := h i e
    rw [List.take_append_of_le_length (by omega), getD_getElem (by simp; omega), List.getElem_append_left e]
    rwa [getD_getElem e] at this
  · obtain rfl : i = tr.length := by simp at hi; omega
    rw [List.take_left, getD_getElem (by simp), List.getElem_append_right (Nat.le_refl _)]
    simpa using hs
/-- The level of each step: its decision was made at it, and no later step has a lower one. -/
structure Steps (n : Int) (ll : List (List Int)) (ds : List Int) (i : Nat) (tr : List St) : Prop where
  just : Just ll tr
  lev : ∀ s ∈ tr, 0 ≤ s.lev ∧ s.lev ≤ i
theorem trail_steps {n : Int} {ll : List (List Int)} {ds : List Int} (h : trailE n ll ds = 0) :
    Good n (trailL n ll ds) ∧ Just ll (trailL n ll ds) ∧ EndOk ll (trailL n ll ds, trailC n ll ds) := by
  obtain ⟨ha, ho⟩ := trailE_zero h
  obtain ⟨ht, hv⟩ := askB_iff.1 ha
  obtain ⟨k1, _⟩ := trail_ind ht hv (P := fun _ tr => Just ll tr) (Just.nil ll)
    (fun i tr k hi hg hp hf hn => hp.add (by
      obtain ⟨g1, g2, g3⟩ := hg.step ht (why := 0) (lev := 0) hf hn
      obtain ⟨hk, _⟩ := firstT_yes hf
      have hmem : ll.getD k [] ∈ ll := by rw [getD_getElem hk]; exact List.getElem_mem hk
      have hc : ∀ y ∈ ll.getD k [], y ≠ 0 := fun y hy => ((litValid_iff _ _).1 (((theoryErr_zero ht).2.2.2 _ hmem).2 y hy)).1
      exact ⟨(unitT_spec hc g2).2.1, by show (-1 : Int) ≤ (k : Int); omega, by show (k : Int) < _; omega, fun _ => by simp⟩))
    (fun i tr hi hg hp ho => hp.add ⟨ho, by simp, by show (-1 : Int) < _; omega, fun h => by simp at h⟩)
    (fun i tr hi hg hp ho => hp)
  obtain ⟨i, _, q2, q3, q4, _⟩ := k1 _ ho
  exact ⟨q2, q3, q4⟩
theorem holdsB_neg {x y : Nat} {l : Int} (h : litVar l ≠ 0) : holdsB x y (-l) = !holdsB x y l := by
  unfold holdsB
  have e : litVar (-l) = litVar l := by unfold litVar at *; (repeat' split) <;> omega
  have hd : decide (0 < -l) = !decide (0 < l) := by
    have : l ≠ 0 := by rintro rfl; exact h rfl
    rw [Bool.eq_iff_iff]; simp; omega
  have hb : (litVar l != 0) = true := by simpa using h
  rw [e, hd, hb]
  cases hasB x y (litVar l) <;> cases decide (0 < l) <;> rfl
theorem evalB_clause {n : Int} {ll : List (List Int)} {x y : Nat} (h : evalB n ll x y = true) : theoryErr n ll = 0 ∧ ∀ c ∈ ll, ∃ l ∈ c, holdsB x y l = true := by
  unfold evalB clausesB at h
  simp only [Bool.and_eq_true, decide_eq_true_eq, List.all_eq_true, List.any_eq_true] at h
  exact ⟨h.1, h.2.2⟩
/-- In each model what is true after the decisions up to a level is true. -/
theorem trail_follows {n : Int} {ll : List (List Int)} {ds : List Int} {x y : Nat} (h : trailE n ll ds = 0) (hm : evalB n ll x y = true) :
    (∀ s ∈ trailL n ll ds, 0 ≤ s.lev ∧ s.lev ≤ ds.length ∧ ((ds.take s.lev.toNat).all (holdsB x y) = true → holdsB x y s.lit = true)) ∧
    (0 ≤ trailC n ll ds → ds.all (holdsB x y) = false) := by
  obtain ⟨ha, ho⟩ := trailE_zero h
  obtain ⟨ht, hv⟩ := askB_iff.1 ha
  obtain ⟨_, hcl⟩ := evalB_clause hm
  have hsub : ∀ (a b : Nat), a ≤ b → (ds.take b).all (holdsB x y) = true → (ds.take a).all (holdsB x y) = true := fun a b hab hh => by
    rw [List.all_eq_true] at *
    exact fun z hz => hh z (by
      have : ds.take a = (ds.take b).take a := by rw [List.take_take, Nat.min_eq_left hab]
      rw [this] at hz; exact List.mem_of_mem_take hz)
  obtain ⟨k1, _⟩ := trail_ind ht hv (P := fun i tr => ∀ s ∈ tr, 0 ≤ s.lev ∧ s.lev ≤ (i : Int) ∧ ((ds.take s.lev.toNat).all (holdsB x y) = true → holdsB x y s.lit = true)) (fun s hs => by cases hs)
    (fun i tr k hi hg hp hf hn s hs => by
      rw [List.mem_append, List.mem_singleton] at hs
      rcases hs with hs | rfl
      · exact hp s hs
      obtain ⟨g1, g2, g3⟩ := hg.step ht (why := 0) (lev := 0) hf hn
      obtain ⟨hk, _⟩ := firstT_yes hf
      have hmem : ll.getD k [] ∈ ll := by rw [getD_getElem hk]; exact List.getElem_mem hk
      have hcv := ((theoryErr_zero ht).2.2.2 _ hmem).2
      have hc : ∀ y ∈ ll.getD k [], y ≠ 0 := fun y hy => ((litValid_iff _ _).1 (hcv y hy)).1
      refine ⟨Int.natCast_nonneg i, Int.le_refl _, fun hall => ?_⟩
      simp only [Int.toNat_natCast] at hall
      obtain ⟨l, hl, hh⟩ := hcl _ hmem
      by_cases e : l = unitT tr (ll.getD k [])
      · show holdsB x y (unitT tr (ll.getD k [])) = true
        rw [← e]; exact hh
      · exfalso
        obtain ⟨t, ht', e'⟩ := trueT_iff.1 ((unitT_spec hc g2).2.2 l hl e)
        obtain ⟨p1, p2, p3⟩ := hp t ht'
        have := p3 (hsub _ i (by omega) hall)
        rw [e', holdsB_neg (litVar_ne (hcv l hl)), hh] at this
        cases this)
    (fun i tr hi hg hp ho s hs => by
      rw [List.mem_append, List.mem_singleton] at hs
      rcases hs with hs | rfl
      · obtain ⟨p1, p2, p3⟩ := hp s hs
        exact ⟨p1, by omega, p3⟩
      refine ⟨by show (0 : Int) ≤ (i : Int) + 1; omega, by show (i : Int) + 1 ≤ _; omega, fun hall => ?_⟩
      have e : ((i : Int) + 1).toNat = i + 1 := by omega
      simp only [e] at hall
      rw [List.all_eq_true] at hall
      refine hall _ ?_
      rw [List.take_succ_eq_append_getElem hi, getD_getElem hi]
      exact List.mem_append.2 (.inr (List.mem_singleton.2 rfl)))
    (fun i tr hi hg hp ho s hs => by
      obtain ⟨p1, p2, p3⟩ := hp s hs
      exact ⟨p1, by omega, p3⟩)
  obtain ⟨i, q1, q2, q3, q4, _⟩ := k1 _ ho
  refine ⟨fun s hs => ?_, fun hc => ?_⟩
  · obtain ⟨p1, p2, p3⟩ := q3 s hs
    exact ⟨p1, by omega, p3⟩
  · rcases q4 with ⟨q, _⟩ | ⟨k, q, hk, hf⟩
    · simp only at q; omega
    · rw [Bool.eq_false_iff]
      intro hall
      have hmem : ll.getD k [] ∈ ll := by rw [getD_getElem hk]; exact List.getElem_mem hk
      have hcv := ((theoryErr_zero ht).2.2.2 _ hmem).2
      obtain ⟨l, hl, hh⟩ := hcl _ hmem
      obtain ⟨t, ht', e'⟩ := trueT_iff.1 (List.all_eq_true.1 hf l hl)
      obtain ⟨p1, p2, p3⟩ := q3 t ht'
      have := p3 (hsub _ ds.length (by omega) (by rw [List.take_length]; exact hall))
      rw [e', holdsB_neg (litVar_ne (hcv l hl)), hh] at this
      cases this
/-- Without a conflict, no clause is false or unit at the end. -/
theorem trail_ends {n : Int} {ll : List (List Int)} {ds : List Int} (h : trailE n ll ds = 0) (hc : trailC n ll ds < 0) : ∀ c ∈ ll, falseT (trailL n ll ds) c = false ∧ unitT (trailL n ll ds) c = 0 := by
  obtain ⟨_, _, q⟩ := trail_steps h
  rcases q with ⟨_, q⟩ | ⟨k, q, _⟩
  · intro c hm
    have := firstT_no q c hm
    unfold liveT at this
    rw [Bool.or_eq_false_iff] at this
    exact ⟨this.1, by simpa using this.2⟩
  · simp only at q; omega
end Go.Proofs.Yteagoaiiacideaa
/- Probing: the plain law. No condition. -/
namespace Go.Proofs.Yteagoaiiacideaa
set_option linter.unusedSimpArgs false
set_option linter.unusedVariables false
open Go.RowKit
/-- A list has a literal of a variable. -/
def hasV (f : List Int) (v : Int) : Bool := f.any fun l => litVar l == v
/-- The first literal that fails, of the m variables from v on. -/
def failF (n : Int) (ll : List (List Int)) (f : List Int) : Nat → Int → Option Int
  | 0, _ => none
  | m + 1, v => if hasV f v then failF n ll f m (v + 1) else if closB n ll (f ++ [v]) = false then some v else if closB n ll (f ++ [-v]) = false then some (-v) else failF n ll f m (v + 1)
def probeF (n : Int) (ll : List (List Int)) : Nat → List Int → Option (List Int)
  | 0, _ => none
  | m + 1, f => if closB n ll f then (match failF n ll (closL n ll f) n.toNat 1 with | none => some (closL n ll f) | some x => probeF n ll m (closL n ll f ++ [-x])) else none
/-- How many variables have no literal. -/
def openN (n : Int) (f : List Int) : Nat := ((List.range n.toNat).filter fun k : Nat => !hasV f ((k : Int) + 1)).length
/-- What probing finds from a list on. -/
def probeG (n : Int) (ll : List (List Int)) (f : List Int) : Option (List Int) := probeF n ll (openN n f + 1) f
theorem openN_le {n : Int} {f : List Int} : openN n f ≤ n.toNat := Nat.le_trans (List.length_filter_le _ _) (by simp)
theorem filter_lt {α : Type} {p q : α → Bool} : ∀ {l : List α}, (∀ x ∈ l, p x = true → q x = true) → ∀ {a}, a ∈ l → q a = true → p a = false → (l.filter p).length < (l.filter q).length
  | b :: t, h, a, ha, hq, hp => by
    have hle : ∀ (l : List α), (∀ x ∈ l, p x = true → q x = true) → (l.filter p).length ≤ (l.filter q).length := by
      intro l
      induction l with
      | nil => intro _; exact Nat.le_refl _
      | cons c s ih =>
        intro h
        have i := ih fun x hx => h x (List.mem_cons_of_mem _ hx)
        have hc := h c List.mem_cons_self
        cases hpc : p c with
        | true => rw [List.filter_cons, List.filter_cons, hpc, hc hpc]; simpa using i
        | false => rw [List.filter_cons, List.filter_cons, hpc]; cases q c <;> simp <;> omega
    have ht := fun x hx => h x (List.mem_cons_of_mem b hx)
    rcases List.mem_cons.1 ha with rfl | ha
    · have := hle t ht
      rw [List.filter_cons, List.filter_cons, hp, hq]; simp; omega
    · have := filter_lt ht ha hq hp
      have hb := h b List.mem_cons_self
      cases hpb : p b with
      | true => rw [List.filter_cons, List.filter_cons, hpb, hb hpb]; simpa using this
      | false => rw [List.filter_cons, List.filter_cons, hpb]; cases q b <;> simp <;> omega
theorem hasV_iff {f : List Int} {v : Int} : hasV f v = true ↔ ∃ l ∈ f, litVar l = v := by simp [hasV]
theorem hasV_append {f : List Int} {x v : Int} : hasV (f ++ [x]) v = (hasV f v || litVar x == v) := by simp [hasV]
/-- What fails. -/
theorem fail_some {n : Int} {ll : List (List Int)} {f : List Int} : ∀ {m : Nat} {v x : Int}, failF n ll f m v = some x → closB n ll (f ++ [x]) = false ∧ ∃ u, v ≤ u ∧ u < v + m ∧ hasV f u = false ∧ (x = u ∨ x = -u)
  | 0, _, _, h => by cases h
  | m + 1, v, x, h => by
    unfold failF at h
    by_cases h1 : hasV f v = true
    · rw [if_pos h1] at h
      obtain ⟨a, u, b, c, d⟩ := fail_some h
      exact ⟨a, u, by omega, by omega, d⟩
    · rw [if_neg h1] at h
      by_cases h2 : closB n ll (f ++ [v]) = false
      · rw [if_pos h2] at h; cases h
        exact ⟨h2, v, Int.le_refl _, by omega, by simpa using h1, .inl rfl⟩
      · rw [if_neg h2] at h
        by_cases h3 : closB n ll (f ++ [-v]) = false
        · rw [if_pos h3] at h; cases h
          exact ⟨h3, v, Int.le_refl _, by omega, by simpa using h1, .inr rfl⟩
        · rw [if_neg h3] at h
          obtain ⟨a, u, b, c, d⟩ := fail_some h
          exact ⟨a, u, by omega, by omega, d⟩
/-- .. and where nothing fails. -/
theorem fail_none {n : Int} {ll : List (List Int)} {f : List Int} : ∀ {m : Nat} {v : Int}, failF n ll f m v = none → ∀ u, v ≤ u → u < v + m → hasV f u = true ∨ closB n ll (f ++ [u]) = true ∧ closB n ll (f ++ [-u]) = true
  | 0, _, _ => fun u a b => by omega
  | m + 1, v, h => fun u a b => by
    unfold failF at h
    by_cases h1 : hasV f v = true
    · rw [if_pos h1] at h
      by_cases e : u = v
      · subst e; exact .inl h1
      · exact fail_none h u (by omega) (by omega)
    · rw [if_neg h1] at h
      by_cases h2 : closB n ll (f ++ [v]) = false
      · rw [if_pos h2] at h; cases h
      · rw [if_neg h2] at h
        by_cases h3 : closB n ll (f ++ [-v]) = false
        · rw [if_pos h3] at h; cases h
        · rw [if_neg h3] at h
          by_cases e : u = v
          · subst e; exact .inr ⟨by simpa using h2, by simpa using h3⟩
          · exact fail_none h u (by omega) (by omega)
theorem litVar_self {u : Int} (h : 1 ≤ u) (h' : u ≤ 128) {x : Int} (hx : x = u ∨ x = -u) : litVar x = u ∧ litVar (-x) = u := by
  unfold litVar
  rcases hx with rfl | rfl <;> constructor <;> (repeat' split) <;> first | omega | simp_all
/-- A step leaves fewer variables. -/
theorem open_less {n : Int} {ll : List (List Int)} {f : List Int} {x : Int} (hc : closB n ll f = true) (h : failF n ll (closL n ll f) n.toNat 1 = some x) : openN n (closL n ll f ++ [-x]) < openN n f := by
  obtain ⟨_, u, h1, h2, h3, h4⟩ := fail_some h
  have hn128 := (theoryErr_zero (askB_iff.1 (closB_ask hc)).1).2.1
  obtain ⟨e1, e2⟩ := litVar_self h1 (by omega) h4
  have hn : (u.toNat - 1 : Nat) < n.toNat := by omega
  have hu : ((u.toNat - 1 : Nat) : Int) + 1 = u := by omega
  refine filter_lt (a := u.toNat - 1) ?_ (List.mem_range.2 hn) ?_ ?_
  · intro k _ hk
    simp only [Bool.not_eq_true'] at hk ⊢
    rw [hasV_append, Bool.or_eq_false_iff] at hk
    rw [← Bool.not_eq_true, hasV_iff]
    rintro ⟨l, hl, e⟩
    have := hasV_iff.2 ⟨l, clos_has hc l hl, e⟩
    rw [hk.1] at this; cases this
  · simp only [Bool.not_eq_true', hu]
    rw [← Bool.not_eq_true, hasV_iff]
    rintro ⟨l, hl, e⟩
    have := hasV_iff.2 ⟨l, clos_has hc l hl, e⟩
    rw [h3] at this; cases this
  · simp only [Bool.not_eq_false', hu]
    rw [hasV_append, e2]; simp
theorem probe_enough {n : Int} {ll : List (List Int)} : ∀ (m : Nat) (f : List Int), openN n f < m → probeF n ll m f = probeG n ll f := by
  intro m
  induction m using Nat.strongRecOn with
  | ind m ih =>
    intro f hm
    cases m with
    | zero => omega
    | succ m =>
      unfold probeG
      show (if closB n ll f then _ else none) = (if closB n ll f then _ else none)
      by_cases hc : closB n ll f = true
      · rw [if_pos hc, if_pos hc]
        cases hx : failF n ll (closL n ll f) n.toNat 1 with
        | none => rfl
        | some x =>
          have hl := open_less hc hx
          show probeF n ll m _ = probeF n ll (openN n f) _
          rw [ih m (by omega) _ (by omega)]
          by_cases hz : openN n f = m
          · rw [hz, ih m (by omega) _ (by omega)]
          · exact (ih _ (by omega) _ hl).symm
      · rw [if_neg hc, if_neg hc]
theorem probe_no {n : Int} {ll : List (List Int)} {f : List Int} (h : closB n ll f = false) : probeG n ll f = none := by
  show (if closB n ll f then _ else none) = none
  rw [h]; rfl
theorem probe_end {n : Int} {ll : List (List Int)} {f : List Int} (hc : closB n ll f = true) (h : failF n ll (closL n ll f) n.toNat 1 = none) : probeG n ll f = some (closL n ll f) := by
  show (if closB n ll f then _ else none) = _
  rw [if_pos hc, h]
theorem probe_step {n : Int} {ll : List (List Int)} {f : List Int} {x : Int} (hc : closB n ll f = true) (h : failF n ll (closL n ll f) n.toNat 1 = some x) : probeG n ll f = probeG n ll (closL n ll f ++ [-x]) := by
  have : probeG n ll f = probeF n ll (openN n f) (closL n ll f ++ [-x]) := by
    show (if closB n ll f then _ else none) = _
    rw [if_pos hc, h]
  rw [this, probe_enough _ _ (open_less hc h)]
/-- What probing finds of a theory and a term. -/
def probeO (n : Int) (ll : List (List Int)) (ok : Bool) (f : List Int) : Option (List Int) := if theoryErr n ll = 0 ∧ ok = true then probeG n ll f else none
end Go.Proofs.Yteagoaiiacideaa
/- Probing, plainly: what is found is the least firm set of literals. No Go in sight. -/
namespace Go.Proofs.Yteagoaiiacideaa
set_option linter.unusedSimpArgs false
set_option linter.unusedVariables false
open Go.RowKit
/-- A set of literals that unit propagation and failed literals leave as it is. -/
structure Firm (n : Int) (ll : List (List Int)) (S : Int → Prop) : Prop where
  fits : Fits ll [] S
  more : ∀ x, litValid x n = true → ¬ S (-x) → ∃ T, Fits ll [x] T ∧ ∀ y, S y → T y
theorem clos_valid {n : Int} {ll : List (List Int)} {ds : List Int} (h : closB n ll ds = true) {x : Int} (hx : x ∈ closL n ll ds) : litValid x n = true := by
  obtain ⟨s, hs, e⟩ := trueT_iff.1 ((closL_mem h x).1 hx)
  rw [← e]; exact (clos_fits h).2.1.val s hs
theorem clos_theory {n : Int} {ll : List (List Int)} {ds : List Int} (h : closB n ll ds = true) : theoryErr n ll = 0 := (askB_iff.1 (closB_ask h)).1
theorem clos_member {n : Int} {ll : List (List Int)} {ds : List Int} (h : closB n ll ds = true) : Fits ll ds (· ∈ closL n ll ds) := by
  obtain ⟨hf, _, _⟩ := clos_fits h
  have e : ∀ x, x ∈ closL n ll ds ↔ trueT (trailL n ll ds) x = true := closL_mem h
  exact ⟨fun c hc x hx hy => (e x).2 (hf.shut c hc x hx fun y hy' hne => (e _).1 (hy y hy' hne)), fun d hd => (e d).2 (hf.has d hd), fun x hx hx' => hf.con x ((e x).1 hx) ((e _).1 hx'), fun c hc h => hf.live c hc fun y hy => (e _).1 (h y hy)⟩
theorem firm_fail {n : Int} {ll : List (List Int)} {S : Int → Prop} {f : List Int} {x : Int} (h : Firm n ll S) (ht : theoryErr n ll = 0) (hf : ∀ d ∈ f, S d ∧ litValid d n = true) (hx : litValid x n = true) (hc : closB n ll (f ++ [x]) = false) : S (-x) := by
  by_cases hs : S (-x)
  · exact hs
  exfalso
  obtain ⟨T, hT, hST⟩ := h.more x hx hs
  have : closB n ll (f ++ [x]) = true := clos_of_fits (S := T) (askB_iff.2 ⟨ht, fun d hd => by
    rw [List.mem_append, List.mem_singleton] at hd
    rcases hd with hd | rfl
    · exact (hf d hd).2
    · exact hx⟩) ⟨hT.shut, fun d hd => by
    rw [List.mem_append, List.mem_singleton] at hd
    rcases hd with hd | rfl
    · exact hST d (hf d hd).1
    · exact hT.has d (List.mem_singleton.2 rfl), hT.con, hT.live⟩
  rw [hc] at this; cases this
theorem firm_clos {n : Int} {ll : List (List Int)} {S : Int → Prop} {f : List Int} (h : Fits ll [] S) (ht : theoryErr n ll = 0) (hf : ∀ d ∈ f, S d ∧ litValid d n = true) : closB n ll f = true ∧ ∀ x ∈ closL n ll f, S x ∧ litValid x n = true := by
  have hc : closB n ll f = true := clos_of_fits (S := S) (askB_iff.2 ⟨ht, fun d hd => (hf d hd).2⟩) ⟨h.shut, fun d hd => (hf d hd).1, h.con, h.live⟩
  exact ⟨hc, fun x hx => ⟨(clos_fits hc).2.2 S h.shut (fun d hd => (hf d hd).1) x ((closL_mem hc x).1 hx), clos_valid hc hx⟩⟩
theorem fail_valid {n : Int} {ll : List (List Int)} {f : List Int} {x : Int} (hn : n ≤ 128) (h : failF n ll f n.toNat 1 = some x) : closB n ll (f ++ [x]) = false ∧ litValid x n = true ∧ litValid (-x) n = true := by
  obtain ⟨q, u, h1, h2, _, h4⟩ := fail_some h
  exact ⟨q, (litValid_iff _ _).2 (by omega), (litValid_iff _ _).2 (by omega)⟩
/-- A firm set has all that is found. -/
theorem probe_firm {n : Int} {ll : List (List Int)} {S : Int → Prop} (h : Firm n ll S) (ht : theoryErr n ll = 0) {f : List Int} (hf : ∀ d ∈ f, S d ∧ litValid d n = true) : ∃ r, probeG n ll f = some r ∧ ∀ x ∈ r, S x := by
  generalize hm : openN n f = m
  induction m using Nat.strongRecOn generalizing f with
  | ind m ih =>
    obtain ⟨hc, hs⟩ := firm_clos h.fits ht hf
    have hn := (theoryErr_zero ht).2.1
    cases hx : failF n ll (closL n ll f) n.toNat 1 with
    | none => exact ⟨_, probe_end hc hx, fun x hx => (hs x hx).1⟩
    | some x =>
      obtain ⟨q, v1, v2⟩ := fail_valid hn hx
      have hl := open_less hc hx
      rw [probe_step hc hx]
      refine ih _ (by omega) (fun d hd => ?_) rfl
      rw [List.mem_append, List.mem_singleton] at hd
      rcases hd with hd | rfl
      · exact hs d hd
      · exact ⟨firm_fail h ht hs v1 q, v2⟩
/-- What is found is a closure in which nothing fails. -/
theorem probe_is {n : Int} {ll : List (List Int)} {f r : List Int} (h : probeG n ll f = some r) : ∃ g, closB n ll g = true ∧ r = closL n ll g ∧ (∀ d ∈ f, d ∈ r) ∧ failF n ll r n.toNat 1 = none := by
  generalize hm : openN n f = m at *
  induction m using Nat.strongRecOn generalizing f with
  | ind m ih =>
    cases hc : closB n ll f with
    | false => rw [probe_no hc] at h; cases h
    | true =>
      cases hx : failF n ll (closL n ll f) n.toNat 1 with
      | none =>
        rw [probe_end hc hx] at h
        cases h
        exact ⟨f, hc, rfl, fun d hd => clos_has hc d hd, hx⟩
      | some x =>
        have hl := open_less hc hx
        rw [probe_step hc hx] at h
        obtain ⟨g, g1, g2, g3, g4⟩ := ih _ (by omega) h rfl
        exact ⟨g, g1, g2, fun d hd => g3 d (List.mem_append_left _ (clos_has hc d hd)), g4⟩
theorem hasV_lit {n : Int} {r : List Int} {x : Int} (hr : ∀ y ∈ r, litValid y n = true) (hx : litValid x n = true) (h : hasV r (litVar x) = true) : x ∈ r ∨ -x ∈ r := by
  obtain ⟨l, hl, e⟩ := hasV_iff.1 h
  have h1 := litVar_of_valid (hr l hl)
  have h2 := litVar_of_valid hx
  rw [h1, h2] at e
  by_cases hlx : l = x
  · exact .inl (hlx ▸ hl)
  · have : l = -x := by split at e <;> split at e <;> omega
    exact .inr (this ▸ hl)
/-- .. and firm. -/
theorem probe_self {n : Int} {ll : List (List Int)} {f r : List Int} (h : probeG n ll f = some r) : theoryErr n ll = 0 ∧ Firm n ll (· ∈ r) ∧ (∀ d ∈ f, d ∈ r) ∧ Strict r ∧ ∀ x ∈ r, litValid x n = true := by
  obtain ⟨g, g1, rfl, g3, g4⟩ := probe_is h
  have ht := clos_theory g1
  have hn := (theoryErr_zero ht).2.1
  have hm := clos_member g1
  have hv : ∀ x ∈ closL n ll g, litValid x n = true := fun x hx => clos_valid g1 hx
  refine ⟨ht, ⟨⟨hm.shut, fun d hd => (by cases hd), hm.con, hm.live⟩, fun x hx hno => ?_⟩, g3, by unfold closL; rw [if_pos g1]; exact orderL_strict _, hv⟩
  by_cases hin : x ∈ closL n ll g
  · exact ⟨_, ⟨hm.shut, fun d hd => by rw [List.mem_singleton.1 hd]; exact hin, hm.con, hm.live⟩, fun y hy => hy⟩
  have hx' := (litValid_iff _ _).1 hx
  have hvar := litVar_of_valid hx
  have hc : closB n ll (closL n ll g ++ [x]) = true := by
    rcases fail_none g4 (litVar x) (by rw [hvar]; split <;> omega) (by rw [hvar]; split <;> omega) with q | ⟨q1, q2⟩
    · rcases hasV_lit hv hx q with q | q
      · exact absurd q hin
      · exact absurd q hno
    · rw [hvar] at q1 q2
      split at q1
      · exact q1
      · rename_i hneg
        rw [if_neg hneg, Int.neg_neg] at q2
        exact q2
  have hm2 := clos_member hc
  exact ⟨_, ⟨hm2.shut, fun d hd => hm2.has d (List.mem_append_right _ hd), hm2.con, hm2.live⟩, fun y hy => hm2.has y (List.mem_append_left _ hy)⟩
/-- Two lists in order of which each has what the other has. -/
theorem strict_sub {a b : List Int} (ha : Strict a) (hb : Strict b) (h1 : ∀ x ∈ a, x ∈ b) (h2 : ∀ x ∈ b, x ∈ a) : a = b := strict_eq a b ha hb fun x => ⟨h1 x, h2 x⟩
/-- What is found is the one firm list in order that has the term and lies in each firm set that has it. -/
theorem probe_least {n : Int} {ll : List (List Int)} {f r : List Int} (ht : theoryErr n ll = 0) (hf : ∀ d ∈ f, litValid d n = true) (h1 : Firm n ll (· ∈ r)) (h2 : ∀ d ∈ f, d ∈ r) (h3 : Strict r) (h4 : ∀ S, Firm n ll S → (∀ d ∈ f, S d) → ∀ x ∈ r, S x) : probeG n ll f = some r := by
  obtain ⟨q, e, hq⟩ := probe_firm h1 ht (f := f) fun d hd => ⟨h2 d hd, hf d hd⟩
  obtain ⟨_, k1, k2, k3, _⟩ := probe_self e
  rw [e, strict_sub k3 h3 hq (h4 _ k1 k2)]
theorem probe_none {n : Int} {ll : List (List Int)} {f : List Int} (ht : theoryErr n ll = 0) (hf : ∀ d ∈ f, litValid d n = true) (h : ∀ S, Firm n ll S → ¬ ∀ d ∈ f, S d) : probeG n ll f = none := by
  cases e : probeG n ll f with
  | none => rfl
  | some r =>
    obtain ⟨_, k1, k2, _⟩ := probe_self e
    exact absurd k2 (h _ k1)
/-! ### Models are firm -/
theorem model_firm {n : Int} {ll : List (List Int)} {x y : Nat} (hm : evalB n ll x y = true) : Firm n ll (fun l => litValid l n = true ∧ holdsB x y l = true) := by
  obtain ⟨ht, hc⟩ := evalB_clause hm
  have hv : ∀ c ∈ ll, ∀ l ∈ c, litValid l n = true := fun c hc l hl => ((theoryErr_zero ht).2.2.2 c hc).2 l hl
  have hneg : ∀ l, litValid l n = true → holdsB x y (-l) = !holdsB x y l := fun l hl => holdsB_neg (litVar_ne hl)
  have hvn : ∀ l, litValid l n = true → litValid (-l) n = true := fun l hl => by rw [litValid_iff] at *; omega
  have hF : ∀ ds : List Int, (∀ d ∈ ds, litValid d n = true ∧ holdsB x y d = true) → Fits ll ds (fun l => litValid l n = true ∧ holdsB x y l = true) := fun ds hd => by
    refine ⟨fun c hcc z hz hy => ⟨hv c hcc z hz, ?_⟩, hd, fun z hz hz' => ?_, fun c hcc h => ?_⟩
    · obtain ⟨l, hl, hh⟩ := hc c hcc
      by_cases e : l = z
      · rw [← e]; exact hh
      · have := (hy l hl e).2
        rw [hneg l (hv c hcc l hl), hh] at this; cases this
    · have := hz'.2
      rw [hneg z hz.1, hz.2] at this; cases this
    · obtain ⟨l, hl, hh⟩ := hc c hcc
      have := (h l hl).2
      rw [hneg l (hv c hcc l hl), hh] at this; cases this
  refine ⟨hF [] (fun d hd => (by cases hd)), fun z hz hno => ⟨_, hF [z] fun d hd => ?_, fun _ h => h⟩⟩
  rw [List.mem_singleton.1 hd]
  refine ⟨hz, ?_⟩
  cases hh : holdsB x y z with
  | true => rfl
  | false => exact absurd ⟨hvn z hz, by rw [hneg z hz, hh]; rfl⟩ hno
/-- A fitting set that has a literal of each variable is a model. -/
theorem whole_model {n : Int} {ll : List (List Int)} {x y : Nat} {S : Int → Prop} (ht : theoryErr n ll = 0) (ha : assignB x y n = true) (hS : Fits ll [] S) (hw : ∀ l, litValid l n = true → holdsB x y l = true → S l) : evalB n ll x y = true := by
  unfold evalB clausesB
  rw [Bool.and_eq_true, decide_eq_true_eq, Bool.and_eq_true]
  refine ⟨ht, ha, ?_⟩
  rw [List.all_eq_true]
  intro c hc
  rw [List.any_eq_true]
  refine Classical.byContradiction fun hno => hS.live c hc fun l hl => ?_
  have hl' := ((theoryErr_zero ht).2.2.2 c hc).2 l hl
  refine hw _ (by rw [litValid_iff] at *; omega) ?_
  rw [holdsB_neg (litVar_ne hl')]
  cases hh : holdsB x y l with
  | true => exact absurd ⟨l, hl, hh⟩ hno
  | false => rfl
end Go.Proofs.Yteagoaiiacideaa
/- Equal literals, plainly: literals that chains of mutual consequences tie; a forest of representatives. No Go in sight. -/
namespace Go.Proofs.Yteagoaiiacideaa
set_option linter.unusedSimpArgs false
set_option linter.unusedVariables false
open Go.RowKit
/-- Each of two literals is in the closure of the other. -/
def mutB (n : Int) (ll : List (List Int)) (a b : Int) : Bool := closB n ll [a] && closB n ll [b] && (closL n ll [a]).contains b && (closL n ll [b]).contains a
def linkB (n : Int) (ll : List (List Int)) (a b : Int) : Bool := mutB n ll a b || mutB n ll (-a) (-b)
theorem mutB_iff {n : Int} {ll : List (List Int)} {a b : Int} : mutB n ll a b = true ↔ closB n ll [a] = true ∧ closB n ll [b] = true ∧ b ∈ closL n ll [a] ∧ a ∈ closL n ll [b] := by
  unfold mutB; simp only [Bool.and_eq_true, List.contains_iff_mem]
  exact ⟨fun ⟨⟨⟨a, b⟩, c⟩, d⟩ => ⟨a, b, c, d⟩, fun ⟨a, b, c, d⟩ => ⟨⟨⟨a, b⟩, c⟩, d⟩⟩
theorem mutB_symm {n : Int} {ll : List (List Int)} {a b : Int} (h : mutB n ll a b = true) : mutB n ll b a = true := by
  rw [mutB_iff] at *; exact ⟨h.2.1, h.1, h.2.2.2, h.2.2.1⟩
theorem linkB_iff {n : Int} {ll : List (List Int)} {a b : Int} : linkB n ll a b = true ↔ mutB n ll a b = true ∨ mutB n ll (-a) (-b) = true := by unfold linkB; rw [Bool.or_eq_true]
theorem linkB_symm {n : Int} {ll : List (List Int)} {a b : Int} (h : linkB n ll a b = true) : linkB n ll b a = true := by
  rw [linkB_iff] at *; exact h.imp mutB_symm mutB_symm
theorem linkB_neg {n : Int} {ll : List (List Int)} {a b : Int} (h : linkB n ll a b = true) : linkB n ll (-a) (-b) = true := by
  rw [linkB_iff] at *; rw [Int.neg_neg, Int.neg_neg]; exact h.symm
theorem lit_valid_neg {x n : Int} (h : litValid x n = true) : litValid (-x) n = true := by rw [litValid_iff] at *; omega
theorem mutB_valid {n : Int} {ll : List (List Int)} {a b : Int} (h : mutB n ll a b = true) : litValid a n = true ∧ litValid b n = true := by
  rw [mutB_iff] at h
  exact ⟨clos_valid h.2.1 h.2.2.2, clos_valid h.1 h.2.2.1⟩
theorem linkB_valid {n : Int} {ll : List (List Int)} {a b : Int} (h : linkB n ll a b = true) : litValid a n = true ∧ litValid b n = true := by
  rw [linkB_iff] at h
  rcases h with h | h
  · exact mutB_valid h
  · have := mutB_valid h
    have h1 := lit_valid_neg this.1
    have h2 := lit_valid_neg this.2
    rw [Int.neg_neg] at h1 h2
    exact ⟨h1, h2⟩
/-- A chain of linked literals. -/
inductive Tied (n : Int) (ll : List (List Int)) : Int → Int → Prop
  | refl (a : Int) : Tied n ll a a
  | tie {a b c : Int} : Tied n ll a b → linkB n ll b c = true → Tied n ll a c
theorem Tied.trans {n : Int} {ll : List (List Int)} {a b c : Int} (h : Tied n ll a b) (k : Tied n ll b c) : Tied n ll a c := by
  induction k with
  | refl => exact h
  | tie _ hl ih => exact .tie ih hl
theorem Tied.one {n : Int} {ll : List (List Int)} {a b : Int} (h : linkB n ll a b = true) : Tied n ll a b := .tie (.refl a) h
theorem Tied.symm {n : Int} {ll : List (List Int)} {a b : Int} (h : Tied n ll a b) : Tied n ll b a := by
  induction h with
  | refl => exact .refl _
  | tie _ hl ih => exact (Tied.one (linkB_symm hl)).trans ih
theorem Tied.neg {n : Int} {ll : List (List Int)} {a b : Int} (h : Tied n ll a b) : Tied n ll (-a) (-b) := by
  induction h with
  | refl => exact .refl _
  | tie _ hl ih => exact .tie ih (linkB_neg hl)
theorem Tied.valid {n : Int} {ll : List (List Int)} {a b : Int} (h : Tied n ll a b) (ha : litValid a n = true) : litValid b n = true := by
  induction h with
  | refl => exact ha
  | tie _ hl _ => exact (linkB_valid hl).2
open Classical in
/-- Are two literals tied? -/
noncomputable def tieB (n : Int) (ll : List (List Int)) (a b : Int) : Bool := decide (Tied n ll a b)
theorem tieB_iff {n : Int} {ll : List (List Int)} {a b : Int} : tieB n ll a b = true ↔ Tied n ll a b := by unfold tieB; exact @decide_eq_true_iff _ (Classical.propDecidable _)
/-- The literal of the least variable, from w on (m of them), else v. -/
def leastF (t : Int → Int → Bool) (v : Int) : Nat → Int → Int
  | 0, _ => v
  | m + 1, w => if t v w then w else if t v (-w) then -w else leastF t v m (w + 1)
noncomputable def eqV (n : Int) (ll : List (List Int)) (v : Int) : Int := leastF (tieB n ll) v (v - 1).toNat 1
noncomputable def eqL (n : Int) (ll : List (List Int)) (m : Nat) : List Int := (List.range m).map fun (k : Nat) => eqV n ll ((k : Int) + 1)
theorem eqL_succ (n : Int) (ll : List (List Int)) (m : Nat) : eqL n ll (m + 1) = eqL n ll m ++ [eqV n ll ((m : Int) + 1)] := by unfold eqL; rw [List.range_succ, List.map_append]; rfl
theorem eqL_len (n : Int) (ll : List (List Int)) (m : Nat) : (eqL n ll m).length = m := by simp [eqL]
theorem leastF_spec {t : Int → Int → Bool} {v : Int} : ∀ (m : Nat) (w : Int), (∃ u, w ≤ u ∧ u < w + m ∧ (∀ z, w ≤ z → z < u → t v z = false ∧ t v (-z) = false) ∧ ((t v u = true ∧ leastF t v m w = u) ∨ (t v u = false ∧ t v (-u) = true ∧ leastF t v m w = -u))) ∨
    (leastF t v m w = v ∧ ∀ z, w ≤ z → z < w + m → t v z = false ∧ t v (-z) = false)
  | 0, w => .inr ⟨rfl, fun z h1 h2 => by omega⟩
  | m + 1, w => by
    by_cases h1 : t v w = true
    · exact .inl ⟨w, Int.le_refl _, by omega, fun z _ _ => by omega, .inl ⟨h1, by unfold leastF; rw [if_pos h1]⟩⟩
    by_cases h2 : t v (-w) = true
    · exact .inl ⟨w, Int.le_refl _, by omega, fun z _ _ => by omega, .inr ⟨by simpa using h1, h2, by unfold leastF; rw [if_neg h1, if_pos h2]⟩⟩
    have e : leastF t v (m + 1) w = leastF t v m (w + 1) := by
      show (if t v w then w else if t v (-w) then -w else leastF t v m (w + 1)) = _
      rw [if_neg h1, if_neg h2]
    rw [e]
    have hw : t v w = false ∧ t v (-w) = false := ⟨by simpa using h1, by simpa using h2⟩
    rcases leastF_spec m (w + 1) with ⟨u, a, b, c, d⟩ | ⟨a, b⟩
    · exact .inl ⟨u, by omega, by omega, fun z p q => by
        by_cases e : z = w
        · subst e; exact hw
        · exact c z (by omega) q, d⟩
    · exact .inr ⟨a, fun z p q => by
        by_cases e : z = w
        · subst e; exact hw
        · exact b z (by omega) (by omega)⟩
theorem leastF_at {t : Int → Int → Bool} {v w : Int} {m : Nat} (h : t v w = true) : leastF t v (m + 1) w = w := by unfold leastF; rw [if_pos h]
theorem leastF_at' {t : Int → Int → Bool} {v w : Int} {m : Nat} (h : t v w = false) (h' : t v (-w) = true) : leastF t v (m + 1) w = -w := by unfold leastF; rw [if_neg (by simp [h]), if_pos h']
theorem leastF_no {t : Int → Int → Bool} {v w : Int} {m : Nat} (h : t v w = false) (h' : t v (-w) = false) : leastF t v (m + 1) w = leastF t v m (w + 1) := by
  show (if t v w then w else if t v (-w) then -w else leastF t v m (w + 1)) = _
  rw [if_neg (by simp [h]), if_neg (by simp [h'])]
/-- What Equal says of a variable: a literal tied with it, of a variable not behind it, which is itself of the least variable. -/
theorem eqV_spec {n : Int} {ll : List (List Int)} {v : Int} (h1 : 1 ≤ v) : Tied n ll v (eqV n ll v) ∧ ∃ u, 1 ≤ u ∧ u ≤ v ∧ (eqV n ll v = u ∨ eqV n ll v = -u) ∧ eqV n ll u = u := by
  have hno : ∀ (u : Int), 1 ≤ u → (Tied n ll v u ∨ Tied n ll v (-u)) → (∀ z, 1 ≤ z → z < u → tieB n ll v z = false ∧ tieB n ll v (-z) = false) → eqV n ll u = u := fun u hu hvu hz => by
    have key : ∀ z, 1 ≤ z → z < u → ∀ y, (y = z ∨ y = -z) → ¬ Tied n ll u y := fun z z1 z2 y hy ht => by
      obtain ⟨k1, k2⟩ := hz z z1 z2
      have : Tied n ll v y ∨ Tied n ll v (-y) := by
        rcases hvu with h | h
        · exact .inl (h.trans ht)
        · exact .inr (h.trans ht.neg)
      have hyy : (y = z ∧ -y = -z) ∨ (y = -z ∧ -y = z) := by omega
      rcases this with h | h
      · rcases hyy with ⟨e, _⟩ | ⟨e, _⟩
        · rw [e, ← tieB_iff, k1] at h; cases h
        · rw [e, ← tieB_iff, k2] at h; cases h
      · rcases hyy with ⟨_, e⟩ | ⟨_, e⟩
        · rw [e, ← tieB_iff, k2] at h; cases h
        · rw [e, ← tieB_iff, k1] at h; cases h
    unfold eqV
    rcases leastF_spec (t := tieB n ll) (v := u) (u - 1).toNat 1 with ⟨z, a, b, _, d⟩ | ⟨a, _⟩
    · exfalso
      rcases d with ⟨d, _⟩ | ⟨_, d, _⟩
      · exact key z a (by omega) z (.inl rfl) (tieB_iff.1 d)
      · exact key z a (by omega) (-z) (.inr rfl) (tieB_iff.1 d)
    · exact a
  have hs := leastF_spec (t := tieB n ll) (v := v) (v - 1).toNat 1
  have e : eqV n ll v = leastF (tieB n ll) v (v - 1).toNat 1 := rfl
  rcases hs with ⟨z, a, b, c, d⟩ | ⟨a, c⟩
  · rcases d with ⟨d, q⟩ | ⟨_, d, q⟩
    · rw [e, q]
      exact ⟨tieB_iff.1 d, z, a, by omega, .inl rfl, hno z a (.inl (tieB_iff.1 d)) c⟩
    · rw [e, q]
      exact ⟨tieB_iff.1 d, z, a, by omega, .inr rfl, hno z a (.inr (tieB_iff.1 d)) c⟩
  · rw [e, a]
    exact ⟨.refl v, v, h1, Int.le_refl _, .inl rfl, by rw [e, a]⟩
/-- Tied literals have the same value in each model. -/
theorem tied_model {n : Int} {ll : List (List Int)} {x y : Nat} (hm : evalB n ll x y = true) {a b : Int} (h : Tied n ll a b) : holdsB x y a = holdsB x y b := by
  have hf := model_firm hm
  obtain ⟨ht, _⟩ := evalB_clause hm
  have one : ∀ a b, mutB n ll a b = true → holdsB x y a = true → holdsB x y b = true := fun a b hab ha => by
    obtain ⟨va, vb⟩ := mutB_valid hab
    rw [mutB_iff] at hab
    have := firm_clos hf.fits ht (f := [a]) (fun d hd => by rw [List.mem_singleton.1 hd]; exact ⟨⟨va, ha⟩, va⟩)
    exact (this.2 b hab.2.2.1).1.2
  have both : ∀ a b, mutB n ll a b = true → holdsB x y a = holdsB x y b := fun a b hab => by
    rw [Bool.eq_iff_iff]
    exact ⟨one a b hab, one b a (mutB_symm hab)⟩
  induction h with
  | refl => rfl
  | tie _ hl ih =>
    rw [ih]
    obtain ⟨v1, v2⟩ := linkB_valid hl
    rw [linkB_iff] at hl
    rcases hl with hl | hl
    · exact both _ _ hl
    · have := both _ _ hl
      rw [holdsB_neg (litVar_ne v1), holdsB_neg (litVar_ne v2)] at this
      simpa using this
/-! ### a forest of representatives -/
/-- In k steps one comes from i to the root r. -/
def RootIn (up : Nat → Nat) : Nat → Nat → Nat → Prop
  | 0, i, r => up i = i ∧ r = i
  | k + 1, i, r => up i ≠ i ∧ RootIn up k (up i) r
theorem RootIn.fix {up : Nat → Nat} : ∀ {k i r : Nat}, RootIn up k i r → up r = r
  | 0, _, _, h => by rw [h.2]; exact h.1
  | _ + 1, _, _, h => RootIn.fix h.2
/-- A forest over the numbers below m: each has the root R. -/
structure Forest (m : Nat) (up R : Nat → Nat) : Prop where
  lt : ∀ i, i < m → up i < m
  root : ∀ i, i < m → R i < m ∧ ∃ k, RootIn up k i (R i)
theorem Forest.start {m : Nat} {up : Nat → Nat} (h : ∀ i, i < m → up i = i) : Forest m up id := ⟨fun i hi => by rw [h i hi]; exact hi, fun i hi => ⟨hi, 0, h i hi, rfl⟩⟩
theorem Forest.fix {m : Nat} {up R : Nat → Nat} (h : Forest m up R) {i : Nat} (hi : i < m) : up (R i) = R i := by obtain ⟨_, k, hk⟩ := h.root i hi; exact hk.fix
theorem Forest.join {m : Nat} {up R : Nat → Nat} (h : Forest m up R) {a b : Nat} (ha : a < m) (hb : b < m) :
    Forest m (fun i => if i = R a then R b else up i) (fun i => if R i = R a then R b else R i) := by
  refine ⟨fun i hi => ?_, fun i hi => ?_⟩
  · show (if i = R a then R b else up i) < m
    split
    · exact (h.root b hb).1
    · exact h.lt i hi
  · have hfa := h.fix ha
    have hfb := h.fix hb
    have h2 : ∀ k i, RootIn up k i (R a) → R a ≠ R b → RootIn (fun i => if i = R a then R b else up i) (k + 1) i (R b) := by
      intro k
      induction k with
      | zero =>
        intro i hk hne
        obtain ⟨k1, k2⟩ := hk
        have ei : i = R a := k2.symm
        refine ⟨?_, ?_, ?_⟩
        · show (if i = R a then R b else up i) ≠ i
          rw [if_pos ei, ei]; exact fun e => hne e.symm
        · show (if (if i = R a then R b else up i) = R a then R b else up (if i = R a then R b else up i)) = (if i = R a then R b else up i)
          rw [if_pos ei, if_neg (fun e => hne e.symm), hfb]
        · show R b = (if i = R a then R b else up i)
          rw [if_pos ei]
      | succ k ih =>
        intro i hk hne
        obtain ⟨k1, k2⟩ := hk
        have ei : i ≠ R a := fun e => k1 (by rw [e]; exact hfa)
        have e' : (fun i => if i = R a then R b else up i) i = up i := if_neg ei
        refine ⟨?_, ?_⟩
        · rw [e']; exact k1
        · rw [e']; exact ih _ k2 hne
    have h1 : ∀ k i r, RootIn up k i r → r ≠ R a → RootIn (fun i => if i = R a then R b else up i) k i r := by
      intro k
      induction k with
      | zero =>
        intro i r hk hne
        obtain ⟨k1, k2⟩ := hk
        have ei : i ≠ R a := fun e => hne (k2.trans e)
        refine ⟨?_, k2⟩
        show (if i = R a then R b else up i) = i
        rw [if_neg ei]; exact k1
      | succ k ih =>
        intro i r hk hne
        obtain ⟨k1, k2⟩ := hk
        have ei : i ≠ R a := fun e => k1 (by rw [e]; exact hfa)
        have e' : (fun i => if i = R a then R b else up i) i = up i := if_neg ei
        refine ⟨?_, ?_⟩
        · rw [e']; exact k1
        · rw [e']; exact ih _ _ k2 hne
    obtain ⟨q1, k, hk⟩ := h.root i hi
    show (if R i = R a then R b else R i) < m ∧ ∃ k, RootIn (fun i => if i = R a then R b else up i) k i (if R i = R a then R b else R i)
    by_cases e : R i = R a
    · rw [if_pos e]
      refine ⟨(h.root b hb).1, ?_⟩
      by_cases hne : R a = R b
      · have : (fun i => if i = R a then R b else up i) = up := by
          funext j
          show (if j = R a then R b else up j) = up j
          split
          · rename_i hj; rw [hj, hfa]; exact hne.symm
          · rfl
        rw [this, ← hne, ← e]; exact ⟨k, hk⟩
      · exact ⟨k + 1, h2 k i (e ▸ hk) hne⟩
    · rw [if_neg e]
      exact ⟨q1, k, h1 k i _ hk e⟩
end Go.Proofs.Yteagoaiiacideaa
