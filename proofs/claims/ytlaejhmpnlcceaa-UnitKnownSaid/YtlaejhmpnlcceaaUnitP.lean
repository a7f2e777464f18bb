/- Unit propagation, plainly: trails, clauses that are false or unit, what follows at a level, trails of decisions. No Go in sight. -/
import Derived.Test.YtlaejhmpnlcceaaBase
import Derived.Test.YtlaejhmpnlcceaaOrder
namespace Go.Proofs.Ytlaejhmpnlcceaa
set_option linter.unusedSimpArgs false
set_option linter.unusedVariables false
open Go.RowKit
/-- A step of a trail: its literal, its reason, its level. -/
structure St where
  lit : Int
  why : Int
  lev : Int
deriving DecidableEq
instance : Inhabited St := ⟨⟨0, 0, 0⟩⟩
def trueT (tr : List St) (x : Int) : Bool := tr.any fun s => s.lit == x
def openT (tr : List St) (x : Int) : Bool := !trueT tr x && !trueT tr (-x)
def falseT (tr : List St) (c : List Int) : Bool := c.all fun y => trueT tr (-y)
def unitF (tr : List St) : List Int → Int → Int
  | [], x => x
  | y :: t, x => if trueT tr y = true then 0 else if openT tr y = true then (if x ≠ 0 ∧ x ≠ y then 0 else unitF tr t y) else unitF tr t x
def unitT (tr : List St) (c : List Int) : Int := unitF tr c 0
def liveT (tr : List St) (c : List Int) : Bool := falseT tr c || unitT tr c != 0
def firstT (ll : List (List Int)) (tr : List St) : Option Nat := ll.findIdx? (liveT tr)
theorem or_true {a b : Bool} (h : (a || b) = true) : a = true ∨ b = true := by cases a <;> simp_all
theorem trueT_append (tr : List St) (s : St) (x : Int) : trueT (tr ++ [s]) x = (trueT tr x || s.lit == x) := by
  simp [trueT, List.any_append]
theorem trueT_iff {tr : List St} {x : Int} : trueT tr x = true ↔ ∃ s ∈ tr, s.lit = x := by
  unfold trueT; rw [List.any_eq_true]; simp
theorem trueT_nil (x : Int) : trueT [] x = false := rfl
theorem openT_iff {tr : List St} {x : Int} : openT tr x = true ↔ trueT tr x = false ∧ trueT tr (-x) = false := by
  unfold openT; simp
theorem firstT_none {ll : List (List Int)} {tr : List St} (h : ∀ j, j < ll.length → liveT tr (ll.getD j []) = false) : firstT ll tr = none := by
  unfold firstT
  rw [List.findIdx?_eq_none_iff]
  intro c hc
  obtain ⟨j, hj, rfl⟩ := List.getElem_of_mem hc
  have := h j hj
  rwa [getD_getElem hj] at this
theorem firstT_some {ll : List (List Int)} {tr : List St} {k : Nat} (hk : k < ll.length) (h : ∀ j, j < k → liveT tr (ll.getD j []) = false) (hl : liveT tr (ll.getD k []) = true) : firstT ll tr = some k := by
  unfold firstT
  rw [List.findIdx?_eq_some_iff_getElem]
  refine ⟨hk, by rwa [getD_getElem hk] at hl, fun j hj => ?_⟩
  have := h j hj
  rw [getD_getElem (by omega)] at this
  simp [this]
theorem firstT_no {ll : List (List Int)} {tr : List St} (h : firstT ll tr = none) : ∀ c ∈ ll, liveT tr c = false := by
  unfold firstT at h
  rwa [List.findIdx?_eq_none_iff] at h
theorem firstT_yes {ll : List (List Int)} {tr : List St} {k : Nat} (h : firstT ll tr = some k) : k < ll.length ∧ liveT tr (ll.getD k []) = true := by
  unfold firstT at h
  rw [List.findIdx?_eq_some_iff_getElem] at h
  obtain ⟨hk, h1, _⟩ := h
  exact ⟨hk, by rwa [getD_getElem hk]⟩
/-- What follows at a level: the trail, and the conflict, or -1. -/
def propF (ll : List (List Int)) : Nat → List St → Int → List St × Int
  | 0, tr, _ => (tr, -1)
  | f + 1, tr, lev => match firstT ll tr with
    | none => (tr, -1)
    | some i => if falseT tr (ll.getD i []) = true then (tr, (i : Int)) else propF ll f (tr ++ [⟨unitT tr (ll.getD i []), i, lev⟩]) lev
def propL (ll : List (List Int)) (tr : List St) (lev : Int) : List St × Int := propF ll (300 - tr.length) tr lev
theorem prop_none {ll : List (List Int)} {tr : List St} {lev : Int} (h : firstT ll tr = none) : propL ll tr lev = (tr, -1) := by
  unfold propL
  cases 300 - tr.length with
  | zero => rfl
  | succ f => simp only [propF, h]
theorem prop_false {ll : List (List Int)} {tr : List St} {lev : Int} {k : Nat} (hl : tr.length < 300) (h : firstT ll tr = some k) (hf : falseT tr (ll.getD k []) = true) : propL ll tr lev = (tr, (k : Int)) := by
  unfold propL
  obtain ⟨f, hf'⟩ : ∃ f, 300 - tr.length = f + 1 := ⟨299 - tr.length, by omega⟩
  rw [hf']
  simp only [propF, h, hf, if_true]
theorem prop_step {ll : List (List Int)} {tr : List St} {lev : Int} {k : Nat} (hl : tr.length < 300) (h : firstT ll tr = some k) (hf : falseT tr (ll.getD k []) = false) :
    propL ll tr lev = propL ll (tr ++ [⟨unitT tr (ll.getD k []), k, lev⟩]) lev := by
  unfold propL
  rw [List.length_append]
  obtain ⟨f, hf'⟩ : ∃ f, 300 - tr.length = f + 1 := ⟨299 - tr.length, by omega⟩
  rw [hf', show 300 - (tr.length + [(⟨unitT tr (ll.getD k []), k, lev⟩ : St)].length) = f by simp; omega]
  simp only [propF, h, hf, Bool.false_eq_true, if_false]
/-- The trail of decisions; none: one of them is false already. -/
def trailF (ll : List (List Int)) : List Int → Nat → List St × Int → Option (List St × Int)
  | [], _, s => some s
  | d :: ds, i, s => if 0 ≤ s.2 then some s else if trueT s.1 (-d) = true then none else trailF ll ds (i + 1) (propL ll (if trueT s.1 d = true then s.1 else s.1 ++ [⟨d, -1, (i : Int) + 1⟩]) ((i : Int) + 1))
def trailO (ll : List (List Int)) (ds : List Int) : Option (List St × Int) := trailF ll ds 0 (propL ll [] 0)
/-- Can a trail be asked for? -/
def askB (n : Int) (ll : List (List Int)) (ds : List Int) : Bool := decide (theoryErr n ll = 0) && ds.all (litValid · n)
def trailL (n : Int) (ll : List (List Int)) (ds : List Int) : List St := if askB n ll ds then (match trailO ll ds with | some s => s.1 | none => []) else []
def trailC (n : Int) (ll : List (List Int)) (ds : List Int) : Int := if askB n ll ds then (match trailO ll ds with | some s => s.2 | none => 0) else 0
def trailE (n : Int) (ll : List (List Int)) (ds : List Int) : Int := if askB n ll ds then (match trailO ll ds with | some _ => 0 | none => 8) else 1
/-- The closure of a term. -/
def closB (n : Int) (ll : List (List Int)) (ds : List Int) : Bool := decide (trailE n ll ds = 0) && decide (trailC n ll ds < 0)
def closL (n : Int) (ll : List (List Int)) (ds : List Int) : List Int := if closB n ll ds then orderL ((trailL n ll ds).map St.lit) else []

/-- A trail whose literals are valid, of distinct variables. -/
structure Good (n : Int) (tr : List St) : Prop where
  val : ∀ s ∈ tr, litValid s.lit n = true
  con : ∀ x, trueT tr x = true → trueT tr (-x) = false
  nod : (tr.map St.lit).Nodup
theorem Good.nil (n : Int) : Good n [] := ⟨fun s hs => (by cases hs), fun x hx => (by cases hx), by simp⟩
theorem Good.add {n : Int} {tr : List St} (h : Good n tr) {s : St} (hv : litValid s.lit n = true) (ho : openT tr s.lit = true) : Good n (tr ++ [s]) := by
  obtain ⟨o1, o2⟩ := openT_iff.1 ho
  refine ⟨fun t ht => ?_, fun x hx => ?_, ?_⟩
  · rw [List.mem_append, List.mem_singleton] at ht
    rcases ht with ht | rfl
    · exact h.val t ht
    · exact hv
  · rw [trueT_append] at hx ⊢
    have hs0 : s.lit ≠ 0 := ((litValid_iff _ _).1 hv).1
    rcases or_true hx with hx | hx
    · rw [h.con x hx, Bool.false_or, beq_eq_false_iff_ne]
      intro e
      rw [e, Int.neg_neg, hx] at o2; cases o2
    · rw [beq_iff_eq] at hx
      subst hx
      rw [o2, Bool.false_or, beq_eq_false_iff_ne]; omega
  · rw [List.map_append, List.nodup_append]
    refine ⟨h.nod, by simp, fun a ha b hb => ?_⟩
    simp only [List.map_cons, List.map_nil, List.mem_singleton] at hb
    subst hb
    rintro rfl
    obtain ⟨t, ht, e⟩ := List.mem_map.1 ha
    have : trueT tr s.lit = true := trueT_iff.2 ⟨t, ht, e⟩
    rw [o1] at this; cases this
theorem len_le_of_sub : ∀ (l L : List Int), l.Nodup → (∀ x ∈ l, x ∈ L) → l.length ≤ L.length
  | [], _, _, _ => Nat.zero_le _
  | x :: t, L, h, hs => by
    have hx := hs x (by simp)
    obtain ⟨h1, h2⟩ := List.nodup_cons.1 h
    have ih := len_le_of_sub t (L.erase x) h2 (fun y hy => (List.mem_erase_of_ne (by rintro rfl; exact h1 hy)).2 (hs y (by simp [hy])))
    have e := List.length_erase_of_mem hx
    have := List.length_pos_of_mem hx
    simp only [List.length_cons]; omega
theorem Good.length {n : Int} {tr : List St} (h : Good n tr) : tr.length ≤ 257 := by
  have := len_le_of_sub (tr.map St.lit) ((List.range 257).map fun (k : Nat) => (k : Int) - 128) h.nod (fun x hx => by
    obtain ⟨s, hs, rfl⟩ := List.mem_map.1 hx
    have := (litValid_iff _ _).1 (h.val s hs)
    refine List.mem_map.2 ⟨(s.lit + 128).toNat, List.mem_range.2 (by omega), by omega⟩)
  simpa using this
theorem Good.zero {n : Int} {tr : List St} (h : Good n tr) : trueT tr 0 = false := by
  rw [Bool.eq_false_iff]
  intro e
  obtain ⟨s, hs, e⟩ := trueT_iff.1 e
  have := (litValid_iff _ _).1 (h.val s hs)
  omega
/-- What a unit clause hands out: one of its literals, open; the others are false. -/
theorem unitF_spec {tr : List St} : ∀ (c : List Int) (x : Int), (∀ y ∈ c, y ≠ 0) → unitF tr c x ≠ 0 → (x ≠ 0 → openT tr x = true) →
    (unitF tr c x = x ∨ unitF tr c x ∈ c) ∧ openT tr (unitF tr c x) = true ∧ (x ≠ 0 → unitF tr c x = x) ∧ ∀ y ∈ c, y ≠ unitF tr c x → trueT tr (-y) = true
  | [], x, _, h, hx => by
    simp only [unitF] at h ⊢
    exact ⟨.inl trivial, hx h, fun _ => trivial, fun y hy => by cases hy⟩
  | y :: t, x, hc, h, hx => by
    have hy0 : y ≠ 0 := hc y List.mem_cons_self
    have hc' : ∀ z ∈ t, z ≠ 0 := fun z hz => hc z (List.mem_cons_of_mem _ hz)
    simp only [unitF] at h ⊢
    by_cases h1 : trueT tr y = true
    · rw [if_pos h1] at h; exact absurd rfl h
    rw [if_neg h1] at h ⊢
    by_cases h2 : openT tr y = true
    · rw [if_pos h2] at h ⊢
      by_cases h3 : x ≠ 0 ∧ x ≠ y
      · rw [if_pos h3] at h; exact absurd rfl h
      rw [if_neg h3] at h ⊢
      obtain ⟨i1, i2, i3, i4⟩ := unitF_spec t y hc' h (fun _ => h2)
      have e := i3 hy0
      refine ⟨.inr (by rw [e]; exact List.mem_cons_self), i2, fun hx0 => by rw [e]; omega, fun z hz hne => ?_⟩
      rcases List.mem_cons.1 hz with rfl | hz
      · exact absurd e.symm hne
      · exact i4 z hz hne
    · rw [if_neg h2] at h ⊢
      obtain ⟨i1, i2, i3, i4⟩ := unitF_spec t x hc' h hx
      refine ⟨i1.imp id (List.mem_cons_of_mem _), i2, i3, fun z hz hne => ?_⟩
      rcases List.mem_cons.1 hz with rfl | hz
      · unfold openT at h2
        simp only [Bool.and_eq_true, Bool.not_eq_true', not_and] at h2
        have h1' : trueT tr z = false := by simpa using h1
        have := h2 h1'
        simpa using this
      · exact i4 z hz hne
theorem unitT_spec {tr : List St} {c : List Int} (hc : ∀ y ∈ c, y ≠ 0) (h : unitT tr c ≠ 0) : unitT tr c ∈ c ∧ openT tr (unitT tr c) = true ∧ ∀ y ∈ c, y ≠ unitT tr c → trueT tr (-y) = true := by
  obtain ⟨i1, i2, _, i4⟩ := unitF_spec c 0 hc h (fun e => absurd rfl e)
  refine ⟨i1.resolve_left h, i2, i4⟩
/-- Looked through once, as the program does it: none: true, or two open ones; otherwise the open one, or 0. -/
def scanF (tr : List St) : List Int → Int → Option Int
  | [], x => some x
  | y :: t, x => if trueT tr y = true then none else if trueT tr (-y) = true ∨ y = x then scanF tr t x else if x = 0 then scanF tr t y else none
theorem scan_unit {tr : List St} : ∀ (c : List Int) (x : Int), (∀ y ∈ c, y ≠ 0) → (x ≠ 0 → openT tr x = true) → unitF tr c x = (scanF tr c x).getD 0
  | [], x, _, _ => rfl
  | y :: t, x, hc, hx => by
    have hy0 : y ≠ 0 := hc y List.mem_cons_self
    have hc' : ∀ z ∈ t, z ≠ 0 := fun z hz => hc z (List.mem_cons_of_mem _ hz)
    simp only [unitF, scanF]
    by_cases h1 : trueT tr y = true
    · rw [if_pos h1, if_pos h1]; rfl
    rw [if_neg h1, if_neg h1]
    by_cases h2 : trueT tr (-y) = true
    · have : ¬ openT tr y = true := by rw [openT_iff, h2]; simp
      rw [if_neg this, if_pos (.inl h2)]
      exact scan_unit t x hc' hx
    · have ho : openT tr y = true := by rw [openT_iff]; exact ⟨by simpa using h1, by simpa using h2⟩
      rw [if_pos ho]
      by_cases h3 : y = x
      · subst h3
        rw [if_neg (by simp), if_pos (.inr rfl)]
        exact scan_unit t y hc' hx
      · have e2 : ¬ (trueT tr (-y) = true ∨ y = x) := fun h => h.elim h2 h3
        rw [if_neg e2]
        by_cases h4 : x = 0
        · rw [if_neg (by simp [h4]), if_pos h4]
          exact scan_unit t y hc' (fun _ => ho)
        · rw [if_pos ⟨h4, fun e => h3 e.symm⟩, if_neg h4]; rfl
theorem scan_zero {tr : List St} : ∀ (c : List Int) (x : Int), (∀ y ∈ c, y ≠ 0) → scanF tr c x = some 0 → x = 0 ∧ ∀ y ∈ c, trueT tr (-y) = true
  | [], x, _, h => by
    simp only [scanF, Option.some.injEq] at h
    exact ⟨h, fun y hy => by cases hy⟩
  | y :: t, x, hc, h => by
    have hy0 : y ≠ 0 := hc y List.mem_cons_self
    have hc' : ∀ z ∈ t, z ≠ 0 := fun z hz => hc z (List.mem_cons_of_mem _ hz)
    simp only [scanF] at h
    by_cases h1 : trueT tr y = true
    · rw [if_pos h1] at h; cases h
    rw [if_neg h1] at h
    by_cases h2 : trueT tr (-y) = true ∨ y = x
    · rw [if_pos h2] at h
      obtain ⟨i1, i2⟩ := scan_zero t x hc' h
      refine ⟨i1, fun z hz => ?_⟩
      rcases List.mem_cons.1 hz with rfl | hz
      · rcases h2 with h2 | h2
        · exact h2
        · omega
      · exact i2 z hz
    · rw [if_neg h2] at h
      by_cases h4 : x = 0
      · rw [if_pos h4] at h
        exact absurd (scan_zero t y hc' h).1 hy0
      · rw [if_neg h4] at h; cases h
theorem scan_false {tr : List St} (hcon : ∀ x, trueT tr x = true → trueT tr (-x) = false) : ∀ (c : List Int), (∀ y ∈ c, trueT tr (-y) = true) → scanF tr c 0 = some 0
  | [], _ => rfl
  | y :: t, h => by
    have hy := h y List.mem_cons_self
    have : ¬ trueT tr y = true := fun e => by have := hcon y e; rw [hy] at this; cases this
    simp only [scanF]
    rw [if_neg this, if_pos (.inl hy)]
    exact scan_false hcon t fun z hz => h z (List.mem_cons_of_mem _ hz)
/-- What the program's look at a clause says. -/
theorem scan_none {n : Int} {tr : List St} (hg : Good n tr) {c : List Int} (hc : ∀ y ∈ c, y ≠ 0) (h : scanF tr c 0 = none) : liveT tr c = false := by
  have e := scan_unit c 0 hc (tr := tr) (fun e => absurd rfl e)
  rw [h] at e
  unfold liveT unitT
  rw [e]
  have : falseT tr c = false := by
    rw [Bool.eq_false_iff]
    intro hf
    have := scan_false hg.con c (List.all_eq_true.1 hf)
    rw [h] at this; cases this
  rw [this]; rfl
theorem scan_some {n : Int} {tr : List St} (hg : Good n tr) {c : List Int} (hc : ∀ y ∈ c, y ≠ 0) {x : Int} (h : scanF tr c 0 = some x) :
    liveT tr c = true ∧ falseT tr c = decide (x = 0) ∧ unitT tr c = x := by
  have e := scan_unit c 0 hc (tr := tr) (fun e => absurd rfl e)
  rw [h] at e
  have e' : unitT tr c = x := e
  by_cases hx : x = 0
  · subst hx
    have hf : falseT tr c = true := List.all_eq_true.2 (scan_zero c 0 hc h).2
    refine ⟨?_, ?_, e'⟩
    · unfold liveT; rw [hf]; rfl
    · rw [hf]; rfl
  · have hf : falseT tr c = false := by
      rw [Bool.eq_false_iff]
      intro hf
      have := scan_false hg.con c (List.all_eq_true.1 hf)
      rw [h] at this; cases this; exact hx rfl
    refine ⟨?_, ?_, e'⟩
    · unfold liveT; rw [e']; simp [hx]
    · rw [hf]; simp [hx]
/-- A step of propagation keeps a trail good. -/
theorem Good.step {n : Int} {ll : List (List Int)} {tr : List St} (h : Good n tr) (ht : theoryErr n ll = 0) {k : Nat} {why lev : Int} (hf : firstT ll tr = some k) (hn : falseT tr (ll.getD k []) = false) :
    Good n (tr ++ [⟨unitT tr (ll.getD k []), why, lev⟩]) ∧ unitT tr (ll.getD k []) ≠ 0 ∧ unitT tr (ll.getD k []) ∈ ll.getD k [] := by
  obtain ⟨hk, hl⟩ := firstT_yes hf
  have hm : ll.getD k [] ∈ ll := by rw [getD_getElem hk]; exact List.getElem_mem hk
  have hv := ((theoryErr_zero ht).2.2.2 _ hm).2
  have hc : ∀ y ∈ ll.getD k [], y ≠ 0 := fun y hy => ((litValid_iff _ _).1 (hv y hy)).1
  have hu : unitT tr (ll.getD k []) ≠ 0 := by
    unfold liveT at hl
    rw [hn, Bool.false_or, bne_iff_ne] at hl
    exact hl
  obtain ⟨s1, s2, _⟩ := unitT_spec hc hu
  exact ⟨h.add (hv _ s1) s2, hu, s1⟩
end Go.Proofs.Ytlaejhmpnlcceaa
