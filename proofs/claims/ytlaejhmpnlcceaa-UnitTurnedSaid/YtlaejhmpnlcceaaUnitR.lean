/- Unit propagation, plainly: the reasons of a trail; what is true in all models; what two closures have in common. No Go in sight. -/
import Derived.Test.YtlaejhmpnlcceaaUnitQ
namespace Go.Proofs.Ytlaejhmpnlcceaa
set_option linter.unusedSimpArgs false
set_option linter.unusedVariables false
open Go.RowKit
/-- The literal of each step was open; its reason, if it has one, was unit. -/
def JustAt (ll : List (List Int)) (tr : List St) (s : St) : Prop := openT tr s.lit = true ∧ -1 ≤ s.why ∧ s.why < ll.length ∧ (0 ≤ s.why → unitT tr (ll.getD s.why.toNat []) = s.lit)
def Just (ll : List (List Int)) (tr : List St) : Prop := ∀ i, i < tr.length → JustAt ll (tr.take i) (tr.getD i default)
theorem Just.nil (ll : List (List Int)) : Just ll [] := fun i hi => by cases hi
theorem Just.add {ll : List (List Int)} {tr : List St} {s : St} (h : Just ll tr) (hs : JustAt ll tr s) : Just ll (tr ++ [s]) := fun i hi => by
  rw [List.length_append] at hi
  by_cases e : i < tr.length
  · have := h i e
    rw [List.take_append_of_le_length (by omega), getD_getElem (by simp; omega), List.getElem_append_left e]
    rwa [getD_getElem e] at this
  · obtain rfl : i = tr.length := by simp at hi; omega
    rw [List.take_left, getD_getElem (by simp), List.getElem_append_right (Nat.le_refl _)]
    simpa using hs
/-- The level of each step: its decision was made at it, and no later step has a lower one. -/
structure Steps (n : Int) (ll : List (List Int)) (ds : List Int) (i : Nat) (tr : List St) : Prop where
  just : Just ll tr
  lev : ∀ s ∈ tr, 0 ≤ s.lev ∧ s.lev ≤ i
theorem trail_steps {n : Int} {ll : List (List Int)} {ds : List Int} (h : trailE n ll ds = 0) :
    Good n (trailL n ll ds) ∧ Just ll (trailL n ll ds) ∧ EndOk ll (trailL n ll ds, trailC n ll ds) := by
  obtain ⟨ha, ho⟩ := trailE_zero h
  obtain ⟨ht, hv⟩ := askB_iff.1 ha
  obtain ⟨k1, _⟩ := trail_ind ht hv (P := fun _ tr => Just ll tr) (Just.nil ll)
    (fun i tr k hi hg hp hf hn => hp.add (by
      obtain ⟨g1, g2, g3⟩ := hg.step ht (why := 0) (lev := 0) hf hn
      obtain ⟨hk, _⟩ := firstT_yes hf
      have hmem : ll.getD k [] ∈ ll := by rw [getD_getElem hk]; exact List.getElem_mem hk
      have hc : ∀ y ∈ ll.getD k [], y ≠ 0 := fun y hy => ((litValid_iff _ _).1 (((theoryErr_zero ht).2.2.2 _ hmem).2 y hy)).1
      exact ⟨(unitT_spec hc g2).2.1, by show (-1 : Int) ≤ (k : Int); omega, by show (k : Int) < _; omega, fun _ => by simp⟩))
    (fun i tr hi hg hp ho => hp.add ⟨ho, by simp, by show (-1 : Int) < _; omega, fun h => by simp at h⟩)
    (fun i tr hi hg hp ho => hp)
  obtain ⟨i, _, q2, q3, q4, _⟩ := k1 _ ho
  exact ⟨q2, q3, q4⟩
theorem holdsB_neg {x y : Nat} {l : Int} (h : litVar l ≠ 0) : holdsB x y (-l) = !holdsB x y l := by
  unfold holdsB
  have e : litVar (-l) = litVar l := by unfold litVar at *; (repeat' split) <;> omega
  have hd : decide (0 < -l) = !decide (0 < l) := by
    have : l ≠ 0 := by rintro rfl; exact h rfl
    rw [Bool.eq_iff_iff]; simp; omega
  have hb : (litVar l != 0) = true := by simpa using h
  rw [e, hd, hb]
  cases hasB x y (litVar l) <;> cases decide (0 < l) <;> rfl
theorem evalB_clause {n : Int} {ll : List (List Int)} {x y : Nat} (h : evalB n ll x y = true) : theoryErr n ll = 0 ∧ ∀ c ∈ ll, ∃ l ∈ c, holdsB x y l = true := by
  unfold evalB clausesB at h
  simp only [Bool.and_eq_true, decide_eq_true_eq, List.all_eq_true, List.any_eq_true] at h
  exact ⟨h.1, h.2.2⟩
/-- In each model what is true after the decisions up to a level is true. -/
theorem trail_follows {n : Int} {ll : List (List Int)} {ds : List Int} {x y : Nat} (h : trailE n ll ds = 0) (hm : evalB n ll x y = true) :
    (∀ s ∈ trailL n ll ds, 0 ≤ s.lev ∧ s.lev ≤ ds.length ∧ ((ds.take s.lev.toNat).all (holdsB x y) = true → holdsB x y s.lit = true)) ∧
    (0 ≤ trailC n ll ds → ds.all (holdsB x y) = false) := by
  obtain ⟨ha, ho⟩ := trailE_zero h
  obtain ⟨ht, hv⟩ := askB_iff.1 ha
  obtain ⟨_, hcl⟩ := evalB_clause hm
  have hsub : ∀ (a b : Nat), a ≤ b → (ds.take b).all (holdsB x y) = true → (ds.take a).all (holdsB x y) = true := fun a b hab hh => by
    rw [List.all_eq_true] at *
    exact fun z hz => hh z (by
      have : ds.take a = (ds.take b).take a := by rw [List.take_take, Nat.min_eq_left hab]
      rw [this] at hz; exact List.mem_of_mem_take hz)
  obtain ⟨k1, _⟩ := trail_ind ht hv (P := fun i tr => ∀ s ∈ tr, 0 ≤ s.lev ∧ s.lev ≤ (i : Int) ∧ ((ds.take s.lev.toNat).all (holdsB x y) = true → holdsB x y s.lit = true)) (fun s hs => by cases hs)
    (fun i tr k hi hg hp hf hn s hs => by
      rw [List.mem_append, List.mem_singleton] at hs
      rcases hs with hs | rfl
      · exact hp s hs
      obtain ⟨g1, g2, g3⟩ := hg.step ht (why := 0) (lev := 0) hf hn
      obtain ⟨hk, _⟩ := firstT_yes hf
      have hmem : ll.getD k [] ∈ ll := by rw [getD_getElem hk]; exact List.getElem_mem hk
      have hcv := ((theoryErr_zero ht).2.2.2 _ hmem).2
      have hc : ∀ y ∈ ll.getD k [], y ≠ 0 := fun y hy => ((litValid_iff _ _).1 (hcv y hy)).1
      refine ⟨Int.natCast_nonneg i, Int.le_refl _, fun hall => ?_⟩
      simp only [Int.toNat_natCast] at hall
      obtain ⟨l, hl, hh⟩ := hcl _ hmem
      by_cases e : l = unitT tr (ll.getD k [])
      · show holdsB x y (unitT tr (ll.getD k [])) = true
        rw [← e]; exact hh
      · exfalso
        obtain ⟨t, ht', e'⟩ := trueT_iff.1 ((unitT_spec hc g2).2.2 l hl e)
        obtain ⟨p1, p2, p3⟩ := hp t ht'
        have := p3 (hsub _ i (by omega) hall)
        rw [e', holdsB_neg (litVar_ne (hcv l hl)), hh] at this
        cases this)
    (fun i tr hi hg hp ho s hs => by
      rw [List.mem_append, List.mem_singleton] at hs
      rcases hs with hs | rfl
      · obtain ⟨p1, p2, p3⟩ := hp s hs
        exact ⟨p1, by omega, p3⟩
      refine ⟨by show (0 : Int) ≤ (i : Int) + 1; omega, by show (i : Int) + 1 ≤ _; omega, fun hall => ?_⟩
      have e : ((i : Int) + 1).toNat = i + 1 := by omega
      simp only [e] at hall
      rw [List.all_eq_true] at hall
      refine hall _ ?_
      rw [List.take_succ_eq_append_getElem hi, getD_getElem hi]
      exact List.mem_append.2 (.inr (List.mem_singleton.2 rfl)))
    (fun i tr hi hg hp ho s hs => by
      obtain ⟨p1, p2, p3⟩ := hp s hs
      exact ⟨p1, by omega, p3⟩)
  obtain ⟨i, q1, q2, q3, q4, _⟩ := k1 _ ho
  refine ⟨fun s hs => ?_, fun hc => ?_⟩
  · obtain ⟨p1, p2, p3⟩ := q3 s hs
    exact ⟨p1, by omega, p3⟩
  · rcases q4 with ⟨q, _⟩ | ⟨k, q, hk, hf⟩
    · simp only at q; omega
    · rw [Bool.eq_false_iff]
      intro hall
      have hmem : ll.getD k [] ∈ ll := by rw [getD_getElem hk]; exact List.getElem_mem hk
      have hcv := ((theoryErr_zero ht).2.2.2 _ hmem).2
      obtain ⟨l, hl, hh⟩ := hcl _ hmem
      obtain ⟨t, ht', e'⟩ := trueT_iff.1 (List.all_eq_true.1 hf l hl)
      obtain ⟨p1, p2, p3⟩ := q3 t ht'
      have := p3 (hsub _ ds.length (by omega) (by rw [List.take_length]; exact hall))
      rw [e', holdsB_neg (litVar_ne (hcv l hl)), hh] at this
      cases this
/-- Without a conflict, no clause is false or unit at the end. -/
theorem trail_ends {n : Int} {ll : List (List Int)} {ds : List Int} (h : trailE n ll ds = 0) (hc : trailC n ll ds < 0) : ∀ c ∈ ll, falseT (trailL n ll ds) c = false ∧ unitT (trailL n ll ds) c = 0 := by
  obtain ⟨_, _, q⟩ := trail_steps h
  rcases q with ⟨_, q⟩ | ⟨k, q, _⟩
  · intro c hm
    have := firstT_no q c hm
    unfold liveT at this
    rw [Bool.or_eq_false_iff] at this
    exact ⟨this.1, by simpa using this.2⟩
  · simp only at q; omega
end Go.Proofs.Ytlaejhmpnlcceaa
