/- Learned clauses, plainly: what unit propagation returns is a trail; going back with the learned clause added; the reference's conflicts. No Go in sight. -/
import Derived.Test.YteagoaiiacideaaLearnR
namespace Go.Proofs.Yteagoaiiacideaa
set_option linter.unusedSimpArgs false
set_option linter.unusedVariables false
open Go.RowKit
set_option maxRecDepth 20000
/-- As trail_ind, but that a decision is asked where nothing follows any more. -/
theorem trail_ind2 {n : Int} {ll : List (List Int)} {ds : List Int} (ht : theoryErr n ll = 0) (hv : ∀ d ∈ ds, litValid d n = true) {P : Nat → List St → Prop} (h0 : P 0 [])
    (hs : ∀ i tr k, i ≤ ds.length → Good n tr → P i tr → firstT ll tr = some k → falseT tr (ll.getD k []) = false → P i (tr ++ [⟨unitT tr (ll.getD k []), (k : Nat), (i : Nat)⟩]))
    (hd : ∀ i tr, i < ds.length → Good n tr → P i tr → firstT ll tr = none → openT tr (ds.getD i 0) = true → P (i + 1) (tr ++ [⟨ds.getD i 0, -1, (i : Nat) + 1⟩]))
    (hk : ∀ i tr, i < ds.length → Good n tr → P i tr → firstT ll tr = none → trueT tr (ds.getD i 0) = true → P (i + 1) tr) :
    ∀ s, trailO ll ds = some s → ∃ i, i ≤ ds.length ∧ Good n s.1 ∧ P i s.1 := by
  have key : ∀ (m i : Nat) (s : List St × Int), m = ds.length - i → i ≤ ds.length → Good n s.1 → P i s.1 → EndOk ll s →
      (∀ r, trailF ll (ds.drop i) i s = some r → ∃ i, i ≤ ds.length ∧ Good n r.1 ∧ P i r.1) := by
    intro m
    induction m with
    | zero =>
      intro i s hm hi hg hp he
      obtain rfl : i = ds.length := by omega
      rw [List.drop_length]
      simp only [trailF]
      exact fun r hr => by cases hr; exact ⟨ds.length, Nat.le_refl _, hg, hp⟩
    | succ m ih =>
      intro i s hm hi hg hp he
      have hlt : i < ds.length := by omega
      rw [List.drop_eq_getElem_cons hlt]
      have ed : ds.getD i 0 = ds[i] := getD_getElem hlt
      simp only [trailF]
      by_cases h1 : 0 ≤ s.2
      · rw [if_pos h1]
        exact fun r hr => by cases hr; exact ⟨i, hi, hg, hp⟩
      rw [if_neg h1]
      have hno : firstT ll s.1 = none := by
        rcases he with ⟨_, e⟩ | ⟨k, e, _⟩
        · exact e
        · omega
      by_cases h2 : trueT s.1 (-ds[i]) = true
      · rw [if_pos h2]
        exact fun r hr => by cases hr
      rw [if_neg h2]
      have hg2 : Good n (if trueT s.1 ds[i] = true then s.1 else s.1 ++ [⟨ds[i], -1, (i : Int) + 1⟩]) ∧ P (i + 1) (if trueT s.1 ds[i] = true then s.1 else s.1 ++ [⟨ds[i], -1, (i : Int) + 1⟩]) := by
        by_cases h3 : trueT s.1 ds[i] = true
        · rw [if_pos h3]; exact ⟨hg, hk i s.1 hlt hg hp hno (by rw [ed]; exact h3)⟩
        · have ho : openT s.1 ds[i] = true := by rw [openT_iff]; exact ⟨by simpa using h3, by simpa using h2⟩
          rw [if_neg h3]
          exact ⟨hg.add (hv _ (List.getElem_mem hlt)) ho, by have := hd i s.1 hlt hg hp hno (by rw [ed]; exact ho); rwa [ed] at this⟩
      obtain ⟨q1, q2, q3⟩ := prop_ind ht (lev := (i : Int) + 1) (P := P (i + 1)) (fun tr k g p f x => by have := hs (i + 1) tr k hlt g p f x; simpa using this) _ _ rfl hg2.1 hg2.2
      exact ih (i + 1) _ (by omega) hlt q1 q2 q3
  obtain ⟨q1, q2, q3⟩ := prop_ind ht (lev := 0) (P := P 0) (fun tr k g p f x => hs 0 tr k (Nat.zero_le _) g p f x) _ [] rfl (Good.nil n) h0
  have := key ds.length 0 (propL ll [] 0) rfl (Nat.zero_le _) q1 q2 q3
  simpa [trailO] using this
theorem sL_append {tr : List St} {s : St} {j : Nat} (h : j < tr.length) : (tr ++ [s]).getD j default = tr.getD j default := by
  rw [getD_getElem (by simp; omega), getD_getElem h, List.getElem_append_left h]
theorem sL_new {tr : List St} {s : St} : (tr ++ [s]).getD tr.length default = s := by
  rw [getD_getElem (by simp), List.getElem_append_right (Nat.le_refl _)]; simp
theorem levAt_append {tr : List St} {s : St} {j : Nat} (h : j ≤ tr.length) : levAt (tr ++ [s]) j = levAt tr j := by
  unfold levAt
  by_cases e : j = 0
  · rw [if_pos e, if_pos e]
  · rw [if_neg e, if_neg e]
    unfold sV
    rw [sL_append (by omega)]
theorem stepAt_append {n : Int} {ll : List (List Int)} {tr : List St} {s : St} (h : trailB n ll tr = true) (hs : stepOk n ll tr (levAt tr tr.length) s = true) : trailB n ll (tr ++ [s]) = true := by
  rw [trailB_iff] at *
  intro i hi
  rw [List.length_append, List.length_singleton] at hi
  unfold stepAt
  by_cases e : i < tr.length
  · rw [List.take_append_of_le_length (by omega), sL_append e, levAt_append (by omega)]
    exact h i e
  · obtain rfl : i = tr.length := by omega
    rw [List.take_left, sL_new, levAt_append (Nat.le_refl _)]
    exact hs
/-- What Trail returns is a trail. -/
theorem trail_is {n : Int} {ll : List (List Int)} {ds : List Int} (h : trailE n ll ds = 0) : trailB n ll (trailL n ll ds) = true := by
  obtain ⟨ha, ho⟩ := trailE_zero h
  obtain ⟨ht, hv⟩ := askB_iff.1 ha
  obtain ⟨i, _, _, q, _⟩ := trail_ind2 ht hv (P := fun i tr => trailB n ll tr = true ∧ levAt tr tr.length ≤ (i : Int) ∧ (levAt tr tr.length = (i : Int) ∨ firstT ll tr = none))
    ⟨rfl, by simp [levAt], .inl (by simp [levAt])⟩
    (fun i tr k hi hg ⟨p1, p2, p3⟩ hf hn => by
      obtain ⟨g1, g2, g3⟩ := hg.step ht (why := 0) (lev := 0) hf hn
      obtain ⟨hk, _⟩ := firstT_yes hf
      have hmem : ll.getD k [] ∈ ll := by rw [getD_getElem hk]; exact List.getElem_mem hk
      have hcv := ((theoryErr_zero ht).2.2.2 _ hmem).2
      have hc : ∀ y ∈ ll.getD k [], y ≠ 0 := fun y hy => ((litValid_iff _ _).1 (hcv y hy)).1
      have hsp := unitT_spec hc g2
      have hl : levAt tr tr.length = (i : Int) := p3.resolve_right (by rw [hf]; simp)
      refine ⟨stepAt_append p1 ?_, ?_, ?_⟩
      · unfold stepOk
        rw [Bool.and_eq_true, Bool.and_eq_true]
        refine ⟨⟨hcv _ g3, hsp.2.1⟩, ?_⟩
        have hne : ¬ ((k : Nat) : Int) = -1 := by omega
        simp only [if_neg hne, Bool.and_eq_true, decide_eq_true_eq]
        refine ⟨hl.symm, by omega, by omega, ?_⟩
        rw [Int.toNat_natCast]
        unfold reasonB
        rw [Bool.and_eq_true, List.contains_iff_mem, List.all_eq_true]
        refine ⟨g3, fun y hy => ?_⟩
        rw [Bool.or_eq_true, beq_iff_eq]
        by_cases e : y = unitT tr (ll.getD k [])
        · exact .inl e
        · exact .inr (hsp.2.2 y hy e)
      · rw [List.length_append, List.length_singleton, levAt_succ]; unfold sV; rw [sL_new]; exact Int.le_refl _
      · left; rw [List.length_append, List.length_singleton, levAt_succ]; unfold sV; rw [sL_new])
    (fun i tr hi hg ⟨p1, p2, p3⟩ hf ho => by
      refine ⟨stepAt_append p1 ?_, ?_, ?_⟩
      · unfold stepOk
        rw [Bool.and_eq_true, Bool.and_eq_true]
        refine ⟨⟨hv _ (by rw [getD_getElem hi]; exact List.getElem_mem hi), ho⟩, ?_⟩
        simp only [if_true, decide_eq_true_eq]
        omega
      · rw [List.length_append, List.length_singleton, levAt_succ]; unfold sV; rw [sL_new]; exact Int.le_refl _
      · left; rw [List.length_append, List.length_singleton, levAt_succ]; unfold sV; rw [sL_new]; rfl)
    (fun i tr hi hg ⟨p1, p2, p3⟩ hf ho => ⟨p1, by omega, .inr hf⟩) _ ho
  exact q
/-- .. and its conflict is one. -/
theorem trail_conf {n : Int} {ll : List (List Int)} {ds : List Int} (h : trailE n ll ds = 0) : firstOk n ll (trailL n ll ds) (trailC n ll ds) = decide (0 ≤ trailC n ll ds) := by
  obtain ⟨ha, ho⟩ := trailE_zero h
  obtain ⟨ht, hv⟩ := askB_iff.1 ha
  obtain ⟨_, _, q⟩ := trail_steps h
  by_cases hc : 0 ≤ trailC n ll ds
  · rw [decide_eq_true hc, firstOk_iff]
    rcases q with ⟨q, _⟩ | ⟨k, q, hk, hf⟩
    · simp only at q; omega
    · simp only at q hf
      refine ⟨ht, trail_is h, hc, by omega, ?_⟩
      rw [q, Int.toNat_natCast]
      exact fun y hy => List.all_eq_true.1 hf y hy
  · rw [decide_eq_false hc, Bool.eq_false_iff]
    intro hh
    exact hc (firstOk_iff.1 hh).2.2.1
theorem trail_len {n : Int} {ll : List (List Int)} {ds : List Int} : (trailL n ll ds).length ≤ 1000 := by
  by_cases h : trailE n ll ds = 0
  · have := (trail_steps h).1.length; omega
  · rw [(trail_bad h).1]; simp
/-! ### Levels of the learned clause -/
theorem learned_rep {n : Int} {ll : List (List Int)} {tr : List St} {cf : Int} (h : firstOk n ll tr cf = true) (hp : 0 < firstTop ll tr cf) : RepC tr (firstL n ll tr cf) (finalS ll tr cf) := by
  refine ⟨?_, fun y => firstL_mem h hp⟩
  unfold firstL
  rw [if_pos ⟨h, hp⟩]
  refine List.Pairwise.imp ?_ (orderL_strict _)
  intro a b hab e
  subst e
  exact Int.lt_irrefl _ hab
theorem learned_back {n : Int} {ll : List (List Int)} {tr : List St} {cf : Int} (h : firstOk n ll tr cf = true) (hp : 0 < firstTop ll tr cf) : firstK n ll tr cf = backL tr (firstL n ll tr cf) (firstTop ll tr cf) ∧ 0 ≤ firstK n ll tr cf ∧ firstK n ll tr cf < firstTop ll tr cf := by
  obtain ⟨_, h2, _⟩ := firstOk_iff.1 h
  have ht := trl_of h2
  have e : firstK n ll tr cf = backL tr (firstL n ll tr cf) (firstTop ll tr cf) := by
    unfold firstK
    rw [if_pos h, if_pos hp, back_eq ht (learned_rep h hp)]
  refine ⟨e, ?_, ?_⟩
  · rw [e]; exact (foldl_max _ _ 0).1
  · rw [e]
    refine foldl_max_lt hp fun y hy => ?_
    rw [List.mem_filter, decide_eq_true_eq] at hy
    exact hy.2
/-- The levels of its literals: all at most the greatest; one has it. -/
theorem learned_levels {n : Int} {ll : List (List Int)} {tr : List St} {cf : Int} (h : firstOk n ll tr cf = true) (hp : 0 < firstTop ll tr cf) :
    (∀ y ∈ firstL n ll tr cf, 0 ≤ levelOf tr y ∧ levelOf tr y ≤ firstTop ll tr cf ∧ (levelOf tr y < firstTop ll tr cf → levelOf tr y ≤ firstK n ll tr cf) ∧ levelOf tr (-y) = -1) ∧ ((firstL n ll tr cf).filter fun y => levelOf tr y == firstTop ll tr cf).length = 1 ∧ topI tr (firstL n ll tr cf) = firstTop ll tr cf ∧ firstL n ll tr cf ≠ [] := by
  obtain ⟨_, h2, _⟩ := firstOk_iff.1 h
  have ht := trl_of h2
  have hL := learned h hp
  have hR := learned_rep h hp
  have hone := repC_many ht hR (firstTop ll tr cf)
  rw [hL.one] at hone
  have hall : ∀ y ∈ firstL n ll tr cf, 0 ≤ levelOf tr y ∧ levelOf tr y ≤ firstTop ll tr cf ∧ (levelOf tr y < firstTop ll tr cf → levelOf tr y ≤ firstK n ll tr cf) ∧ levelOf tr (-y) = -1 := fun y hy => by
    obtain ⟨k, hk, hF, rfl⟩ := (hR.mem y).1 hy
    have e := repC_level ht hk
    rw [e]
    refine ⟨ht.lev_nonneg hk, hL.le k hF, fun hlt => ?_, ?_⟩
    · rw [(learned_back h hp).1]
      have := (foldl_max (levelOf tr) ((firstL n ll tr cf).filter fun y => decide (levelOf tr y < firstTop ll tr cf)) 0).2.1 (-sL tr k) (List.mem_filter.2 ⟨hy, by rw [decide_eq_true_eq, e]; exact hlt⟩)
      rw [e] at this
      exact this
    · unfold levelOf
      have : wrongN tr (- -sL tr k) = none := by
        cases hw : wrongN tr (- -sL tr k) with
        | none => rfl
        | some j =>
          obtain ⟨hj, ej⟩ := wrongN_some hw
          exact absurd (by omega) (ht.lit_ne hj hk)
      rw [this]
  refine ⟨hall, hone, ?_, fun e => by rw [e] at hone; cases hone⟩
  obtain ⟨a1, a2, a3⟩ := foldl_max (levelOf tr) (firstL n ll tr cf) (-1)
  obtain ⟨y, hy⟩ := List.length_pos_iff_exists_mem.1 (by rw [hone]; exact Nat.one_pos)
  rw [List.mem_filter, beq_iff_eq] at hy
  have := a2 y hy.1
  unfold topI
  rcases a3 with a3 | ⟨z, hz, a3⟩
  · omega
  · have := (hall z hz).2.1; omega
/-! ### Going back -/
/-- The decisions up to a level. -/
def decsL (tr : List St) (b : Int) : List Int := (tr.filter fun s => s.why == -1 && decide (s.lev ≤ b)).map St.lit
theorem decsL_mem {tr : List St} {b : Int} {k : Nat} (hk : k < tr.length) (hw : sW tr k = -1) (hv : sV tr k ≤ b) : sL tr k ∈ decsL tr b := by
  unfold decsL
  refine List.mem_map.2 ⟨tr.getD k default, List.mem_filter.2 ⟨by rw [getD_getElem hk]; exact List.getElem_mem hk, ?_⟩, rfl⟩
  rw [Bool.and_eq_true, beq_iff_eq, decide_eq_true_eq]
  exact ⟨hw, hv⟩
theorem low_in {n : Int} {ll : List (List Int)} {tr : List St} (ht : Trl n ll tr) {b : Int} {T : Int → Prop} (hT : Shut ll T) (hd : ∀ d ∈ decsL tr b, T d) : ∀ k, k < tr.length → sV tr k ≤ b → T (sL tr k) := by
  intro k
  induction k using Nat.strongRecOn with
  | ind k ih =>
    intro hk hb
    by_cases hw : sW tr k = -1
    · exact hd _ (decsL_mem hk hw hb)
    · obtain ⟨_, _, _, hm, hall⟩ := ht.res k hk hw
      refine hT _ (mem_reason ht hk hw) _ hm fun y hy hne => ?_
      obtain ⟨j, hj, ej⟩ := hall y hy hne
      rw [← ej]
      have := ht.lev_mono (i := j) (j := k) (by omega) hk
      exact ih j hj (by omega) (by omega)
/-- With the learned clause added, its open literal becomes true, or there is a conflict. -/
theorem again_true {n : Int} {ll : List (List Int)} {tr : List St} {cf : Int} (h : firstOk n ll tr cf = true)
    (he : trailE n (ll ++ [firstL n ll tr cf]) (decsL tr (firstK n ll tr cf)) = 0) (hc : trailC n (ll ++ [firstL n ll tr cf]) (decsL tr (firstK n ll tr cf)) < 0) :
    ∃ y ∈ firstL n ll tr cf, trueT (trailL n (ll ++ [firstL n ll tr cf]) (decsL tr (firstK n ll tr cf))) y = true := by
  have hb : closB n (ll ++ [firstL n ll tr cf]) (decsL tr (firstK n ll tr cf)) = true := by unfold closB; rw [he, decide_eq_true hc]; rfl
  obtain ⟨hf, _⟩ := clos_fits hb
  have hcm : firstL n ll tr cf ∈ ll ++ [firstL n ll tr cf] := List.mem_append_right _ (List.mem_singleton.2 rfl)
  by_cases hp : 0 < firstTop ll tr cf
  · obtain ⟨_, h2, _⟩ := firstOk_iff.1 h
    have ht := trl_of h2
    obtain ⟨hall, hone, _, _⟩ := learned_levels h hp
    have hshut : Shut ll (fun x => trueT (trailL n (ll ++ [firstL n ll tr cf]) (decsL tr (firstK n ll tr cf))) x = true) := fun c hc => hf.shut c (List.mem_append_left _ hc)
    have hlow := low_in ht hshut hf.has
    obtain ⟨y, hy⟩ := List.length_eq_one_iff.1 hone
    have hym : y ∈ (firstL n ll tr cf).filter fun y => levelOf tr y == firstTop ll tr cf := by rw [hy]; exact List.mem_singleton.2 rfl
    rw [List.mem_filter, beq_iff_eq] at hym
    refine ⟨y, hym.1, hf.shut _ hcm y hym.1 fun z hz hne => ?_⟩
    have hzl : levelOf tr z ≠ firstTop ll tr cf := fun e => by
      have : z ∈ (firstL n ll tr cf).filter fun y => levelOf tr y == firstTop ll tr cf := List.mem_filter.2 ⟨hz, beq_iff_eq.2 e⟩
      rw [hy, List.mem_singleton] at this
      exact hne this
    obtain ⟨_, g2, g3, _⟩ := hall z hz
    obtain ⟨k, hk, hF, rfl⟩ := (firstL_mem h hp).1 hz
    rw [repC_level ht hk] at *
    rw [Int.neg_neg]
    exact hlow k hk (g3 (by omega))
  · exfalso
    refine hf.live _ hcm fun y hy => ?_
    rw [firstL_none (fun g => hp g.2)] at hy; cases hy
/-! ### The reference's conflicts -/
/-- The literals of a clause that are open, each once; is the clause true? -/
def opensL (is c : List Int) : List Int := addsL [] (c.filter fun x => !is.contains (-x))
def conE (is c : List Int) : Bool := (opensL is c).length == 0
def conU (is c : List Int) : Bool := !c.any (is.contains ·) && (opensL is c).length == 1
/-- What a round over the clauses finds: a conflict; or the last unit clause's literal. -/
def moreF (is : List Int) : List (List Int) → Int → Int
  | [], m => m
  | c :: t, m => moreF is t (if conU is c = true then (opensL is c).headD 0 else m)
theorem opensL_mem {is c : List Int} {x : Int} : x ∈ opensL is c ↔ x ∈ c ∧ -x ∉ is := by
  unfold opensL
  rw [addsL_mem, List.mem_filter]
  simp
theorem conU_lit {is c : List Int} (h : conU is c = true) : ∃ x, opensL is c = [x] ∧ x ∈ c ∧ x ∉ is ∧ -x ∉ is ∧ ∀ y ∈ c, y ≠ x → -y ∈ is := by
  unfold conU at h
  rw [Bool.and_eq_true, Bool.not_eq_true', beq_iff_eq, List.any_eq_false] at h
  obtain ⟨x, hx⟩ := List.length_eq_one_iff.1 h.2
  have hm : x ∈ opensL is c := by rw [hx]; exact List.mem_singleton.2 rfl
  obtain ⟨h1, h2⟩ := opensL_mem.1 hm
  refine ⟨x, hx, h1, fun e => h.1 x h1 (List.contains_iff_mem.2 e), h2, fun y hy hne => ?_⟩
  by_cases e : -y ∈ is
  · exact e
  · have : y ∈ opensL is c := opensL_mem.2 ⟨hy, e⟩
    rw [hx, List.mem_singleton] at this
    exact absurd this hne
theorem moreF_of {is : List Int} : ∀ {cs : List (List Int)} {m x : Int}, moreF is cs m = x → x = m ∨ ∃ c ∈ cs, conU is c = true ∧ opensL is c = [x]
  | [], m, x, h => .inl h.symm
  | c :: t, m, x, h => by
    rcases moreF_of (cs := t) h with e | ⟨d, hd, e⟩
    · by_cases hu : conU is c = true
      · rw [if_pos hu] at e
        obtain ⟨y, hy, _⟩ := conU_lit hu
        rw [hy] at e
        exact .inr ⟨c, List.mem_cons_self, hu, by rw [hy, e]; rfl⟩
      · rw [if_neg hu] at e; exact .inl e
    · exact .inr ⟨d, List.mem_cons_of_mem _ hd, e⟩
theorem moreF_zero {is : List Int} : ∀ {cs : List (List Int)} {m : Int}, (∀ c ∈ cs, ∀ x ∈ c, x ≠ 0) → moreF is cs m = 0 → m = 0 ∧ ∀ c ∈ cs, conU is c = false
  | [], m, _, h => ⟨h, fun c hc => by cases hc⟩
  | c :: t, m, hz, h => by
    obtain ⟨h1, h2⟩ := moreF_zero (cs := t) (fun d hd => hz d (List.mem_cons_of_mem _ hd)) h
    by_cases hu : conU is c = true
    · rw [if_pos hu] at h1
      obtain ⟨y, hy, hyc, _⟩ := conU_lit hu
      rw [hy] at h1
      exact absurd h1 (hz c List.mem_cons_self y hyc)
    · rw [if_neg hu] at h1
      refine ⟨h1, fun d hd => ?_⟩
      rcases List.mem_cons.1 hd with rfl | hd
      · simpa using hu
      · exact h2 d hd
theorem moreF_append {is : List Int} : ∀ {cs : List (List Int)} {c : List Int} {m : Int}, moreF is (cs ++ [c]) m = if conU is c = true then (opensL is c).headD 0 else moreF is cs m
  | [], c, m => rfl
  | d :: t, c, m => by show moreF is (t ++ [c]) _ = _; rw [moreF_append]; rfl
/-- What holds of the reference's list. -/
structure OnConf (n : Int) (ll : List (List Int)) (term is : List Int) : Prop where
  val : ∀ x ∈ is, litValid x n = true
  con : ∀ x ∈ is, -x ∉ is
  has : ∀ x ∈ term, x ∈ is
  least : ∀ S, Fits ll term S → ∀ x ∈ is, S x
theorem onconf_add {n : Int} {ll : List (List Int)} {term is : List Int} (ht : theoryErr n ll = 0) (h : OnConf n ll term is) (hm : moreF is ll 0 ≠ 0) : OnConf n ll term (is ++ [moreF is ll 0]) ∧ moreF is ll 0 ∉ is ∧ litValid (moreF is ll 0) n = true := by
  rcases moreF_of (is := is) (cs := ll) (m := 0) rfl with e | ⟨c, hc, hu, e⟩
  · exact absurd e hm
  obtain ⟨x, hx, h1, h2, h3, h4⟩ := conU_lit hu
  rw [e] at hx
  have hx : moreF is ll 0 = x := List.head_eq_of_cons_eq hx
  rw [hx]
  have hv : litValid x n = true := ((theoryErr_zero ht).2.2.2 c hc).2 x h1
  have h0 := (litValid_iff _ _).1 hv
  refine ⟨⟨fun y hy => ?_, fun y hy hy' => ?_, fun y hy => List.mem_append_left _ (h.has y hy), fun S hS y hy => ?_⟩, h2, hv⟩
  · rcases List.mem_append.1 hy with hy | hy
    · exact h.val y hy
    · rw [List.mem_singleton.1 hy]; exact hv
  · rcases List.mem_append.1 hy with hy | hy <;> rcases List.mem_append.1 hy' with hy' | hy'
    · exact h.con y hy hy'
    · rw [List.mem_singleton] at hy'
      rw [← hy', Int.neg_neg] at h3; exact h3 hy
    · rw [List.mem_singleton.1 hy] at hy'; exact h3 hy'
    · rw [List.mem_singleton] at hy hy'; omega
  · rcases List.mem_append.1 hy with hy | hy
    · exact h.least S hS y hy
    · rw [List.mem_singleton.1 hy]
      exact hS.shut c hc x h1 fun z hz hne => h.least S hS _ (h4 z hz hne)
theorem onconf_no {n : Int} {ll : List (List Int)} {term is : List Int} (h : OnConf n ll term is) {c : List Int} (hc : c ∈ ll) (he : conE is c = true) : ∀ S, ¬ Fits ll term S := fun S hS => by
  unfold conE at he
  rw [beq_iff_eq, List.length_eq_zero_iff] at he
  refine hS.live c hc fun y hy => h.least S hS _ ?_
  by_cases e : -y ∈ is
  · exact e
  · have : y ∈ opensL is c := opensL_mem.2 ⟨hy, e⟩
    rw [he] at this; cases this
theorem onconf_yes {n : Int} {ll : List (List Int)} {term is : List Int} (ht : theoryErr n ll = 0) (h : OnConf n ll term is) (hm : moreF is ll 0 = 0) (he : ∀ c ∈ ll, conE is c = false) : Fits ll term (· ∈ is) := by
  obtain ⟨_, hu⟩ := moreF_zero (fun c hc x hx => ((litValid_iff _ _).1 (((theoryErr_zero ht).2.2.2 c hc).2 x hx)).1) hm
  have hopen : ∀ c ∈ ll, ∃ y, y ∈ c ∧ -y ∉ is := fun c hc => by
    have := he c hc
    unfold conE at this
    rw [beq_eq_false_iff_ne] at this
    obtain ⟨y, hy⟩ := List.length_pos_iff_exists_mem.1 (Nat.pos_of_ne_zero this)
    exact ⟨y, opensL_mem.1 hy⟩
  refine ⟨fun c hc x hx hall => ?_, h.has, h.con, fun c hc hall => ?_⟩
  · by_cases e : x ∈ is
    · exact e
    exfalso
    obtain ⟨y, hy, hyn⟩ := hopen c hc
    obtain rfl : y = x := by
      by_cases g : y = x
      · exact g
      · exact absurd (hall y hy g) hyn
    have hon : ∀ z, z ∈ opensL is c → z = y := fun z hz => by
      obtain ⟨z1, z2⟩ := opensL_mem.1 hz
      by_cases g : z = y
      · exact g
      · exact absurd (hall z z1 g) z2
    have hnd : (opensL is c).Nodup := addsL_nodup (by simp)
    have hlen : (opensL is c).length = 1 := by
      have h1 : 0 < (opensL is c).length := List.length_pos_iff_exists_mem.2 ⟨y, opensL_mem.2 ⟨hy, hyn⟩⟩
      have h2 := len_le_of_sub _ [y] hnd fun z hz => List.mem_singleton.2 (hon z hz)
      simp only [List.length_singleton] at h2
      omega
    have := hu c hc
    unfold conU at this
    rw [hlen] at this
    simp only [beq_self_eq_true, Bool.and_true, Bool.not_eq_false'] at this
    rw [List.any_eq_true] at this
    obtain ⟨z, hz, hz'⟩ := this
    rw [List.contains_iff_mem] at hz'
    by_cases g : z = y
    · subst g; exact e hz'
    · exact h.con z hz' (hall z hz g)
  · obtain ⟨y, hy, hyn⟩ := hopen c hc
    exact hyn (hall y hy)
theorem onconf_end {n : Int} {ll : List (List Int)} {cl term is : List Int} (ht : theoryErr n ll = 0) (hv : ∀ x ∈ cl, litValid x n = true) (hT : ∀ x, x ∈ term ↔ x ∈ negL cl) {b : Bool} (hb : b = true ↔ ∀ S, ¬ Fits ll term S) : impB n ll cl = b := by
  rw [Bool.eq_iff_iff, impB_iff, hb]
  have : ∀ S, Fits ll (negL cl) S ↔ Fits ll term S := fun S => ⟨fun h => ⟨h.shut, fun d hd => h.has d ((hT d).1 hd), h.con, h.live⟩, fun h => ⟨h.shut, fun d hd => h.has d ((hT d).2 hd), h.con, h.live⟩⟩
  exact ⟨fun h S hS => h.2.2 S ((this S).2 hS), fun h => ⟨ht, hv, fun S hS => h S ((this S).1 hS)⟩⟩
end Go.Proofs.Yteagoaiiacideaa
