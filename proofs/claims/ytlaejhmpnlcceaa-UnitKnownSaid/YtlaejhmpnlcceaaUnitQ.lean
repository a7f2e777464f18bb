/- Unit propagation, plainly: what holds of each trail: reasons, models, the end, closures as least closed sets. No Go in sight. -/
import Derived.Test.YtlaejhmpnlcceaaUnitP
import Derived.Test.YtlaejhmpnlcceaaSem
namespace Go.Proofs.Ytlaejhmpnlcceaa
set_option linter.unusedSimpArgs false
set_option linter.unusedVariables false
open Go.RowKit
/-- How propagation ends: nothing is left, or a clause is false. -/
def EndOk (ll : List (List Int)) (s : List St × Int) : Prop := (s.2 = -1 ∧ firstT ll s.1 = none) ∨ ∃ k : Nat, s.2 = k ∧ k < ll.length ∧ falseT s.1 (ll.getD k []) = true
theorem prop_ind {n : Int} {ll : List (List Int)} (ht : theoryErr n ll = 0) {lev : Int} {P : List St → Prop}
    (hs : ∀ tr k, Good n tr → P tr → firstT ll tr = some k → falseT tr (ll.getD k []) = false → P (tr ++ [⟨unitT tr (ll.getD k []), (k : Nat), lev⟩])) :
    ∀ (m : Nat) (tr : List St), 300 - tr.length = m → Good n tr → P tr → Good n (propL ll tr lev).1 ∧ P (propL ll tr lev).1 ∧ EndOk ll (propL ll tr lev)
  | m, tr, hm, hg, hp => by
    have hlen := hg.length
    cases hf : firstT ll tr with
    | none => rw [prop_none hf]; exact ⟨hg, hp, .inl ⟨rfl, hf⟩⟩
    | some k =>
      cases hff : falseT tr (ll.getD k []) with
      | true => rw [prop_false (by omega) hf hff]; exact ⟨hg, hp, .inr ⟨k, rfl, (firstT_yes hf).1, hff⟩⟩
      | false =>
        rw [prop_step (by omega) hf hff]
        exact prop_ind ht hs (300 - (tr ++ [(⟨unitT tr (ll.getD k []), (k : Nat), lev⟩ : St)]).length) _ rfl (hg.step ht hf hff).1 (hs tr k hg hp hf hff)
  termination_by m => m
  decreasing_by simp only [List.length_append, List.length_cons, List.length_nil]; omega
theorem trail_ind {n : Int} {ll : List (List Int)} {ds : List Int} (ht : theoryErr n ll = 0) (hv : ∀ d ∈ ds, litValid d n = true) {P : Nat → List St → Prop} (h0 : P 0 [])
    (hs : ∀ i tr k, i ≤ ds.length → Good n tr → P i tr → firstT ll tr = some k → falseT tr (ll.getD k []) = false → P i (tr ++ [⟨unitT tr (ll.getD k []), (k : Nat), (i : Nat)⟩]))
    (hd : ∀ i tr, i < ds.length → Good n tr → P i tr → openT tr (ds.getD i 0) = true → P (i + 1) (tr ++ [⟨ds.getD i 0, -1, (i : Nat) + 1⟩]))
    (hk : ∀ i tr, i < ds.length → Good n tr → P i tr → trueT tr (ds.getD i 0) = true → P (i + 1) tr) :
    (∀ s, trailO ll ds = some s → ∃ i, i ≤ ds.length ∧ Good n s.1 ∧ P i s.1 ∧ EndOk ll s ∧ (s.2 < 0 → i = ds.length)) ∧
    (trailO ll ds = none → ∃ i tr, i < ds.length ∧ Good n tr ∧ P i tr ∧ trueT tr (-(ds.getD i 0)) = true) := by
  have key : ∀ (m i : Nat) (s : List St × Int), m = ds.length - i → i ≤ ds.length → Good n s.1 → P i s.1 → EndOk ll s →
      (∀ r, trailF ll (ds.drop i) i s = some r → ∃ i, i ≤ ds.length ∧ Good n r.1 ∧ P i r.1 ∧ EndOk ll r ∧ (r.2 < 0 → i = ds.length)) ∧
      (trailF ll (ds.drop i) i s = none → ∃ i tr, i < ds.length ∧ Good n tr ∧ P i tr ∧ trueT tr (-(ds.getD i 0)) = true) := by
    intro m
    induction m with
    | zero =>
      intro i s hm hi hg hp he
      obtain rfl : i = ds.length := by omega
      rw [List.drop_length]
      simp only [trailF]
      exact ⟨fun r hr => by cases hr; exact ⟨ds.length, Nat.le_refl _, hg, hp, he, fun _ => rfl⟩, fun h => by cases h⟩
    | succ m ih =>
      intro i s hm hi hg hp he
      have hlt : i < ds.length := by omega
      rw [List.drop_eq_getElem_cons hlt]
      have ed : ds.getD i 0 = ds[i] := getD_getElem hlt
      simp only [trailF]
      by_cases h1 : 0 ≤ s.2
      · rw [if_pos h1]
        exact ⟨fun r hr => by cases hr; exact ⟨i, hi, hg, hp, he, fun h => by omega⟩, fun h => by cases h⟩
      rw [if_neg h1]
      by_cases h2 : trueT s.1 (-ds[i]) = true
      · rw [if_pos h2]
        exact ⟨(fun r hr => by cases hr), fun _ => ⟨i, s.1, hlt, hg, hp, by rw [ed]; exact h2⟩⟩
      rw [if_neg h2]
      have hg2 : Good n (if trueT s.1 ds[i] = true then s.1 else s.1 ++ [⟨ds[i], -1, (i : Int) + 1⟩]) ∧ P (i + 1) (if trueT s.1 ds[i] = true then s.1 else s.1 ++ [⟨ds[i], -1, (i : Int) + 1⟩]) := by
        by_cases h3 : trueT s.1 ds[i] = true
        · rw [if_pos h3]; exact ⟨hg, hk i s.1 hlt hg hp (by rw [ed]; exact h3)⟩
        · have ho : openT s.1 ds[i] = true := by rw [openT_iff]; exact ⟨by simpa using h3, by simpa using h2⟩
          rw [if_neg h3]
          exact ⟨hg.add (hv _ (List.getElem_mem hlt)) ho, by have := hd i s.1 hlt hg hp (by rw [ed]; exact ho); rwa [ed] at this⟩
      obtain ⟨q1, q2, q3⟩ := prop_ind ht (lev := (i : Int) + 1) (P := P (i + 1)) (fun tr k g p f x => by have := hs (i + 1) tr k hlt g p f x; simpa using this) _ _ rfl hg2.1 hg2.2
      exact ih (i + 1) _ (by omega) hlt q1 q2 q3
  obtain ⟨q1, q2, q3⟩ := prop_ind ht (lev := 0) (P := P 0) (fun tr k g p f x => hs 0 tr k (Nat.zero_le _) g p f x) _ [] rfl (Good.nil n) h0
  have := key ds.length 0 (propL ll [] 0) rfl (Nat.zero_le _) q1 q2 q3
  simpa [trailO] using this
theorem askB_iff {n : Int} {ll : List (List Int)} {ds : List Int} : askB n ll ds = true ↔ theoryErr n ll = 0 ∧ ∀ d ∈ ds, litValid d n = true := by
  unfold askB; rw [Bool.and_eq_true, decide_eq_true_eq, List.all_eq_true]
theorem trailE_zero {n : Int} {ll : List (List Int)} {ds : List Int} (h : trailE n ll ds = 0) : askB n ll ds = true ∧ trailO ll ds = some (trailL n ll ds, trailC n ll ds) := by
  unfold trailE at h
  unfold trailL trailC
  by_cases ha : askB n ll ds = true
  · rw [if_pos ha] at h
    cases ho : trailO ll ds with
    | none => rw [ho] at h; cases h
    | some s => rw [if_pos ha, if_pos ha]; exact ⟨ha, rfl⟩
  · rw [if_neg ha] at h; cases h
theorem trailE_of {n : Int} {ll : List (List Int)} {ds : List Int} {s : List St × Int} (ha : askB n ll ds = true) (ho : trailO ll ds = some s) : trailE n ll ds = 0 ∧ trailL n ll ds = s.1 ∧ trailC n ll ds = s.2 := by
  unfold trailE trailL trailC
  rw [if_pos ha, if_pos ha, if_pos ha, ho]
  exact ⟨rfl, rfl, rfl⟩
theorem trail_bad {n : Int} {ll : List (List Int)} {ds : List Int} (h : trailE n ll ds ≠ 0) : trailL n ll ds = [] ∧ trailC n ll ds = 0 := by
  unfold trailE at h
  unfold trailL trailC
  by_cases ha : askB n ll ds = true
  · rw [if_pos ha] at h
    rw [if_pos ha, if_pos ha]
    cases ho : trailO ll ds with
    | none => exact ⟨rfl, rfl⟩
    | some s => rw [ho] at h; exact absurd rfl h
  · rw [if_neg ha, if_neg ha]; exact ⟨rfl, rfl⟩
/-! ### Closures are least closed sets -/
def Shut (ll : List (List Int)) (S : Int → Prop) : Prop := ∀ c ∈ ll, ∀ x ∈ c, (∀ y ∈ c, y ≠ x → S (-y)) → S x
/-- A set that shows that a closure exists. -/
structure Fits (ll : List (List Int)) (ds : List Int) (S : Int → Prop) : Prop where
  shut : Shut ll S
  has : ∀ d ∈ ds, S d
  con : ∀ x, S x → ¬ S (-x)
  live : ∀ c ∈ ll, ¬ ∀ y ∈ c, S (-y)
theorem trail_sub {n : Int} {ll : List (List Int)} {ds : List Int} (ht : theoryErr n ll = 0) (hv : ∀ d ∈ ds, litValid d n = true) {S : Int → Prop} (hS : Shut ll S) (hd : ∀ d ∈ ds, S d) :
    (∀ s, trailO ll ds = some s → ∃ i, i ≤ ds.length ∧ Good n s.1 ∧ (∀ x, trueT s.1 x = true → S x) ∧ (∀ j, j < i → trueT s.1 (ds.getD j 0) = true) ∧ EndOk ll s ∧ (s.2 < 0 → i = ds.length)) ∧
    (trailO ll ds = none → ∃ d ∈ ds, S (-d)) := by
  have hm : ∀ i, i < ds.length → ds.getD i 0 ∈ ds := fun i hi => by rw [getD_getElem hi]; exact List.getElem_mem hi
  obtain ⟨k1, k2⟩ := trail_ind ht hv (P := fun i tr => (∀ x, trueT tr x = true → S x) ∧ ∀ j, j < i → trueT tr (ds.getD j 0) = true) ⟨fun x hx => (by cases hx), fun j hj => (by omega)⟩
    (fun i tr k hi hg ⟨p1, p2⟩ hf hn => ⟨fun x hx => by
      rw [trueT_append] at hx
      rcases or_true hx with hx | hx
      · exact p1 x hx
      · rw [beq_iff_eq] at hx
        obtain ⟨g1, g2, g3⟩ := hg.step ht (why := 0) (lev := 0) hf hn
        obtain ⟨hk, _⟩ := firstT_yes hf
        have hmem : ll.getD k [] ∈ ll := by rw [getD_getElem hk]; exact List.getElem_mem hk
        have hc : ∀ y ∈ ll.getD k [], y ≠ 0 := fun y hy => ((litValid_iff _ _).1 (((theoryErr_zero ht).2.2.2 _ hmem).2 y hy)).1
        rw [← hx]
        exact hS _ hmem _ g3 fun y hy hne => p1 _ ((unitT_spec hc g2).2.2 y hy hne), fun j hj => by rw [trueT_append, p2 j hj]; rfl⟩)
    (fun i tr hi hg ⟨p1, p2⟩ ho => ⟨fun x hx => by
      rw [trueT_append] at hx
      rcases or_true hx with hx | hx
      · exact p1 x hx
      · rw [beq_iff_eq] at hx
        rw [← hx]; exact hd _ (hm i hi), fun j hj => by
      rw [trueT_append]
      by_cases e : j = i
      · subst e; simp
      · rw [p2 j (by omega)]; rfl⟩)
    (fun i tr hi hg ⟨p1, p2⟩ ho => ⟨p1, fun j hj => by
      by_cases e : j = i
      · subst e; exact ho
      · exact p2 j (by omega)⟩)
  refine ⟨fun s hs => ?_, fun h => ?_⟩
  · obtain ⟨i, q1, q2, ⟨q3, q4⟩, q5, q6⟩ := k1 s hs
    exact ⟨i, q1, q2, q3, q4, q5, q6⟩
  · obtain ⟨i, tr, q1, _, ⟨q3, _⟩, q5⟩ := k2 h
    exact ⟨_, hm i q1, q3 _ q5⟩
/-- Where propagation is at its end, what is true is closed, and no clause is false. -/
theorem end_shut {n : Int} {ll : List (List Int)} {tr : List St} (ht : theoryErr n ll = 0) (hg : Good n tr) (h : firstT ll tr = none) :
    Shut ll (fun x => trueT tr x = true) ∧ ∀ c ∈ ll, ¬ ∀ y ∈ c, trueT tr (-y) = true := by
  have hl := firstT_no h
  have hlive : ∀ c ∈ ll, falseT tr c = false ∧ unitT tr c = 0 := fun c hc => by
    have := hl c hc
    unfold liveT at this
    rw [Bool.or_eq_false_iff] at this
    exact ⟨this.1, by simpa using this.2⟩
  have hno : ∀ c ∈ ll, ¬ ∀ y ∈ c, trueT tr (-y) = true := fun c hc h => by
    have := (hlive c hc).1
    unfold falseT at this
    rw [List.all_eq_true.2 h] at this; cases this
  refine ⟨fun c hc x hx hy => ?_, hno⟩
  have hcz : ∀ y ∈ c, y ≠ 0 := fun y hy => ((litValid_iff _ _).1 (((theoryErr_zero ht).2.2.2 _ hc).2 y hy)).1
  by_cases h1 : trueT tr x = true
  · exact h1
  exfalso
  by_cases h2 : trueT tr (-x) = true
  · exact hno c hc fun y hy' => by
      by_cases e : y = x
      · rw [e]; exact h2
      · exact hy y hy' e
  have ho : openT tr x = true := by rw [openT_iff]; exact ⟨by simpa using h1, by simpa using h2⟩
  have hu : unitT tr c = x := by
    have aux : ∀ (d : List Int) (z : Int), (∀ y ∈ d, y ≠ 0) → (z = 0 ∨ z = x) → (∀ y ∈ d, y ≠ x → trueT tr (-y) = true) → ((z = x) ∨ x ∈ d) → unitF tr d z = x := by
      intro d
      induction d with
      | nil =>
        intro z _ hz _ hx'
        simp only [unitF]
        rcases hx' with h | h
        · exact h
        · cases h
      | cons y t ih =>
        intro z hz0 hz hd hx'
        have hnt : ¬ trueT tr y = true := by
          by_cases e : y = x
          · rw [e]; exact h1
          · intro h
            have := hg.con y h
            rw [hd y List.mem_cons_self e] at this; cases this
        simp only [unitF]
        rw [if_neg hnt]
        by_cases e : y = x
        · subst e
          rw [if_pos ho, if_neg (by rcases hz with h | h <;> simp [h])]
          exact ih y (fun u hu => hz0 u (List.mem_cons_of_mem _ hu)) (.inr rfl) (fun u hu => hd u (List.mem_cons_of_mem _ hu)) (.inl rfl)
        · have hcl : ¬ openT tr y = true := by rw [openT_iff, hd y List.mem_cons_self e]; simp
          rw [if_neg hcl]
          refine ih z (fun u hu => hz0 u (List.mem_cons_of_mem _ hu)) hz (fun u hu => hd u (List.mem_cons_of_mem _ hu)) ?_
          rcases hx' with h | h
          · exact .inl h
          · rcases List.mem_cons.1 h with h | h
            · exact absurd h.symm e
            · exact .inr h
    exact aux c 0 hcz (.inl rfl) hy (.inr hx)
  have := (hlive c hc).2
  rw [hu] at this
  exact hcz x hx this
theorem clos_fits {n : Int} {ll : List (List Int)} {ds : List Int} (h : closB n ll ds = true) :
    Fits ll ds (fun x => trueT (trailL n ll ds) x = true) ∧ Good n (trailL n ll ds) ∧ ∀ S, Shut ll S → (∀ d ∈ ds, S d) → ∀ x, trueT (trailL n ll ds) x = true → S x := by
  unfold closB at h
  rw [Bool.and_eq_true, decide_eq_true_eq, decide_eq_true_eq] at h
  obtain ⟨he, hc⟩ := h
  obtain ⟨ha, ho⟩ := trailE_zero he
  obtain ⟨ht, hv⟩ := askB_iff.1 ha
  have key := fun S hS hd => (trail_sub (S := S) ht hv hS hd).1 _ ho
  obtain ⟨i, q1, q2, _, q4, q5, q6⟩ := key (fun _ => True) (fun _ _ _ _ _ => trivial) (fun _ _ => trivial)
  have hi := q6 hc
  have hf : firstT ll (trailL n ll ds) = none := by
    rcases q5 with ⟨_, q⟩ | ⟨k, q, _⟩
    · exact q
    · simp only at q; omega
  obtain ⟨s1, s2⟩ := end_shut ht q2 hf
  refine ⟨⟨s1, fun d hd => ?_, fun x hx hx' => ?_, s2⟩, q2, fun S hS hd x hx => ?_⟩
  · obtain ⟨j, hj, rfl⟩ := List.getElem_of_mem hd
    have := q4 j (by omega)
    rwa [getD_getElem hj] at this
  · have := q2.con x hx
    rw [hx'] at this; cases this
  · obtain ⟨_, _, _, q3, _⟩ := key S hS hd
    exact q3 x hx
theorem clos_of_fits {n : Int} {ll : List (List Int)} {ds : List Int} (ha : askB n ll ds = true) {S : Int → Prop} (h : Fits ll ds S) : closB n ll ds = true := by
  obtain ⟨ht, hv⟩ := askB_iff.1 ha
  obtain ⟨k1, k2⟩ := trail_sub (S := S) ht hv h.shut h.has
  cases ho : trailO ll ds with
  | none =>
    obtain ⟨d, hd, hs⟩ := k2 ho
    exact absurd hs (h.con d (h.has d hd))
  | some s =>
    obtain ⟨i, _, _, q3, _, q5, _⟩ := k1 s ho
    obtain ⟨e1, e2, e3⟩ := trailE_of ha ho
    unfold closB
    rw [e1, e3]
    rcases q5 with ⟨q, _⟩ | ⟨k, q, hk, hf⟩
    · rw [q]; rfl
    · exfalso
      refine h.live (ll.getD k []) (by rw [getD_getElem hk]; exact List.getElem_mem hk) fun y hy => q3 _ ?_
      exact List.all_eq_true.1 hf y hy
theorem closB_ask {n : Int} {ll : List (List Int)} {ds : List Int} (h : closB n ll ds = true) : askB n ll ds = true := by
  unfold closB at h
  rw [Bool.and_eq_true, decide_eq_true_eq] at h
  exact (trailE_zero h.1).1
theorem closL_mem {n : Int} {ll : List (List Int)} {ds : List Int} (h : closB n ll ds = true) (x : Int) : x ∈ closL n ll ds ↔ trueT (trailL n ll ds) x = true := by
  obtain ⟨_, hg, _⟩ := clos_fits h
  unfold closL
  rw [if_pos h, orderL_mem (fun x hx => by
    obtain ⟨s, hs, rfl⟩ := List.mem_map.1 hx
    exact litVar_ne (hg.val s hs)), trueT_iff, List.mem_map]
theorem closL_of {n : Int} {ll : List (List Int)} {ds ds' : List Int} (h : closB n ll ds = true) (h' : closB n ll ds' = true) (he : ∀ x, x ∈ closL n ll ds ↔ x ∈ closL n ll ds') : closL n ll ds = closL n ll ds' := by
  refine strict_eq _ _ ?_ ?_ he
  · unfold closL; rw [if_pos h]; exact orderL_strict _
  · unfold closL; rw [if_pos h']; exact orderL_strict _
/-- The closure of literals whose least closed set is the same. -/
theorem clos_same {n : Int} {ll : List (List Int)} {ds ds' : List Int} (h : closB n ll ds = true) (ha : askB n ll ds' = true) (h1 : ∀ d ∈ ds', d ∈ closL n ll ds) (h2 : ∀ d ∈ ds, d ∈ ds' ∨ d ∈ closL n ll ds' ) :
    closB n ll ds' = true ∧ closL n ll ds' = closL n ll ds := by
  obtain ⟨hf, hg, hl⟩ := clos_fits h
  have hf' : Fits ll ds' (fun x => trueT (trailL n ll ds) x = true) := ⟨hf.shut, fun d hd => (closL_mem h d).1 (h1 d hd), hf.con, hf.live⟩
  have hb := clos_of_fits ha hf'
  obtain ⟨kf, _, kl⟩ := clos_fits hb
  refine ⟨hb, closL_of hb h fun x => ?_⟩
  rw [closL_mem hb, closL_mem h]
  constructor
  · exact kl _ hf'.shut hf'.has x
  · refine hl _ kf.shut (fun d hd => ?_) x
    rcases h2 d hd with h | h
    · exact kf.has d h
    · exact (closL_mem hb d).1 h
/-- .. and of fewer literals. -/
theorem clos_less {n : Int} {ll : List (List Int)} {ds ds' : List Int} (h : closB n ll ds = true) (h1 : ∀ d ∈ ds', d ∈ closL n ll ds) :
    closB n ll ds' = true ∧ ∀ x ∈ closL n ll ds', x ∈ closL n ll ds := by
  obtain ⟨hf, hg, hl⟩ := clos_fits h
  have hf' : Fits ll ds' (fun x => trueT (trailL n ll ds) x = true) := ⟨hf.shut, fun d hd => (closL_mem h d).1 (h1 d hd), hf.con, hf.live⟩
  have ha' : askB n ll ds' = true := askB_iff.2 ⟨(askB_iff.1 (closB_ask h)).1, fun d hd => by
    obtain ⟨s, hs, e⟩ := trueT_iff.1 ((closL_mem h d).1 (h1 d hd))
    rw [← e]; exact hg.val s hs⟩
  have hb := clos_of_fits ha' hf'
  obtain ⟨kf, _, kl⟩ := clos_fits hb
  refine ⟨hb, fun x hx => ?_⟩
  rw [closL_mem hb] at hx
  rw [closL_mem h]
  exact kl _ hf'.shut hf'.has x hx
theorem clos_has {n : Int} {ll : List (List Int)} {ds : List Int} (h : closB n ll ds = true) : ∀ d ∈ ds, d ∈ closL n ll ds := fun d hd => (closL_mem h d).2 ((clos_fits h).1.has d hd)
end Go.Proofs.Ytlaejhmpnlcceaa
