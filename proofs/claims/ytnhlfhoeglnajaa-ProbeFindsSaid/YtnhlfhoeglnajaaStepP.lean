/- The reference's probing, plainly: steps up to a firm set. No Go in sight. -/
import Derived.Test.YtnhlfhoeglnajaaLaw15d
namespace Go.Proofs.Ytnhlfhoeglnajaa
set_option linter.unusedSimpArgs false
set_option linter.unusedVariables false
open Go.RowKit
set_option maxRecDepth 20000
def sortP (l : List Int) (k : Nat) : List Int := if l.contains (-((k : Int) + 1)) then [-((k : Int) + 1)] else if l.contains ((k : Int) + 1) then [(k : Int) + 1] else []
def sortF (l : List Int) (m : Nat) : List Int := (List.range m).flatMap (sortP l)
theorem sortF_succ (l : List Int) (m : Nat) : sortF l (m + 1) = sortF l m ++ sortP l m := by unfold sortF; rw [List.range_succ, List.flatMap_append]; simp
theorem sortF_len (l : List Int) : ∀ m, (sortF l m).length ≤ m
  | 0 => by simp [sortF]
  | m + 1 => by
    have := sortF_len l m
    rw [sortF_succ, List.length_append]
    have : (sortP l m).length ≤ 1 := by unfold sortP; split <;> (try split) <;> simp
    omega
theorem sortP_mem {l : List Int} {k : Nat} {x : Int} (h : x ∈ sortP l k) : (x = -((k : Int) + 1) ∨ x = (k : Int) + 1) ∧ x ∈ l := by
  unfold sortP at h
  split at h
  · rename_i hc; rw [List.mem_singleton] at h; subst h; exact ⟨.inl rfl, by simpa using hc⟩
  · split at h
    · rename_i hc; rw [List.mem_singleton] at h; subst h; exact ⟨.inr rfl, by simpa using hc⟩
    · cases h
theorem sortF_strict (l : List Int) (m : Nat) : Strict (sortF l m) := by
  induction m with
  | zero => simp [sortF, Strict]
  | succ n ih =>
    rw [sortF_succ, Strict, List.pairwise_append]
    refine ⟨ih, by unfold sortP; split <;> (try split) <;> simp, fun x hx y hy => ?_⟩
    unfold sortF at hx
    rw [List.mem_flatMap] at hx
    obtain ⟨v, hv, hx⟩ := hx
    have hv := List.mem_range.1 hv
    have h1 := (sortP_mem hx).1
    have h2 := (sortP_mem hy).1
    unfold litKey
    rcases h1 with rfl | rfl <;> rcases h2 with rfl | rfl <;> (repeat' split) <;> omega
theorem sortF_mem {l : List Int} {n : Nat} (hv : ∀ x ∈ l, litValid x n = true) (hc : ∀ x ∈ l, -x ∉ l) (x : Int) : x ∈ sortF l n ↔ x ∈ l := by
  unfold sortF
  rw [List.mem_flatMap]
  constructor
  · rintro ⟨k, _, h⟩; exact (sortP_mem h).2
  · intro hx
    have hi := (litValid_iff _ _).1 (hv x hx)
    by_cases hp : 0 < x
    · refine ⟨x.toNat - 1, List.mem_range.2 (by omega), ?_⟩
      have e : (((x.toNat - 1 : Nat)) : Int) + 1 = x := by omega
      unfold sortP
      rw [e, if_neg (by simpa using hc x hx), if_pos (by simpa using hx)]
      exact List.mem_singleton.2 rfl
    · refine ⟨(-x).toNat - 1, List.mem_range.2 (by omega), ?_⟩
      have e : -((((-x).toNat - 1 : Nat) : Int) + 1) = x := by omega
      unfold sortP
      rw [e, if_pos (by simpa using hx)]
      exact List.mem_singleton.2 rfl
/-- One variable of a step. -/
def stepOne (n : Int) (ll : List (List Int)) (c : List Int) (v : Int) : List Int :=
  if c.contains v || c.contains (-v) then c else
    let d := if closB n ll (c ++ [v]) then c else c ++ [-v]
    if closB n ll (c ++ [-v]) then d else d ++ [v]
/-- j variables of a step, from n down. -/
def stepTo (n : Nat) (ll : List (List Int)) (c : List Int) : Nat → List Int
  | 0 => c
  | j + 1 => stepOne n ll (stepTo n ll c j) ((n : Int) - j)
theorem stepOne_grow {n : Int} {ll : List (List Int)} {c : List Int} {v : Int} : ∃ e, stepOne n ll c v = c ++ e ∧ e.length ≤ 2 ∧ (e = [] → (v ∈ c ∨ -v ∈ c) ∨ closB n ll (c ++ [v]) = true ∧ closB n ll (c ++ [-v]) = true) ∧ ∀ z ∈ e, (z = -v ∧ closB n ll (c ++ [v]) = false) ∨ (z = v ∧ closB n ll (c ++ [-v]) = false) := by
  unfold stepOne
  by_cases h : (c.contains v || c.contains (-v)) = true
  · rw [if_pos h]
    refine ⟨[], by simp, by simp, fun _ => .inl ?_, fun z hz => by cases hz⟩
    rw [Bool.or_eq_true] at h
    simpa using h
  · rw [if_neg h]
    by_cases h1 : closB n ll (c ++ [v]) = true
    · by_cases h2 : closB n ll (c ++ [-v]) = true
      · exact ⟨[], by simp [h1, h2], by simp, fun _ => .inr ⟨h1, h2⟩, fun z hz => by cases hz⟩
      · have h2' : closB n ll (c ++ [-v]) = false := by simpa using h2
        exact ⟨[v], by simp [h1, h2'], by simp, fun h => by simp at h, fun z hz => .inr ⟨List.mem_singleton.1 hz, h2'⟩⟩
    · have h1' : closB n ll (c ++ [v]) = false := by simpa using h1
      by_cases h2 : closB n ll (c ++ [-v]) = true
      · exact ⟨[-v], by simp [h1', h2], by simp, fun h => by simp at h, fun z hz => .inl ⟨List.mem_singleton.1 hz, h1'⟩⟩
      · have h2' : closB n ll (c ++ [-v]) = false := by simpa using h2
        exact ⟨[-v, v], by simp [h1', h2'], by simp, fun h => by simp at h, fun z hz => by
          rcases List.mem_cons.1 hz with e | e
          · exact .inl ⟨e, h1'⟩
          · exact .inr ⟨List.mem_singleton.1 e, h2'⟩⟩
theorem stepTo_grow {n : Nat} {ll : List (List Int)} {c : List Int} : ∀ j, ∃ e, stepTo n ll c j = c ++ e ∧ e.length ≤ 2 * j
  | 0 => ⟨[], by simp [stepTo], by simp⟩
  | j + 1 => by
    obtain ⟨e, h1, h2⟩ := stepTo_grow (n := n) (ll := ll) (c := c) j
    obtain ⟨d, g1, g2, _⟩ := stepOne_grow (n := n) (ll := ll) (c := stepTo n ll c j) (v := (n : Int) - j)
    exact ⟨e ++ d, by show stepOne _ _ _ _ = _; rw [g1, h1, List.append_assoc], by rw [List.length_append]; omega⟩
/-- A firm set that has what a step begins with has what it ends with. -/
theorem stepTo_firm {n : Nat} {ll : List (List Int)} {S : Int → Prop} (h : Firm n ll S) (ht : theoryErr n ll = 0) {c : List Int} (hc : ∀ d ∈ c, S d ∧ litValid d n = true) : ∀ j, j ≤ n → ∀ d ∈ stepTo n ll c j, S d ∧ litValid d n = true
  | 0, _ => hc
  | j + 1, hj => fun d hd => by
    have ih := stepTo_firm h ht hc j (by omega)
    have hn := (theoryErr_zero ht).2.1
    obtain ⟨e, g1, _, _, g4⟩ := stepOne_grow (n := n) (ll := ll) (c := stepTo n ll c j) (v := (n : Int) - j)
    have hd : d ∈ stepOne n ll (stepTo n ll c j) ((n : Int) - j) := hd
    rw [g1, List.mem_append] at hd
    have hv : litValid ((n : Int) - j) n = true := (litValid_iff _ _).2 (by omega)
    rcases hd with hd | hd
    · exact ih d hd
    · rcases g4 d hd with ⟨rfl, hf⟩ | ⟨rfl, hf⟩
      · exact ⟨firm_fail h ht ih hv hf, lit_valid_neg hv⟩
      · have := firm_fail h ht ih (lit_valid_neg hv) hf
        rw [Int.neg_neg] at this
        exact ⟨this, hv⟩
/-- Where a step finds nothing new, its beginning is firm. -/
theorem step_end {n : Nat} {ll : List (List Int)} {f : List Int} (hb : closB n ll f = true) (hl : (stepTo n ll (closL n ll f) n).length = f.length) (hnd : f.Nodup) : Firm n ll (· ∈ f) ∧ ∀ x, x ∈ f ↔ x ∈ closL n ll f := by
  have ht := clos_theory hb
  have hn := (theoryErr_zero ht).2.1
  obtain ⟨e, h1, _⟩ := stepTo_grow (n := n) (ll := ll) (c := closL n ll f) n
  have hsub : ∀ x ∈ f, x ∈ closL n ll f := fun x hx => clos_has hb x hx
  have hle := len_le_of_sub f (closL n ll f) hnd hsub
  have hlen : (closL n ll f).length = f.length ∧ e.length = 0 := by rw [h1, List.length_append] at hl; omega
  have hiff : ∀ x, x ∈ f ↔ x ∈ closL n ll f := fun x => ⟨hsub x, fun hx => by
    by_cases hxf : x ∈ f
    · exact hxf
    · exfalso
      have := len_le_of_sub (x :: f) (closL n ll f) (List.nodup_cons.2 ⟨hxf, hnd⟩) (fun y hy => by
        rcases List.mem_cons.1 hy with rfl | hy
        · exact hx
        · exact hsub y hy)
      simp only [List.length_cons] at this
      omega⟩
  have hm := clos_member hb
  have hall : ∀ j, j ≤ n → stepTo n ll (closL n ll f) j = closL n ll f := fun j hj => by
    -- each part of the step is short of the whole
    have key : ∀ i, (stepTo n ll (closL n ll f) j).length ≤ (stepTo n ll (closL n ll f) (j + i)).length := fun i => by
      induction i with
      | zero => exact Nat.le_refl _
      | succ i ih =>
        obtain ⟨d, g1, _⟩ := stepOne_grow (n := n) (ll := ll) (c := stepTo n ll (closL n ll f) (j + i)) (v := (n : Int) - (j + i : Nat))
        have : (stepTo n ll (closL n ll f) (j + (i + 1))).length = (stepTo n ll (closL n ll f) (j + i)).length + d.length := by
          show (stepOne n ll (stepTo n ll (closL n ll f) (j + i)) ((n : Int) - ((j + i : Nat) : Int))).length = _
          rw [g1, List.length_append]
        omega
    have := key (n - j)
    rw [show j + (n - j) = n by omega] at this
    obtain ⟨d, g1, _⟩ := stepTo_grow (n := n) (ll := ll) (c := closL n ll f) j
    rw [g1] at this ⊢
    rw [List.length_append] at this
    have : d = [] := List.length_eq_zero_iff.1 (by omega)
    rw [this, List.append_nil]
  refine ⟨⟨⟨fun c hc x hx hy => (hiff x).2 (hm.shut c hc x hx fun y hy' hne => (hiff _).1 (hy y hy' hne)), fun d hd => (by cases hd), fun x hx hx' => hm.con x ((hiff x).1 hx) ((hiff _).1 hx'), fun c hc h => hm.live c hc fun y hy => (hiff _).1 (h y hy)⟩, fun x hx hno => ?_⟩, hiff⟩
  by_cases hin : x ∈ f
  · exact ⟨_, ⟨fun c hc z hz hy => (hiff z).2 (hm.shut c hc z hz fun y hy' hne => (hiff _).1 (hy y hy' hne)), fun d hd => by rw [List.mem_singleton.1 hd]; exact hin, fun z hz hz' => hm.con z ((hiff z).1 hz) ((hiff _).1 hz'), fun c hc h => hm.live c hc fun y hy => (hiff _).1 (h y hy)⟩, fun y hy => hy⟩
  have hi := (litValid_iff _ _).1 hx
  have hvar := litVar_of_valid hx
  have hj : n - (litVar x).toNat < n := by rw [hvar]; split <;> omega
  have hvj : (n : Int) - ((n - (litVar x).toNat : Nat) : Int) = litVar x := by rw [hvar]; split <;> omega
  obtain ⟨d, g1, _, g3, _⟩ := stepOne_grow (n := n) (ll := ll) (c := stepTo n ll (closL n ll f) (n - (litVar x).toNat)) (v := (n : Int) - ((n - (litVar x).toNat : Nat) : Int))
  have hd : d = [] := by
    have a1 := hall (n - (litVar x).toNat) (by omega)
    have a2 := hall (n - (litVar x).toNat + 1) (by omega)
    have a3 : stepTo n ll (closL n ll f) (n - (litVar x).toNat + 1) = stepTo n ll (closL n ll f) (n - (litVar x).toNat) ++ d := g1
    rw [a2, a1] at a3
    exact List.self_eq_append_right.1 a3
  have g := g3 hd
  rw [hall (n - (litVar x).toNat) (by omega), hvj] at g
  have hc : closB n ll (closL n ll f ++ [x]) = true := by
    rw [hvar] at g
    by_cases hp : 0 < x
    · rw [if_pos hp] at g
      rcases g with (g | g) | ⟨g, _⟩
      · exact absurd ((hiff x).2 g) hin
      · exact absurd ((hiff _).2 g) hno
      · exact g
    · rw [if_neg hp, Int.neg_neg] at g
      rcases g with (g | g) | ⟨_, g⟩
      · exact absurd ((hiff _).2 g) hno
      · exact absurd ((hiff x).2 g) hin
      · exact g
  have hm2 := clos_member hc
  exact ⟨_, ⟨hm2.shut, fun d hd => hm2.has d (List.mem_append_right _ hd), hm2.con, hm2.live⟩, fun y hy => hm2.has y (List.mem_append_left _ ((hiff y).1 hy))⟩
end Go.Proofs.Ytnhlfhoeglnajaa
