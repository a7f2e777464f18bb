/- The reference's probing as a loop, plainly: where it ends it says what Probe says. No Go in sight. -/
import Derived.Test.YtnhlfhoeglnajaaStepP
namespace Go.Proofs.Ytnhlfhoeglnajaa
set_option linter.unusedSimpArgs false
set_option linter.unusedVariables false
open Go.RowKit
set_option maxRecDepth 20000
/-- What holds of a list on the reference's way from a term. -/
structure OnWay (n : Nat) (ll : List (List Int)) (l f : List Int) : Prop where
  nd : f.Nodup
  val : ∀ x ∈ f, litValid x n = true
  has : ∀ x ∈ l, x ∈ f
  least : ∀ S, Firm n ll S → (∀ x ∈ l, S x) → ∀ x ∈ f, S x
theorem stepOne_nodup {n : Int} {ll : List (List Int)} {c : List Int} {v : Int} (h : c.Nodup) (hv : v ≠ -v) : (stepOne n ll c v).Nodup := by
  unfold stepOne
  by_cases hc : (c.contains v || c.contains (-v)) = true
  · rw [if_pos hc]; exact h
  · rw [if_neg hc]
    rw [Bool.or_eq_true, not_or, List.contains_iff_mem, List.contains_iff_mem] at hc
    obtain ⟨h1, h2⟩ := hc
    have a1 : (c ++ [-v]).Nodup := List.nodup_append.2 ⟨h, by simp, fun a ha b hb e => by rw [List.mem_singleton] at hb; subst hb; subst e; exact h2 ha⟩
    have a2 : (c ++ [v]).Nodup := List.nodup_append.2 ⟨h, by simp, fun a ha b hb e => by rw [List.mem_singleton] at hb; subst hb; subst e; exact h1 ha⟩
    have a3 : (c ++ [-v] ++ [v]).Nodup := List.nodup_append.2 ⟨a1, by simp, fun a ha b hb e => by
      rw [List.mem_singleton] at hb; subst hb; subst e
      rcases List.mem_append.1 ha with ha | ha
      · exact h1 ha
      · rw [List.mem_singleton] at ha; exact hv ha⟩
    by_cases g1 : closB n ll (c ++ [v]) = true <;> by_cases g2 : closB n ll (c ++ [-v]) = true <;> simp only [g1, g2, if_true, if_false] <;> assumption
theorem stepTo_nodup {n : Nat} {ll : List (List Int)} {c : List Int} (h : c.Nodup) : ∀ j, j ≤ n → (stepTo n ll c j).Nodup
  | 0, _ => h
  | j + 1, hj => stepOne_nodup (stepTo_nodup h j (by omega)) (by omega)
theorem strict_nodup {l : List Int} (h : Strict l) : l.Nodup := by
  refine List.Pairwise.imp ?_ h
  intro a b hab e
  subst e
  exact Int.lt_irrefl _ hab
theorem stepTo_valid {n : Nat} {ll : List (List Int)} {c : List Int} (h : ∀ x ∈ c, litValid x n = true) (hn : n ≤ 128) : ∀ j, j ≤ n → ∀ x ∈ stepTo n ll c j, litValid x n = true
  | 0, _ => h
  | j + 1, hj => fun x hx => by
    obtain ⟨e, g1, _, _, g4⟩ := stepOne_grow (n := n) (ll := ll) (c := stepTo n ll c j) (v := (n : Int) - j)
    have hx : x ∈ stepOne n ll (stepTo n ll c j) ((n : Int) - j) := hx
    rw [g1, List.mem_append] at hx
    rcases hx with hx | hx
    · exact stepTo_valid h hn j (by omega) x hx
    · rcases g4 x hx with ⟨rfl, _⟩ | ⟨rfl, _⟩ <;> exact (litValid_iff _ _).2 (by omega)
theorem onway_start {n : Nat} {ll : List (List Int)} {l : List Int} (h : termB l n = true) : OnWay n ll l (sortF l n) := by
  rw [termB_eq, List.all_eq_true] at h
  have h1 : ∀ x ∈ l, litValid x n = true := fun x hx => by have := h x hx; rw [Bool.and_eq_true] at this; exact this.1
  have h2 : ∀ x ∈ l, -x ∉ l := fun x hx hn => by
    have := h x hx
    rw [Bool.and_eq_true, Bool.not_eq_true', ← Bool.not_eq_true, List.contains_iff_mem] at this
    exact this.2 hn
  exact ⟨strict_nodup (sortF_strict l n), fun x hx => h1 x ((sortF_mem h1 h2 x).1 hx), fun x hx => (sortF_mem h1 h2 x).2 hx, fun S _ hs x hx => hs x ((sortF_mem h1 h2 x).1 hx)⟩
theorem onway_step {n : Nat} {ll : List (List Int)} {l f : List Int} (h : OnWay n ll l f) (hc : closB n ll f = true) : OnWay n ll l (stepTo n ll (closL n ll f) n) ∧ ∀ x ∈ f, x ∈ stepTo n ll (closL n ll f) n := by
  have ht := clos_theory hc
  obtain ⟨e, h1, _⟩ := stepTo_grow (n := n) (ll := ll) (c := closL n ll f) n
  have hsub : ∀ x ∈ f, x ∈ stepTo n ll (closL n ll f) n := fun x hx => by rw [h1]; exact List.mem_append_left _ (clos_has hc x hx)
  have htop : ∀ S, Firm n ll S → (∀ x ∈ l, S x) → ∀ d ∈ stepTo n ll (closL n ll f) n, S d ∧ litValid d n = true := fun S hS hl =>
    stepTo_firm hS ht (fun d hd => (firm_clos hS.fits ht (f := f) fun x hx => ⟨h.least S hS hl x hx, h.val x hx⟩).2 d hd) n (Nat.le_refl _)
  refine ⟨⟨stepTo_nodup (strict_nodup (by unfold closL; rw [if_pos hc]; exact orderL_strict _)) n (Nat.le_refl _), fun x hx => ?_, fun x hx => hsub x (h.has x hx), fun S hS hl x hx => (htop S hS hl x hx).1⟩, hsub⟩
  exact stepTo_valid (fun y hy => clos_valid hc hy) (by have := (theoryErr_zero ht).2.1; omega) n (Nat.le_refl _) x hx
theorem onway_fail {n : Nat} {ll : List (List Int)} {l f : List Int} (h : OnWay n ll l f) (hc : closB n ll f = false) : probeT n ll l = none := by
  cases hp : probeT n ll l with
  | none => rfl
  | some r =>
    obtain ⟨ht, hv, hf, hl, hs, hval⟩ := probeT_some hp
    have := (firm_clos hf.fits ht (f := f) fun d hd => ⟨h.least _ hf hl d hd, h.val d hd⟩).1
    rw [hc] at this; cases this
theorem onway_end {n : Nat} {ll : List (List Int)} {l f : List Int} (h : OnWay n ll l f) (hc : closB n ll f = true) (hl : (stepTo n ll (closL n ll f) n).length = f.length) : probeT n ll l = some (sortF f n) := by
  have ht := clos_theory hc
  obtain ⟨hf, hiff⟩ := step_end hc hl h.nd
  obtain ⟨r, e, hr⟩ := probeT_firm hf ht (l := l) fun d hd => ⟨h.has d hd, h.val d (h.has d hd)⟩
  obtain ⟨_, _, hfr, hlr, hs, _⟩ := probeT_some e
  have hm := sortF_mem h.val (fun x hx => hf.fits.con x hx)
  rw [e, strict_sub hs (sortF_strict f n) (fun x hx => (hm x).2 (hr x hx)) (fun x hx => h.least _ hfr hlr x ((hm x).1 hx))]
theorem onway_len {n : Nat} {ll : List (List Int)} {l f : List Int} (h : OnWay n ll l f) (hn : n ≤ 128) : f.length ≤ 256 := by
  have := len_le_of_sub f ((List.range 128).flatMap fun k : Nat => [(k : Int) + 1, -((k : Int) + 1)]) h.nd fun x hx => by
    have hi := (litValid_iff _ _).1 (h.val x hx)
    rw [List.mem_flatMap]
    by_cases hp : 0 < x
    · exact ⟨x.toNat - 1, List.mem_range.2 (by omega), List.mem_cons.2 (.inl (by omega))⟩
    · exact ⟨(-x).toNat - 1, List.mem_range.2 (by omega), List.mem_cons.2 (.inr (List.mem_singleton.2 (by omega)))⟩
  exact Nat.le_trans this (by decide)
theorem onway_more {n : Nat} {ll : List (List Int)} {l f : List Int} (h : OnWay n ll l f) (hc : closB n ll f = true) (hl : (stepTo n ll (closL n ll f) n).length ≠ f.length) : f.length < (stepTo n ll (closL n ll f) n).length := by
  have := len_le_of_sub f _ h.nd (onway_step h hc).2
  omega
end Go.Proofs.Ytnhlfhoeglnajaa
