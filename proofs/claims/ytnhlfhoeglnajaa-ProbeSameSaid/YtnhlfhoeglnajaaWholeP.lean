/- Whole assignments and equal literals in a set, plainly. No Go in sight. -/
import Derived.Test.YtnhlfhoeglnajaaLaw15d
namespace Go.Proofs.Ytnhlfhoeglnajaa
set_option linter.unusedSimpArgs false
set_option linter.unusedVariables false
open Go.RowKit
set_option maxRecDepth 20000
/-- What one knows behind a region: the frame, and something of the world. -/
def AfterQ (f : Act) (W : World → Prop) : Exit → Act → World → Prop
  | .normal, a, w => a = f ∧ W w
  | _, _, _ => False
theorem AfterQ.out {f : Act} {W : World → Prop} {Q : Exit → Act → World → Prop} (h : ∀ w, W w → Q .normal f w) : ∀ e a w, AfterQ f W e a w → Q e a w := fun e a w hq => by
  cases e <;> first | exact absurd hq id | (obtain ⟨rfl, hw⟩ := hq; exact h w hw)
theorem hasB_and (x y u v : Nat) (z : Int) : hasB (x &&& u) (y &&& v) z = (hasB x y z && hasB u v z) := by
  by_cases h1 : 1 ≤ z
  · by_cases h2 : z ≤ 128
    · by_cases h3 : z ≤ 64
      · rw [hasB_fst _ _ h1 h3, hasB_fst _ _ h1 h3, hasB_fst _ _ h1 h3, Nat.testBit_and]
      · rw [hasB_snd _ _ h2 h3, hasB_snd _ _ h2 h3, hasB_snd _ _ h2 h3, Nat.testBit_and]
    · rw [hasB_high _ _ h2, hasB_high _ _ h2]; rfl
  · rw [hasB_low _ _ h1, hasB_low _ _ h1]; rfl
theorem cut_assign (x y : Nat) {m : Nat} (hm : m ≤ 128) : assignB (x &&& (allV m).1) (y &&& (allV m).2) m = true := by
  rw [assignB_iff]
  intro v hv
  rw [hasB_and, hasB_all m hm]
  simp only [Bool.and_eq_false_iff, decide_eq_false_iff_not]
  omega
/-- The term of a set: of the variables n, n - 1, .. (j of them). -/
def wholeL (s : Nat × Nat) (n j : Nat) : List Int := (List.range j).map fun (i : Nat) => sideV s ((n : Int) - i)
theorem wholeL_succ (s : Nat × Nat) (n j : Nat) : wholeL s n (j + 1) = wholeL s n j ++ [sideV s ((n : Int) - j)] := by unfold wholeL; rw [List.range_succ, List.map_append]; rfl
theorem wholeL_len (s : Nat × Nat) (n j : Nat) : (wholeL s n j).length = j := by simp [wholeL]
theorem holds_side {x y : Nat} {v : Int} (h1 : 1 ≤ v) (h2 : v ≤ 128) : holdsB x y (sideV (x, y) v) = true := by
  have e : litVar v = v ∧ litVar (-v) = v := litVar_self h1 h2 (.inl rfl)
  unfold sideV holdsB
  cases hb : hasB x y v with
  | true =>
    simp only [hb, if_true, e.1]
    simp; omega
  | false =>
    simp only [hb, if_false, e.2, Bool.false_eq_true]
    simp; omega
theorem side_of {x y : Nat} {n z : Int} (hz : litValid z n = true) (h : holdsB x y z = true) : z = sideV (x, y) (litVar z) := by
  unfold holdsB at h
  rw [Bool.and_eq_true, beq_iff_eq] at h
  unfold sideV
  show z = if hasB x y (litVar z) then litVar z else -litVar z
  rw [h.2, litVar_of_valid hz]
  by_cases hp : 0 < z
  · simp [hp]
  · simp [hp]
theorem whole_mem {x y n : Nat} (hn : n ≤ 128) {z : Int} : z ∈ wholeL (x, y) n n ↔ litValid z n = true ∧ holdsB x y z = true := by
  unfold wholeL
  rw [List.mem_map]
  constructor
  · rintro ⟨i, hi, rfl⟩
    have hi := List.mem_range.1 hi
    refine ⟨?_, holds_side (by omega) (by omega)⟩
    rcases sideV_abs (x, y) ((n : Int) - i) with e | e <;> rw [e, litValid_iff] <;> omega
  · rintro ⟨hz, hh⟩
    have hv := litVar_of_valid hz
    have hi := (litValid_iff _ _).1 hz
    refine ⟨n - (litVar z).toNat, List.mem_range.2 (by rw [hv]; split <;> omega), ?_⟩
    rw [show (n : Int) - ((n - (litVar z).toNat : Nat) : Int) = litVar z by rw [hv]; split <;> omega]
    exact (side_of hz hh).symm
theorem nodup_strict {l : List Int} (h : Strict l) : l.Nodup := List.Pairwise.imp (fun {a b} h e => by rw [e] at h; omega) h
theorem whole_nodup (s : Nat × Nat) {n : Nat} : ∀ j, j ≤ n → (wholeL s n j).Nodup
  | 0, _ => by simp [wholeL]
  | j + 1, hj => by
    rw [wholeL_succ, List.nodup_append]
    refine ⟨whole_nodup s j (by omega), by simp, fun a ha b hb => ?_⟩
    rw [List.mem_singleton] at hb
    subst hb
    unfold wholeL at ha
    obtain ⟨i, hi, rfl⟩ := List.mem_map.1 ha
    have hi := List.mem_range.1 hi
    intro e
    rcases sideV_abs s ((n : Int) - i) with e1 | e1 <;> rcases sideV_abs s ((n : Int) - j) with e2 | e2 <;> rw [e1, e2] at e <;> omega
/-- What ProbeWhole asks. -/
theorem whole15 {n : Nat} {ll : List (List Int)} {x y : Nat} (ht : theoryErr n ll = 0) (ha : assignB x y n = true) :
    (evalB n ll x y = false → probeT n ll (wholeL (x, y) n n) = none) ∧ (evalB n ll x y = true → ∃ r, probeT n ll (wholeL (x, y) n n) = some r ∧ r.length = n ∧ (wholeL (x, y) n n).all (r.contains ·) = true) := by
  have hn : n ≤ 128 := by have := (theoryErr_zero ht).2.1; omega
  constructor
  · intro he
    cases hp : probeT n ll (wholeL (x, y) n n) with
    | none => rfl
    | some r =>
      obtain ⟨_, _, hf, hl, _, _⟩ := probeT_some hp
      have := whole_model ht ha hf.fits fun l hv hh => hl l ((whole_mem hn).2 ⟨hv, hh⟩)
      rw [he] at this; cases this
  · intro he
    obtain ⟨r, e, s⟩ := probeT_firm (model_firm he) ht (l := wholeL (x, y) n n) fun d hd => ⟨(whole_mem hn).1 hd, ((whole_mem hn).1 hd).1⟩
    obtain ⟨_, _, _, hl, hs, _⟩ := probeT_some e
    refine ⟨r, e, ?_, all_in hl⟩
    have a := len_le_of_sub r _ (nodup_strict hs) fun z hz => (whole_mem hn).2 (s z hz)
    have b := len_le_of_sub _ r (whole_nodup (x, y) n (Nat.le_refl _)) hl
    rw [wholeL_len] at a b
    omega
/-- What ProbeSame asks of a literal of Equal. -/
theorem same15 {n : Nat} {ll : List (List Int)} {x y : Nat} (hn : n ≤ 128) {i : Nat} (hi : i < n) : ∃ u : Nat, litVar (eqV n ll ((i : Int) + 1)) = (u : Int) + 1 ∧ u ≤ i ∧ eqV n ll ((u : Int) + 1) = (u : Int) + 1 ∧
    (evalB n ll x y = true → holdsB x y (eqV n ll ((i : Int) + 1)) = hasB x y ((i : Int) + 1)) := by
  obtain ⟨ht, u, u1, u2, u3, u4⟩ := eqV_spec (n := n) (ll := ll) (v := (i : Int) + 1) (by omega)
  have hv := litVar_self u1 (by omega) u3
  refine ⟨u.toNat - 1, by rw [hv.1]; omega, by omega, ?_, fun he => ?_⟩
  · rw [show (((u.toNat - 1 : Nat)) : Int) + 1 = u by omega]; exact u4
  · rw [← tied_model he ht]
    have e : litVar ((i : Int) + 1) = (i : Int) + 1 := (litVar_self (by omega) (by omega) (.inl rfl)).1
    unfold holdsB
    rw [e]
    have h0 : (((i : Int) + 1) != 0) = true := by rw [bne_iff_ne]; omega
    have h1 : decide (0 < (i : Int) + 1) = true := by rw [decide_eq_true_eq]; omega
    rw [h0, h1]; simp
end Go.Proofs.Ytnhlfhoeglnajaa
