/- Plain facts on literals in order, each once: what sorting and leaving out repeats make of a list is what the document says. No Go in sight. -/
import Derived.Test.YtlaejhmpnlcceaaBase
import Derived.Lib.SlicesCompact
namespace Go.Proofs.Ytlaejhmpnlcceaa
set_option linter.unusedSimpArgs false
set_option linter.unusedVariables false

/-- The place of a literal in the order: -1, 1, -2, 2, .. -/
def litKey (x : Int) : Int := 2 * (x.natAbs : Int) + (if 0 < x then 1 else 0)
theorem litKey_inj {x y : Int} (h : litKey x = litKey y) : x = y := by unfold litKey at h; split at h <;> split at h <;> omega
/-- The literals that occur, in order. -/
def orderL (l : List Int) : List Int := (List.range 128).flatMap fun (v : Nat) => (if l.contains (-((v : Int) + 1)) then [-((v : Int) + 1)] else []) ++ (if l.contains ((v : Int) + 1) then [(v : Int) + 1] else [])
abbrev Strict (l : List Int) : Prop := l.Pairwise fun a b => litKey a < litKey b
theorem strict_eq : ∀ (a b : List Int), Strict a → Strict b → (∀ x, x ∈ a ↔ x ∈ b) → a = b
  | [], [], _, _, _ => rfl
  | [], y :: _, _, _, h => by have := (h y).2 (List.mem_cons_self ..); cases this
  | x :: _, [], _, _, h => by have := (h x).1 (List.mem_cons_self ..); cases this
  | x :: xs, y :: ys, ha, hb, h => by
    rw [Strict, List.pairwise_cons] at ha hb
    have hxy : x = y := by
      rcases List.mem_cons.1 ((h x).1 (List.mem_cons_self ..)) with e | e
      · exact e
      · rcases List.mem_cons.1 ((h y).2 (List.mem_cons_self ..)) with e' | e'
        · exact e'.symm
        · have h1 := hb.1 x e
          have h2 := ha.1 y e'
          omega
    subst hxy
    have : xs = ys := strict_eq xs ys ha.2 hb.2 fun z => by
      constructor
      · intro hz
        rcases List.mem_cons.1 ((h z).1 (List.mem_cons_of_mem _ hz)) with e | e
        · subst e; have := ha.1 z hz; omega
        · exact e
      · intro hz
        rcases List.mem_cons.1 ((h z).2 (List.mem_cons_of_mem _ hz)) with e | e
        · subst e; have := hb.1 z hz; omega
        · exact e
    rw [this]
theorem orderL_mem {l : List Int} (hl : ∀ x ∈ l, litVar x ≠ 0) (x : Int) : x ∈ orderL l ↔ x ∈ l := by
  unfold orderL
  rw [List.mem_flatMap]
  constructor
  · rintro ⟨v, _, hv⟩
    rw [List.mem_append] at hv
    rcases hv with hv | hv
    · split at hv
      · rename_i h
        rw [List.mem_singleton] at hv
        subst hv
        simpa using h
      · cases hv
    · split at hv
      · rename_i h
        rw [List.mem_singleton] at hv
        subst hv
        simpa using h
      · cases hv
  · intro hx
    have h0 := hl x hx
    unfold litVar at h0
    by_cases hp : 1 ≤ x ∧ x ≤ 128
    · refine ⟨(x - 1).toNat, List.mem_range.2 (by omega), List.mem_append.2 (.inr ?_)⟩
      have e : (((x - 1).toNat : Int) + 1) = x := by omega
      rw [e, if_pos (by simpa using hx)]
      exact List.mem_singleton.2 rfl
    · rw [if_neg hp] at h0
      have hn : x ≤ -1 ∧ -128 ≤ x := by
        by_cases h : x ≤ -1 ∧ -128 ≤ x
        · exact h
        · rw [if_neg h] at h0; exact absurd rfl h0
      refine ⟨(-x - 1).toNat, List.mem_range.2 (by omega), List.mem_append.2 (.inl ?_)⟩
      have e : -((((-x - 1).toNat : Nat) : Int) + 1) = x := by omega
      rw [e, if_pos (by simpa using hx)]
      exact List.mem_singleton.2 rfl
/-- What a piece of the order holds. -/
theorem piece_mem {l : List Int} {v : Nat} {x : Int} (h : x ∈ (if l.contains (-((v : Int) + 1)) then [-((v : Int) + 1)] else []) ++ (if l.contains ((v : Int) + 1) then [(v : Int) + 1] else [])) : x = -((v : Int) + 1) ∨ x = (v : Int) + 1 := by
  rw [List.mem_append] at h
  rcases h with h | h
  · split at h
    · exact .inl (List.mem_singleton.1 h)
    · cases h
  · split at h
    · exact .inr (List.mem_singleton.1 h)
    · cases h
theorem piece_strict (l : List Int) (v : Nat) : Strict ((if l.contains (-((v : Int) + 1)) then [-((v : Int) + 1)] else []) ++ (if l.contains ((v : Int) + 1) then [(v : Int) + 1] else [])) := by
  split <;> split <;> simp [Strict, litKey] <;> omega
theorem orderL_strict (l : List Int) : Strict (orderL l) := by
  unfold orderL
  generalize (128 : Nat) = n
  induction n with
  | zero => simp [Strict]
  | succ n ih =>
    rw [List.range_succ, List.flatMap_append, Strict, List.pairwise_append]
    refine ⟨ih, by simpa using piece_strict l n, fun x hx y hy => ?_⟩
    rw [List.mem_flatMap] at hx
    obtain ⟨v, hv, hx⟩ := hx
    have hv := List.mem_range.1 hv
    have h1 := piece_mem hx
    have hy' := by simpa using hy
    have h2 := piece_mem (l := l) (v := n) (x := y) (by simpa using hy)
    clear hy hy' hx
    unfold litKey
    rcases h1 with rfl | rfl <;> rcases h2 with rfl | rfl <;> (repeat' split) <;> omega

open Go.Lib in
theorem compact_upTo {zs : List Int} (h : zs.Pairwise fun a b => litKey a ≤ litKey b) : ∀ m, m ≤ zs.length → Strict (compactUpTo zs.toArray m) ∧ ∀ x, x ∈ compactUpTo zs.toArray m ↔ ∃ j, j < m ∧ zs.toArray[j]! = x
  | 0, _ => ⟨by simp [compactUpTo, Strict], fun x => by simp [compactUpTo]⟩
  | m + 1, hm => by
    obtain ⟨ih1, ih2⟩ := compact_upTo h m (by omega)
    rw [compactUpTo_succ]
    have hget : ∀ j, (hj : j < zs.length) → zs.toArray[j]! = zs[j] := fun j hj => by simp [getElem!_pos, hj]
    by_cases hk : keeps zs.toArray m = true
    · rw [if_pos hk]
      refine ⟨?_, fun x => ?_⟩
      · rw [Strict, List.pairwise_append]
        refine ⟨ih1, by simp, fun x hx y hy => ?_⟩
        rw [List.mem_singleton] at hy
        subst hy
        obtain ⟨j, hj, rfl⟩ := (ih2 x).1 hx
        have h0 : m ≠ 0 := by omega
        have hne : zs.toArray[m]! ≠ zs.toArray[m - 1]! := by
          simp only [keeps, decide_eq_true_eq] at hk
          rcases hk with hk | hk
          · exact absurd hk h0
          · exact hk
        rw [hget m (by omega), hget (m - 1) (by omega)] at hne
        rw [hget m (by omega), hget j (by omega)]
        have hle := List.pairwise_iff_getElem.1 h
        have h1 := hle (m - 1) m (by omega) (by omega) (by omega)
        have h2 : litKey zs[m - 1] ≠ litKey zs[m] := fun e => hne (litKey_inj e).symm
        by_cases hjm : j = m - 1
        · subst hjm; omega
        · have h3 := hle j (m - 1) (by omega) (by omega) (by omega)
          omega
      · rw [List.mem_append, ih2, List.mem_singleton]
        constructor
        · rintro (⟨j, hj, e⟩ | rfl)
          · exact ⟨j, by omega, e⟩
          · exact ⟨m, by omega, rfl⟩
        · rintro ⟨j, hj, e⟩
          by_cases hjm : j = m
          · subst hjm; exact .inr e.symm
          · exact .inl ⟨j, by omega, e⟩
    · rw [if_neg hk, List.append_nil]
      refine ⟨ih1, fun x => ?_⟩
      rw [ih2]
      constructor
      · rintro ⟨j, hj, e⟩
        exact ⟨j, by omega, e⟩
      · rintro ⟨j, hj, e⟩
        by_cases hjm : j = m
        · subst hjm
          simp only [keeps, decide_eq_true_eq, not_or, Decidable.not_not] at hk
          exact ⟨j - 1, by omega, by rw [← hk.2]; exact e⟩
        · exact ⟨j, by omega, e⟩
theorem compact_eq_order {zs l : List Int} (h : zs.Pairwise fun a b => litKey a ≤ litKey b) (hm : ∀ x, x ∈ zs ↔ x ∈ l) (hl : ∀ x ∈ l, litVar x ≠ 0) : Lib.compact zs = orderL l := by
  obtain ⟨h1, h2⟩ := compact_upTo h zs.length (Nat.le_refl _)
  refine strict_eq _ _ h1 (orderL_strict l) fun x => ?_
  rw [orderL_mem hl, ← hm]
  show x ∈ Lib.compactUpTo _ _ ↔ _
  rw [h2]
  constructor
  · rintro ⟨j, hj, rfl⟩
    have : zs.toArray[j]! = zs[j] := by simp [getElem!_pos, hj]
    rw [this]; exact List.getElem_mem hj
  · intro hx
    obtain ⟨j, hj, rfl⟩ := List.getElem_of_mem hx
    exact ⟨j, hj, by simp [getElem!_pos, hj]⟩

/-- How literals are compared. -/
def litCmp (a b : Int) : Int := if litVar a = litVar b then a - b else litVar a - litVar b
theorem litCmp_lt {a b : Int} (ha : litVar a ≠ 0) (hb : litVar b ≠ 0) : decide (litCmp a b < 0) = decide (litKey a < litKey b) := by
  rw [decide_eq_decide]
  have ha' : (1 ≤ a ∧ a ≤ 128 ∧ litVar a = a) ∨ (a ≤ -1 ∧ -128 ≤ a ∧ litVar a = -a) := by
    unfold litVar at *; (repeat' split) <;> simp_all
  have hb' : (1 ≤ b ∧ b ≤ 128 ∧ litVar b = b) ∨ (b ≤ -1 ∧ -128 ≤ b ∧ litVar b = -b) := by
    unfold litVar at *; (repeat' split) <;> simp_all
  unfold litCmp litKey
  rcases ha' with ⟨h1, h2, h3⟩ | ⟨h1, h2, h3⟩ <;> rcases hb' with ⟨k1, k2, k3⟩ | ⟨k1, k2, k3⟩ <;> rw [h3, k3] <;> (repeat' split) <;> omega
end Go.Proofs.Ytlaejhmpnlcceaa
