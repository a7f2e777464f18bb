/- A scope with jumps back, by a ghost number that falls. Plain of any program. No condition. -/
import Derived.Test.YtnhlfhoeglnajaaG1
import Derived.ScopeJumps
import Derived.WalkMore
namespace Go.Proofs.Ytnhlfhoeglnajaa
set_option linter.unusedSimpArgs false
set_option linter.unusedVariables false
open Go.RowKit
theorem least_of {p : Nat → Prop} (h : ∃ g, p g) : ∃ g, p g ∧ ∀ k, p k → g ≤ k := by
  obtain ⟨g, hg⟩ := h
  induction g using Nat.strongRecOn with
  | ind g ih =>
    by_cases hx : ∃ k, k < g ∧ p k
    · obtain ⟨k, hk, hp⟩ := hx
      exact ih k hk hp
    · exact ⟨g, hg, fun k hk => by
        by_cases hl : k < g
        · exact absurd ⟨k, hl, hk⟩ hx
        · omega⟩
open Classical in
noncomputable def leastG (p : Nat → Prop) : Nat := if h : ∃ g, p g then Classical.choose (least_of h) else 0
theorem leastG_spec {p : Nat → Prop} (h : ∃ g, p g) : p (leastG p) := by
  unfold leastG; rw [dif_pos h]; exact (Classical.choose_spec (least_of h)).1
theorem leastG_le {p : Nat → Prop} {k : Nat} (h : p k) : leastG p ≤ k := by
  have hx : ∃ g, p g := ⟨k, h⟩
  unfold leastG; rw [dif_pos hx]; exact (Classical.choose_spec (least_of hx)).2 k h
theorem jump_mono {l : Nat} {J J' : Act → World → Prop} {Q : Exit → Act → World → Prop} (h : ∀ a w, J a w → J' a w) : ∀ e a w, Exit.jump l J Q e a w → Exit.jump l J' Q e a w := by
  intro e a w hq
  cases e <;> first | exact hq | exact ⟨hq.1, h _ _ hq.2⟩
theorem wp_scope_ghost {P : Program} {a : Act} {w : World} {Q : Exit → Act → World → Prop} {c rest : Code} (l : Nat) (J : Nat → Act → World → Prop) (hf : findLabel c l = some (Code.seq Code.skip rest))
    (pass : ∀ (J' : Act → World → Prop) g a w, J g a w → Hid (∀ g' a' w', g' < g → J g' a' w' → J' a' w') → rest.wp P (Exit.jump l J' Q) a w)
    (first : ∀ J' : Act → World → Prop, Hid (∀ g a w, J g a w → rest.wp P (Exit.jump l J' Q) a w) → c.wp P (Exit.jump l J' Q) a w) : (Code.scope c).wp P Q a w := by
  replace pass : ∀ g a w, J g a w → rest.wp P (Exit.jump l (fun a' w' => ∃ g', g' < g ∧ J g' a' w') Q) a w := fun g a w h => pass _ g a w h fun g' a' w' hl hj => ⟨g', hl, hj⟩
  replace first : (∀ g a w, J g a w → rest.wp P (Exit.jump l (fun a' w' => ∃ g', J g' a' w') Q) a w) → c.wp P (Exit.jump l (fun a' w' => ∃ g', J g' a' w') Q) a w := fun h => first _ h
  refine wp_scope_jumps l (fun a w => ∃ g, J g a w) (fun a w => leastG fun g => J g a w) hf (first fun g a w h => wp_mono (pass g a w h) (jump_mono fun _ _ ⟨g', _, h'⟩ => ⟨g', h'⟩)) ?_
  intro a w hJ
  refine wp_seq (wp_skip ?_)
  exact wp_mono (pass _ a w (leastG_spec hJ)) (jump_mono fun a' w' ⟨g', hl, h'⟩ => ⟨⟨g', h'⟩, Nat.lt_of_le_of_lt (leastG_le h') hl⟩)
end Go.Proofs.Ytnhlfhoeglnajaa
