/- Lists written down in the text, and slices whose block is the call's own and is written. No condition. -/
import Derived.Test.YtagohmpbbbkdjaaDoorSlices
namespace Go.Proofs.YtagohmpbbbkdjaaDoor
set_option linter.unusedSimpArgs false
set_option linter.unusedVariables false
open Go.RowKit
theorem alloc_size (w : World) (o : Obj) : (w.alloc o).heap.size = w.heap.size + 1 := by show (w.heap.push o).size = _; simp
theorem litAt0 (w : World) (l : List Int) (t : TypeId) (h : l.length ≤ maxLen) : IntsAt (w.alloc (.cells (intsV l).toArray t)) (.slice (some ⟨w.heap.size, 0, none⟩) l.length l.length) l :=
  intsAt_of_block (OwnB.new w (intsV l) t) h
theorem litAt1 (w : World) (o : Obj) (l : List Int) (t : TypeId) (h : l.length ≤ maxLen) : IntsAt ((w.alloc o).alloc (.cells (intsV l).toArray t)) (.slice (some ⟨w.heap.size + 1, 0, none⟩) l.length l.length) l := by
  have := litAt0 (w.alloc o) l t h
  rwa [alloc_size] at this
theorem litAt2 (w : World) (o o' : Obj) (l : List Int) (t : TypeId) (h : l.length ≤ maxLen) : IntsAt (((w.alloc o).alloc o').alloc (.cells (intsV l).toArray t)) (.slice (some ⟨w.heap.size + 1 + 1, 0, none⟩) l.length l.length) l := by
  have := litAt1 (w.alloc o) o' l t h
  rwa [alloc_size] at this
/-- A slice of integers whose block is the call's own: from 'base' on, below 'top'. -/
def Mine (w : World) (base top : Nat) (p : Option Addr) (n : Nat) : Prop := 0 < n → ∃ g cs, p = some ⟨g, 0, none⟩ ∧ base ≤ g ∧ g < top ∧ OwnB w g cs 3 ∧ n ≤ cs.length
theorem Mine.of_own {w : World} {base cap : Nat} {p : Option Addr} {l : List Int} (h : OwnI w base (.slice p l.length cap) l) : Mine w base w.heap.size p l.length := fun hl => by
  obtain ⟨g, cap', rest, hv, hb, hO, _, _⟩ := h.form hl
  cases hv
  exact ⟨g, _, rfl, hb, hO.lt, hO, by simp [intsV]⟩
theorem Mine.ex {w w' : World} {base top n : Nat} {p : Option Addr} (h : Mine w base top p n) (hx : Ex w w') : Mine w' base top p n := fun hn => by
  obtain ⟨g, cs, h1, h2, h3, h4, h5⟩ := h hn
  exact ⟨g, cs, h1, h2, h3, h4.ex hx, h5⟩
theorem Mine.set {w : World} {base top n g j : Nat} (h : Mine w base top (some ⟨g, 0, none⟩) n) (v : Value) : Mine (w.setCell ⟨g, j, none⟩ v) base top (some ⟨g, 0, none⟩) n := fun hn => by
  obtain ⟨g', cs, h1, h2, h3, h4, h5⟩ := h hn
  cases h1
  exact ⟨g, _, rfl, h2, h3, h4.set j v, by rw [List.length_set]; exact h5⟩
theorem Mine.setOther {w : World} {base top n b j : Nat} {p : Option Addr} (h : Mine w base top p n) (hb : b < base) (v : Value) : Mine (w.setCell ⟨b, j, none⟩ v) base top p n := fun hn => by
  obtain ⟨g', cs, h1, h2, h3, h4, h5⟩ := h hn
  exact ⟨g', cs, h1, h2, h3, h4.set_other j v (by omega), h5⟩
end Go.Proofs.YtagohmpbbbkdjaaDoor
