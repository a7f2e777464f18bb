/- slices.Clone and slices.Delete at []int: what each call returns. -/
import Derived.Test.YtlaejhmpnlcceaaOwn
import Derived.Lib.SliceRun
import Derived.Deep.RegionLaw
namespace Go.Proofs.Ytlaejhmpnlcceaa
set_option linter.unusedSimpArgs false
set_option linter.unusedVariables false
open Go.RowKit

/-- Cells put one by one. -/
def putL : List Value → Nat → List Value → List Value
  | cs, _, [] => cs
  | cs, o, v :: vs => putL (cs.set o v) (o + 1) vs
theorem putL_eq : ∀ (vs cs : List Value) (o : Nat), o + vs.length ≤ cs.length → putL cs o vs = cs.take o ++ vs ++ cs.drop (o + vs.length)
  | [], cs, o, _ => by simp [putL]
  | v :: vs, cs, o, h => by
    simp only [putL]
    rw [putL_eq vs _ _ (by simp at h ⊢; omega)]
    have ho : o < cs.length := by simp at h; omega
    have e1 : (cs.set o v).take (o + 1) = cs.take o ++ [v] := by
      rw [List.take_succ_eq_append_getElem (by simpa using ho)]
      simp [List.take_set_of_le]
    have e2 : (cs.set o v).drop (o + 1 + vs.length) = cs.drop (o + (v :: vs).length) := by
      rw [List.drop_set_of_lt (by omega)]
      simp only [List.length_cons]; congr 1; omega
    rw [e1, e2]
    simp
theorem putL_length : ∀ (vs cs : List Value) (o : Nat), (putL cs o vs).length = cs.length
  | [], _, _ => rfl
  | v :: vs, cs, o => by simp only [putL]; rw [putL_length vs]; simp
theorem OwnB.setCells {b : Nat} {t : TypeId} : ∀ (vs : List Value) (o : Nat) {w : World} {cs : List Value}, OwnB w b cs t → OwnB (w.setCells b o vs) b (putL cs o vs) t
  | [], _, _, _, h => h
  | v :: vs, o, _, _, h => OwnB.setCells vs (o + 1) (h.set o v)
theorem Ex.setCells {b : Nat} : ∀ (vs : List Value) (o : Nat) {w w' : World}, Ex w w' → w.heap.size ≤ b → Ex w (w'.setCells b o vs)
  | [], _, _, _, h, _ => h
  | v :: vs, o, _, _, h, hb => Ex.setCells vs (o + 1) (h.setCell hb v) hb
/-- A world in which one block alone may have been written, beside new ones. -/
def Wrote (b : Nat) (w w' : World) : Prop := w.grownBy w' (some b)
theorem Wrote.ex {b : Nat} {w0 w w' : World} (h : Ex w0 w) (hw : Wrote b w w') (hb : w0.heap.size ≤ b) : Ex w0 w' := grown_ex h hw (by intro k hk; cases hk; exact hb)
theorem wrote_setCells {b : Nat} : ∀ (vs : List Value) (o : Nat) {w w' : World}, Wrote b w w' → Wrote b w (w'.setCells b o vs)
  | [], _, _, _, h => h
  | v :: vs, o, w, w', h => wrote_setCells vs (o + 1) (w' := w'.setCell ⟨b, o, none⟩ v) ⟨h.os, h.tape, h.output, by simpa [World.setCell] using h.size, fun k hk hne => by
      rw [Below.heap_setCell _ _ _ _ (fun e => hne (by rw [e]))]; exact h.block k hk hne⟩
theorem wrote_drew {b : Nat} {w : World} : Wrote b w w.drew := ⟨rfl, rfl, rfl, Nat.le_refl _, fun _ _ _ => rfl⟩
/-- A list of the call's own that is not nil, its block whole. -/
theorem OwnI.form {w : World} {base : Nat} {v : Value} {l : List Int} (h : OwnI w base v l) (hl : 0 < l.length) :
    ∃ g cap rest, v = .slice (some ⟨g, 0, none⟩) l.length cap ∧ base ≤ g ∧ OwnB w g (intsV l ++ rest) 3 ∧ l.length + rest.length = cap ∧ cap ≤ maxLen := by
  rcases h.2 with ⟨rfl, h0⟩ | ⟨g, cap, cur, hv, hb, hg, hc, hm, hs, ht⟩
  · omega
  · refine ⟨g, cap, cur.toList.drop l.length, hv, hb, ?_, ?_, hm⟩
    · unfold OwnB
      rw [show intsV l = cur.toList.take l.length by rw [← ht]; simp, List.take_append_drop]
      simpa using hg
    · simp only [Nat.mul_one] at hs
      have : cur.toList.length = cap := by rw [Array.length_toList]; exact hs
      rw [List.length_drop, this]; omega
theorem OwnI.of_block {w : World} {base g cap : Nat} {l : List Int} {cs : List Value} (hb : base ≤ g) (h : OwnB w g cs 3) (hc : cs.length = cap) (hm : cap ≤ maxLen) (hl : l.length ≤ cap) (ht : cs.take l.length = intsV l) :
    OwnI w base (.slice (some ⟨g, 0, none⟩) l.length cap) l :=
  ⟨by simp [intsV], .inr ⟨g, cap, cs.toArray, rfl, hb, h, hl, hm, by simp [hc], by simpa using ht⟩⟩

set_option maxHeartbeats 1000000 in
theorem slicesClone_any (av : Value) (l : List Int) (w : World) (hl : IntsAt w av l) (hb : l.length * 8 ≤ 140737488355328) :
    Calls Try.prog 58 #[av] w fun e w' => ∃ v, e = .returned v ∧ OwnI w' w.heap.size v l ∧ Ex w w' := by
  have hl0 := hl
  obtain ⟨a, cap, rfl, h1, h2, h3⟩ := hl
  have hnil := fun (w : World) => Lib.run_eql_slice_nil (P := Try.prog) w 25 3 a l.length cap 0 0 Try.underlying25
  cases a with
  | none =>
    have hy : l = [] := by
      cases l with
      | nil => rfl
      | cons y t => obtain ⟨b, off, h, _⟩ := h3 0 (by simp); cases h
    subst hy
    clear h3
    simp only [List.length_nil, Option.isNone_none] at hnil ⊢
    go_enter Try.func58, Try.ntmps58
    go_wp2
    go_ret
    exact ⟨_, rfl, OwnI.nil _ _, Ex.refl _⟩
  | some ad =>
    clear h3
    go_enter Try.func58, Try.ntmps58
    go_wp2_with (at_builtin; refine wpList_append_ints rfl (.tmp 5) (.tmp 6) rfl rfl rfl (OwnI.empty' (base := w.heap.size) rfl (Nat.le_refl _)) (hl0.ex (Ex.alloc _ _)) ?c1 ?c2 ?_)
    case c1 => simpa using hb
    case c2 => simp
    intro v' w5 hown hg
    have hx : Ex w w5 := grown_ex (Ex.alloc _ _) hg (by intro k hk; cases hk; exact Nat.le_refl _)
    have hown2 : OwnI w5 w.heap.size v' l := hown
    clear hown hg
    go_wp2
    go_ret
    exact ⟨_, rfl, hown2, hx⟩
end Go.Proofs.Ytlaejhmpnlcceaa
