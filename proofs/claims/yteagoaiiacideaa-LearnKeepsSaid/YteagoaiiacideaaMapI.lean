/- A map from integers to booleans that the call itself has made, as the list of the keys that are true. No condition. -/
import Derived.Test.YteagoaiiacideaaG2
import Derived.Maps.OwnSet
namespace Go.Proofs.Yteagoaiiacideaa
set_option linter.unusedSimpArgs false
set_option linter.unusedVariables false
open Go.RowKit Go.Maps
set_option maxRecDepth 20000
theorem Try.keyI : Keyed Try.prog 3 := int_keyed Try.underlying3
theorem Try.zeroB (w : World) : (zeroValue 4).run Try.prog w = .ok (.bool false) w := by kernel_rfl
/-- The block is a map of at most n entries, of which those of S are true. -/
def MapI (w : World) (b n : Nat) (S : List Int) : Prop := ∃ D : DataW Nat, w.ownsMap Try.prog 3 (plainElem Try.prog 4) b n D ∧ ∀ x, (Lit.int .i64 x).wf = true → D.atKey (.int .i64 x) (.lit (.bool false)) = .lit (.bool (S.contains x))
theorem MapI.lt {w : World} {b n : Nat} {S : List Int} (h : MapI w b n S) : b < w.heap.size := h.elim fun _ h => h.1.lt
theorem MapI.ex {w w' : World} {b n : Nat} {S : List Int} (h : MapI w b n S) (hx : Ex w w') : MapI w' b n S := by
  obtain ⟨D, ⟨es, clock, hb, F, hs, hD⟩, h2⟩ := h
  exact ⟨D, ⟨es, clock, (hx.block _ (Array.getElem?_eq_some_iff.1 hb).1).trans hb, F, hs, hD⟩, h2⟩
theorem MapI.grown {w w' : World} {row : Option Nat} {b n : Nat} {S : List Int} (h : MapI w b n S) (hg : w.grownBy w' row) (hne : some b ≠ row) : MapI w' b n S := by
  obtain ⟨D, h1, h2⟩ := h
  exact ⟨D, h1.kept hg hne, h2⟩
theorem MapI.setCell {w : World} {b n : Nat} {S : List Int} (h : MapI w b n S) {a : Addr} (ha : b ≠ a.block) (u : Value) : MapI (w.setCell a u) b n S := by
  obtain ⟨D, h1, h2⟩ := h
  exact ⟨D, h1.setCell ha u, h2⟩
theorem MapI.made (w : World) : MapI (w.alloc (.map #[] 0)) w.heap.size 0 [] := ⟨.map [], World.ownsMap_made _ _ _ _, fun x _ => rfl⟩
theorem MapI.look {w : World} {b n : Nat} {S : List Int} (h : MapI w b n S) {x : Int} (hw : (Lit.int .i64 x).wf = true) : (Instr.lookup 68 (.map (some b)) (.int .i64 x) false).run Try.prog w = .ok (.bool (S.contains x)) w := by
  obtain ⟨D, h1, h2⟩ := h
  obtain ⟨v, ps, hrun, hv⟩ := h1.lookup Try.keyI Try.underlying68 (Try.zeroB w) (plainElem_bool Try.underlying4 false) (keyOf_int_mk Try.underlying3 hw)
  rw [h2 x hw] at hv
  unfold plainElem at hv
  rw [Try.underlying4] at hv
  cases v <;> simp at hv
  rw [hrun, hv.1]; simp
theorem mapI_nil (w : World) {x : Int} (hw : (Lit.int .i64 x).wf = true) : (Instr.lookup 68 (.map none) (.int .i64 x) false).run Try.prog w = .ok (.bool false) w :=
  Maps.look_nil false Try.keyI Try.underlying68 (Try.zeroB w) (keyOf_int_mk Try.underlying3 hw)
theorem wpList_store_mapI (w : World) {ops : Array Oper} {rest : List Oper} {o : Oper} {a : Act} {Q : Exit → Act → World → Prop} (hg : o.guard = none) (m x v : Operand) (hop : o.op = Op.mapUpdate 68 m x v)
    (b n : Nat) (S : List Int) (k : Int) (hm : a.eval m = .map (some b)) (hown : MapI w b n S) (hn : n < maxLen) (hx : a.eval x = .int .i64 k) (hv : a.eval v = .bool true) (hw : (Lit.int .i64 k).wf = true)
    (hK : ∀ w', MapI w' b (n + 1) (S ++ [k]) → w.grownBy w' (some b) → wpList Try.prog ops Q rest (a.put o.dst undef) w') : wpList Try.prog ops Q (o :: rest) a w := by
  obtain ⟨D, h1, h2⟩ := hown
  refine wpList_mapUpdate_own w hg m x v 68 hop 3 4 Try.keyI Try.underlying68 _ b n D hm h1 hn _ _ (.int .i64 k) hx hv (keyOf_int_mk Try.underlying3 hw) _ [] (plainElem_bool Try.underlying4 true) ?_
  intro w' h3 h4
  refine hK w' ⟨_, h3, fun y hy => ?_⟩ h4
  by_cases e : y = k
  · subst e
    rw [atKey_put_same h1.isMap (by simp [WideAt.IsKeyLit])]
    simp
  · rw [atKey_put_other (by intro h; cases h; exact e rfl), h2 y hy]
    congr 2
    rw [Bool.eq_iff_iff]
    simp [e]
end Go.Proofs.Yteagoaiiacideaa
