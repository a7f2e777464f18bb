/- A map from integers to booleans that the call itself has made, all of whose values are true, as a test of its keys: store, delete, look, range. No condition. -/
import Derived.Test.YteagoaiiacideaaMapI
import Derived.Maps.RangeWalk
namespace Go.Proofs.Yteagoaiiacideaa
set_option linter.unusedSimpArgs false
set_option linter.unusedVariables false
open Go.RowKit Go.Maps
set_option maxRecDepth 20000
/-- What the datum of the map says of the test. -/
structure Tells (D : DataW Nat) (p : Int → Bool) : Prop where
  at_ : ∀ x, (Lit.int .i64 x).wf = true → D.atKey (.int .i64 x) (.lit (.bool false)) = .lit (.bool (p x))
  has : ∀ x, (Lit.int .i64 x).wf = true → Maps.has D (.int .i64 x) = p x
def MapP (w : World) (b n : Nat) (p : Int → Bool) : Prop := ∃ D : DataW Nat, w.ownsMap Try.prog 3 (plainElem Try.prog 4) b n D ∧ Tells D p
theorem wf_nat {k : Nat} (h : k ≤ 100000) : (Lit.int .i64 (k : Int)).wf = true := by
  have e1 : IntKind.i64.min = -9223372036854775808 := by decide
  have e2 : IntKind.i64.max = 9223372036854775807 := by decide
  show (decide (IntKind.i64.min ≤ (k : Int)) && decide ((k : Int) ≤ IntKind.i64.max)) = true
  rw [Bool.and_eq_true, decide_eq_true_eq, decide_eq_true_eq, e1, e2]
  omega
theorem MapP.lt {w : World} {b n : Nat} {p : Int → Bool} (h : MapP w b n p) : b < w.heap.size := h.elim fun _ h => h.1.lt
theorem MapP.ex {w w' : World} {b n : Nat} {p : Int → Bool} (h : MapP w b n p) (hx : Ex w w') : MapP w' b n p := by
  obtain ⟨D, ⟨es, clock, hb, F, hs, hD⟩, h2⟩ := h
  exact ⟨D, ⟨es, clock, (hx.block _ (Array.getElem?_eq_some_iff.1 hb).1).trans hb, F, hs, hD⟩, h2⟩
theorem MapP.grown {w w' : World} {row : Option Nat} {b n : Nat} {p : Int → Bool} (h : MapP w b n p) (hg : w.grownBy w' row) (hne : some b ≠ row) : MapP w' b n p := by
  obtain ⟨D, h1, h2⟩ := h
  exact ⟨D, h1.kept hg hne, h2⟩
theorem MapP.congr {w : World} {b n : Nat} {p q : Int → Bool} (h : MapP w b n p) (e : ∀ x, p x = q x) : MapP w b n q := by
  rwa [show q = p from funext fun x => (e x).symm]
theorem MapP.made (w : World) : MapP (w.alloc (.map #[] 0)) w.heap.size 0 (fun _ => false) := ⟨.map [], World.ownsMap_made _ _ _ _, ⟨fun x _ => rfl, fun x _ => rfl⟩⟩
theorem MapP.look {w : World} {b n : Nat} {p : Int → Bool} (h : MapP w b n p) {x : Int} (hw : (Lit.int .i64 x).wf = true) : (Instr.lookup 68 (.map (some b)) (.int .i64 x) false).run Try.prog w = .ok (.bool (p x)) w := by
  obtain ⟨D, h1, h2⟩ := h
  obtain ⟨v, ps, hrun, hv⟩ := h1.lookup Try.keyI Try.underlying68 (Try.zeroB w) (plainElem_bool Try.underlying4 false) (keyOf_int_mk Try.underlying3 hw)
  rw [h2.at_ x hw] at hv
  unfold plainElem at hv
  rw [Try.underlying4] at hv
  cases v <;> simp at hv
  rw [hrun, hv.1]
theorem tells_put {D : DataW Nat} {p : Int → Bool} (h : Tells D p) (hm : IsMap D) (k : Int) : Tells (D.put (.int .i64 k) (.lit (.bool true))) (fun x => x == k || p x) := by
  refine ⟨fun y hy => ?_, fun y hy => ?_⟩
  · by_cases e : y = k
    · subst e
      rw [atKey_put_same hm (by simp [WideAt.IsKeyLit])]; simp
    · rw [atKey_put_other (by intro h; cases h; exact e rfl), h.at_ y hy]
      congr 2
      simp [e]
  · by_cases e : y = k
    · subst e
      rw [has_put_same hm (by simp [WideAt.IsKeyLit])]; simp
    · rw [has_put_other (by intro h; cases h; exact e rfl), h.has y hy]
      simp [e]
theorem tells_del {D : DataW Nat} {p : Int → Bool} (h : Tells D p) (k : Int) : Tells (D.del (.int .i64 k)) (fun x => x != k && p x) := by
  refine ⟨fun y hy => ?_, fun y hy => ?_⟩
  · by_cases e : y = k
    · subst e
      rw [atKey_del_same]; simp
    · rw [atKey_del_other (by intro h; cases h; exact e rfl), h.at_ y hy]
      congr 2
      simp [e]
  · by_cases e : y = k
    · subst e
      rw [has_del_same]; simp
    · rw [has_del_other (by intro h; cases h; exact e rfl), h.has y hy]
      simp [e]
theorem wpList_store_mapP (w : World) {ops : Array Oper} {rest : List Oper} {o : Oper} {a : Act} {Q : Exit → Act → World → Prop} (hg : o.guard = none) (m x v : Operand) (hop : o.op = Op.mapUpdate 68 m x v)
    (b n : Nat) (p : Int → Bool) (k : Int) (hm : a.eval m = .map (some b)) (hown : MapP w b n p) (hn : n < maxLen) (hx : a.eval x = .int .i64 k) (hv : a.eval v = .bool true) (hw : (Lit.int .i64 k).wf = true)
    (hK : ∀ w', MapP w' b (n + 1) (fun x => x == k || p x) → w.grownBy w' (some b) → wpList Try.prog ops Q rest (a.put o.dst undef) w') : wpList Try.prog ops Q (o :: rest) a w := by
  obtain ⟨D, h1, h2⟩ := hown
  refine wpList_mapUpdate_own w hg m x v 68 hop 3 4 Try.keyI Try.underlying68 _ b n D hm h1 hn _ _ (.int .i64 k) hx hv (keyOf_int_mk Try.underlying3 hw) _ [] (plainElem_bool Try.underlying4 true) ?_
  intro w' h3 h4
  exact hK w' ⟨_, h3, tells_put h2 h1.isMap k⟩ h4
theorem wpList_delete_mapP (w : World) {ops : Array Oper} {rest : List Oper} {o : Oper} {a : Act} {Q : Exit → Act → World → Prop} (hg : o.guard = none) (m x : Operand) (hop : o.op = Op.call { callee := Callee.builtin Builtin.delete, args := #[m, x], argTypes := #[68, 3] })
    (b n : Nat) (p : Int → Bool) (k : Int) (hm : a.eval m = .map (some b)) (hown : MapP w b n p) (hx : a.eval x = .int .i64 k) (hw : (Lit.int .i64 k).wf = true)
    (hK : ∀ w', MapP w' b n (fun x => x != k && p x) → w.grownBy w' (some b) → wpList Try.prog ops Q rest (a.put o.dst (.tuple #[])) w') : wpList Try.prog ops Q (o :: rest) a w := by
  obtain ⟨D, h1, h2⟩ := hown
  refine wpList_delete_own w hg m x 68 3 hop 4 Try.keyI Try.underlying68 _ b n D hm h1 _ (.int .i64 k) hx (keyOf_int_mk Try.underlying3 hw) ?_
  intro w' h3 h4
  exact hK w' ⟨_, h3, tells_del h2 k⟩ h4.grown
/-- A range over the map under way: what is still to come. -/
def RangeP (w : World) (b r n : Nat) (p : Int → Bool) (left : Lit → Bool) (cnt : Nat) : Prop := ∃ D : DataW Nat, w.ranges Try.prog 3 (plainElem Try.prog 4) b r n D left cnt ∧ Tells D p ∧ ∀ kl, left kl = true → Maps.has D kl = true
theorem RangeP.map {w : World} {b r n : Nat} {p : Int → Bool} {left : Lit → Bool} {cnt : Nat} (h : RangeP w b r n p left cnt) : MapP w b n p := by
  obtain ⟨D, h1, h2, _⟩ := h; exact ⟨D, h1.owns, h2⟩
theorem RangeP.left_eq {w : World} {b r n : Nat} {p : Int → Bool} {left : Lit → Bool} {cnt : Nat} (h : RangeP w b r n p left cnt) : w.rangeLeft b r = cnt := by
  obtain ⟨D, h1, h2, _⟩ := h; exact h1.left_eq
theorem RangeP.mem {w : World} {b r n : Nat} {p : Int → Bool} {left : Lit → Bool} {cnt : Nat} (h : RangeP w b r n p left cnt) {x : Int} (hw : (Lit.int .i64 x).wf = true) (hl : left (.int .i64 x) = true) : p x = true := by
  obtain ⟨D, h1, h2, h3⟩ := h
  rw [← h2.has x hw]; exact h3 _ hl
theorem wpList_range_mapP (w : World) {ops : Array Oper} {rest : List Oper} {o : Oper} {a : Act} {Q : Exit → Act → World → Prop} (hg : o.guard = none) (m : Operand) (hop : o.op = Op.range 68 m)
    (b n : Nat) (p : Int → Bool) (hm : a.eval m = .map (some b)) (hown : MapP w b n p)
    (hK : ∀ w' left cnt, RangeP w' b w.heap.size n p left cnt → (∀ x, (Lit.int .i64 x).wf = true → left (.int .i64 x) = p x) → w.grownBy w' none → wpList Try.prog ops Q rest (a.put o.dst (.pointer (some ⟨w.heap.size, 0, none⟩))) w') : wpList Try.prog ops Q (o :: rest) a w := by
  obtain ⟨D, h1, h2⟩ := hown
  refine wpList_range_own w hg m 68 hop 3 4 Try.keyI Try.underlying68 _ b n D hm h1 ?_
  intro w' h3 h4 _
  exact hK w' _ _ ⟨D, h3, h2, fun kl h => h⟩ h2.has h4
theorem wpList_next_mapP (w : World) {ops : Array Oper} {rest : List Oper} {o : Oper} {a : Act} {Q : Exit → Act → World → Prop} (hg : o.guard = none) (it : Operand) (hop : o.op = Op.next it false)
    (b r n : Nat) (p : Int → Bool) (left : Lit → Bool) (cnt : Nat) (hit : a.eval it = .pointer (some ⟨r, 0, none⟩)) (h : RangeP w b r n p left cnt)
    (hDone : (∀ kl, left kl = false) → wpList Try.prog ops Q rest (a.put o.dst (.tuple #[.bool false])) w)
    (hMore : ∀ (x : Int) (c : Value) (w' : World) (cnt' : Nat), (Lit.int .i64 x).wf = true → left (.int .i64 x) = true → p x = true → RangeP w' b r n p (fun z => left z && !z.sameKey (.int .i64 x)) cnt' → cnt' < cnt →
      w.grownBy w' (some r) → (Instr.entry (.pointer (some ⟨r, 0, none⟩))).run Try.prog w' = .ok (.tuple #[.int .i64 x, c]) w' → wpList Try.prog ops Q rest (a.put o.dst (.tuple #[.bool true, .int .i64 x, c])) w') :
    wpList Try.prog ops Q (o :: rest) a w := by
  obtain ⟨D, h1, h2, h3⟩ := h
  refine wpList_next_ranges w hg it hop 3 Try.keyI (plainElem Try.prog 4) (Value.int .i64) Value.bool (fun key kl hkey => by obtain ⟨x, rfl, _⟩ := Maps.keyOf_int_inv Try.underlying3 hkey; exact ⟨x, rfl⟩) (fun v y hv => by
    unfold plainElem at hv
    rw [Try.underlying4] at hv
    cases v <;> simp at hv
    exact ⟨_, rfl⟩) b r n D left cnt hit h1 (fun _ hl => hDone hl) ?_
  intro x c kl y w' cnt' hkey hlk hv hat hrg hlt hgr hsz hen
  obtain ⟨x', ex, rfl, hwx⟩ := Maps.keyOf_int_inv Try.underlying3 hkey
  cases ex
  refine hMore x (.bool c) w' cnt' hwx hlk (by rw [← h2.has x hwx]; exact h3 _ hlk) ⟨D, hrg, h2, fun kl h => h3 kl (by rw [Bool.and_eq_true] at h; exact h.1)⟩ hlt hgr hen
theorem sameKey_nat (j k : Nat) : (Lit.int .i64 (j : Int)).sameKey (.int .i64 (k : Int)) = (j == k) := by
  by_cases e : j = k
  · subst e; rw [WideAt.sameKey_self (by simp [WideAt.IsKeyLit])]; simp
  · rw [show (j == k) = false by simp [e]]
    exact sameKey_ne (fun h => by cases h; exact e rfl)
end Go.Proofs.Yteagoaiiacideaa
