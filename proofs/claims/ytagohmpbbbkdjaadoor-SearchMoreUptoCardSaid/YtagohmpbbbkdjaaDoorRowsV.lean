/- Slices of lists of the call's own; one slice of lists behind another one. No condition. -/
import Derived.Test.YtagohmpbbbkdjaaDoorOwn
import Derived.Maps.AppendAt
namespace Go.Proofs.YtagohmpbbbkdjaaDoor
set_option linter.unusedSimpArgs false
set_option linter.unusedVariables false
open Go.RowKit
set_option maxRecDepth 20000
theorem Tryd.infoRow : (Tryd.prog.info? 25).map (fun i => (i.zero, i.size, i.bytes)) = some (some (.slice none 0 0), 1, 24) := by kernel_rfl
/-- A slice of slices of the call's own. -/
def OwnR (w : World) (base : Nat) (v : Value) (vs : List Value) : Prop := w.ownsRow base 25 1 v vs.length vs
theorem OwnR.ex {w w' : World} {base : Nat} {v : Value} {vs : List Value} (h : OwnR w base v vs) (hx : Ex w w') : OwnR w' base v vs := ownsRow_ex h hx
theorem OwnR.nil (w : World) (base : Nat) : OwnR w base (.slice none 0 0) [] := World.ownsRow_nil _ _ _ _
theorem run_append_row {w : World} {ty : TypeId} {base b : Nat} {v u : Value} {vs : List Value} (hown : OwnR w base v vs) (hu : u.oneCell' = true)
    (hn : w.cell? ⟨b, 0, none⟩ = some u) (hlen : vs.length ≤ 100000) (hbase : base ≤ w.heap.size) :
    ∃ v' w', (Builtin.append_ #[22, 22] ty #[v, .slice (some ⟨b, 0, none⟩) 1 1]).run Tryd.prog w = .ok v' w' ∧ OwnR w' base v' (vs ++ [u]) ∧ w.grownBy w' v.ownBlock := by
  obtain ⟨i0, hi, hz0, hz1, hz2⟩ := info_parts Tryd.infoRow
  obtain ⟨v', w', hr, ho, hg, _, hat⟩ := run_append_own_at (P := Tryd.prog) w base 22 ty 25 i0 (.slice none 0 0) 1 24 Tryd.underlying22 hi hz0 hz1 hz2 rfl (by decide) v _ _ hown ⟨b, 0, none⟩ 1 1 [u] rfl (by
    intro j x hx
    cases j with
    | zero => simp at hx; subst hx; simpa [Addr.add] using hn
    | succ j => simp at hx) (by intro x hx; rw [List.mem_singleton] at hx; rw [hx]; exact hu) (by unfold maxLen; omega) (by omega) hbase
  refine ⟨v', w', hr, ?_, hg⟩
  unfold OwnR
  rw [List.length_append]
  exact ho
theorem step_append_row {w : World} {ops : Array Oper} {o : Oper} {a : Act} {K : Act → World → Prop} {Q : Exit → Act → World → Prop} {E : Prop} (hg : o.guard = none) (s x : Operand)
    (ho : o.op = .call { callee := .builtin .append, args := #[s, x], argTypes := #[22, 22] })
    {base b : Nat} {v u : Value} {vs : List Value} (hs : a.eval s = v) (hx : a.eval x = .slice (some ⟨b, 0, none⟩) 1 1) (hown : OwnR w base v vs) (hu : u.oneCell' = true)
    (hn : w.cell? ⟨b, 0, none⟩ = some u) (hlen : vs.length ≤ 100000) (hbase : base ≤ w.heap.size)
    (h : ∀ v' w', OwnR w' base v' (vs ++ [u]) → w.grownBy w' v.ownBlock → K (a.put o.dst v') w') : if Region.wanted o (yielded ops a.tmps) = true then Oper.wp Tryd.prog o a w K Q else E := by
  have hw : Region.wanted o (yielded ops a.tmps) = true := by simp [Region.wanted, hg]
  rw [if_pos hw]
  obtain ⟨v', w', hr, h2, h3⟩ := run_append_row (ty := o.type) hown hu hn hlen hbase
  unfold Oper.wp execOp
  simp only [ho, resolve, invoke, builtin, Sem.run_bind, Sem.run_pure, Result.andThen_ok, List.map_toArray, List.map_cons, List.map_nil, hs, hx, hr]
  exact h v' w' h2 h3
theorem ownR_shape {w : World} {base : Nat} {v : Value} {vs : List Value} (h : OwnR w base v vs) : ∃ a n c, v = .slice a n c := by
  rcases h.2 with ⟨hn, _⟩ | ⟨g, c, cur, hv, _⟩
  · exact ⟨_, _, _, hn⟩
  · exact ⟨_, _, _, hv⟩
/-- A slice whose cells are these values. -/
def ValsAt (w : World) (v : Value) (vs : List Value) : Prop :=
  ∃ a cap, v = .slice a vs.length cap ∧ vs.length ≤ cap ∧ cap ≤ maxLen ∧ ∀ k, k < vs.length → ∃ b off, a = some ⟨b, off, none⟩ ∧ b < w.heap.size ∧ w.cell? ⟨b, off + k, none⟩ = some (vs.getD k undef)
theorem ValsAt.ex {w w' : World} {v : Value} {vs : List Value} (h : ValsAt w v vs) (hx : Ex w w') : ValsAt w' v vs := by
  obtain ⟨a, cap, hv, h1, h2, h3⟩ := h
  refine ⟨a, cap, hv, h1, h2, fun k hk => ?_⟩
  obtain ⟨b, off, ha, hb, hc⟩ := h3 k hk
  exact ⟨b, off, ha, Nat.lt_of_lt_of_le hb hx.size, ex_cell hc hx⟩
/-- What the rows of a theory are, as values. -/
def RowsOf (w : World) (vs : List Value) (ll : List (List Int)) : Prop := vs.length = ll.length ∧ (∀ u ∈ vs, u.oneCell' = true) ∧ ∀ k, k < ll.length → IntsAt w (vs.getD k undef) (ll.getD k [])
theorem RowsOf.ex {w w' : World} {vs : List Value} {ll : List (List Int)} (h : RowsOf w vs ll) (hx : Ex w w') : RowsOf w' vs ll := ⟨h.1, h.2.1, fun k hk => (h.2.2 k hk).ex hx⟩
theorem rowsOf_vals {w : World} {v : Value} {ll : List (List Int)} (h : RowsAt w v ll) : ∃ vs, ValsAt w v vs ∧ RowsOf w vs ll := by
  obtain ⟨a, cap, rfl, h1, h2, h3⟩ := h
  cases hl : ll with
  | nil =>
    subst hl
    exact ⟨[], ⟨a, cap, rfl, h1, h2, fun k hk => by cases hk⟩, rfl, (fun u hu => by cases hu), (fun k hk => by cases hk)⟩
  | cons c t =>
    rw [← hl]
    obtain ⟨b, off, _, rfl, _⟩ := h3 0 (by rw [hl]; simp)
    have hlen : ((List.range ll.length).map fun k => (w.cell? ⟨b, off + k, none⟩).getD undef).length = ll.length := by simp
    have hget : ∀ k, k < ll.length → ((List.range ll.length).map fun k => (w.cell? ⟨b, off + k, none⟩).getD undef).getD k undef = (w.cell? ⟨b, off + k, none⟩).getD undef := fun k hk => by
      rw [getD_getElem (by rw [hlen]; exact hk)]; simp
    refine ⟨_, ⟨some ⟨b, off, none⟩, cap, by rw [hlen], by rw [hlen]; exact h1, h2, fun k hk => ?_⟩, hlen, ?_, ?_⟩
    · rw [hlen] at hk
      obtain ⟨b', off', rv, e, hb, hc, _⟩ := h3 k hk
      cases e
      refine ⟨b, off, rfl, hb, ?_⟩
      rw [hget k hk, hc]; rfl
    · intro u hu
      obtain ⟨k, hk, rfl⟩ := List.mem_map.1 hu
      obtain ⟨b', off', rv, e, hb, hc, hr⟩ := h3 k (List.mem_range.1 hk)
      cases e
      rw [hc]
      obtain ⟨_, _, rfl, _⟩ := hr
      rfl
    · intro k hk
      obtain ⟨b', off', rv, e, hb, hc, hr⟩ := h3 k hk
      cases e
      rw [hget k hk, hc]
      exact hr
theorem vals_rowsOf {w : World} {v : Value} {vs : List Value} {ll : List (List Int)} (h : ValsAt w v vs) (hr : RowsOf w vs ll) : RowsAt w v ll := by
  obtain ⟨a, cap, rfl, h1, h2, h3⟩ := h
  refine ⟨a, cap, by rw [hr.1], by rw [← hr.1]; exact h1, h2, fun k hk => ?_⟩
  obtain ⟨b, off, ha, hb, hc⟩ := h3 k (by rw [hr.1]; exact hk)
  exact ⟨b, off, _, ha, hb, hc, hr.2.2 k hk⟩
theorem RowsOf.append {w : World} {vs us : List Value} {ll mm : List (List Int)} (h : RowsOf w vs ll) (h' : RowsOf w us mm) : RowsOf w (vs ++ us) (ll ++ mm) := by
  refine ⟨by rw [List.length_append, List.length_append, h.1, h'.1], fun u hu => ?_, fun k hk => ?_⟩
  · rcases List.mem_append.1 hu with hu | hu
    · exact h.2.1 u hu
    · exact h'.2.1 u hu
  · rw [List.length_append] at hk
    by_cases e : k < ll.length
    · rw [getD_getElem (by simp; have := h.1; omega), getD_getElem (by simp; omega), List.getElem_append_left (by have := h.1; omega), List.getElem_append_left e, ← getD_getElem (d := undef) (by have := h.1; omega), ← getD_getElem (d := ([] : List Int)) e]
      exact h.2.2 k e
    · have h1 := h.1
      have h2 := h'.1
      have := h'.2.2 (k - ll.length) (by omega)
      rw [getD_getElem (by omega), getD_getElem (by omega)] at this
      rw [getD_getElem (by simp; omega), getD_getElem (by simp; omega), List.getElem_append_right (by omega), List.getElem_append_right (by omega)]
      simpa [h1] using this
theorem OwnR.vals {w : World} {base : Nat} {v : Value} {vs : List Value} (ho : OwnR w base v vs) : ValsAt w v vs := by
  rcases ho.2 with ⟨rfl, hn⟩ | ⟨g, cap, cur, rfl, _, hg, hc, hm, _, _⟩
  · have : vs = [] := List.length_eq_zero_iff.1 hn
    subst this
    exact ⟨none, 0, rfl, Nat.le_refl _, Nat.zero_le _, fun k hk => by cases hk⟩
  · refine ⟨some ⟨g, 0, none⟩, cap, rfl, hc, hm, fun k hk => ⟨g, 0, rfl, (Array.getElem?_eq_some_iff.1 hg).1, ?_⟩⟩
    have := World.ownsRow.cells (g := g) ho rfl k (vs.getD k undef) (by rw [getD_getElem hk]; exact List.getElem?_eq_getElem hk)
    have ad : (⟨g, 0, none⟩ : Addr).add k = ⟨g, 0 + k, none⟩ := by unfold Addr.add; split <;> simp_all
    rwa [ad] at this
theorem run_append_vals {w : World} {ty : TypeId} {base : Nat} {v sv : Value} {xs ys : List Value} (hown : OwnR w base v xs) (hsrc : ValsAt w sv ys) (hone : ∀ u ∈ ys, u.oneCell' = true) (hlen : xs.length + ys.length ≤ 5000000) (hbase : base ≤ w.heap.size) :
    ∃ v' w', (Builtin.append_ #[22, 22] ty #[v, sv]).run Tryd.prog w = .ok v' w' ∧ OwnR w' base v' (xs ++ ys) ∧ w.grownBy w' v.ownBlock := by
  obtain ⟨i0, hi, hz0, hz1, hz2⟩ := info_parts Tryd.infoRow
  obtain ⟨a, cap, rfl, h1, h2, h3⟩ := hsrc
  cases a with
  | none =>
    have hy : ys = [] := by
      cases ys with
      | nil => rfl
      | cons y t => obtain ⟨b, off, h, _⟩ := h3 0 (by simp); cases h
    subst hy
    refine ⟨v, w, ?_, by simpa using hown, ⟨rfl, rfl, rfl, Nat.le_refl _, fun _ _ _ => rfl⟩⟩
    simp only [List.length_nil]
    rcases hown.2 with ⟨rfl, _⟩ | ⟨g, cap, cur, rfl, _, _, hnc, _⟩
    · simp [Builtin.append_, run_underlying Tryd.underlying22, sizeOf, typeInfo, hi, Builtin.lenOf, Builtin.firstCells]
    · simp [Builtin.append_, run_underlying Tryd.underlying22, sizeOf, typeInfo, hi, Builtin.lenOf, Builtin.firstCells, hnc, storeCells]
  | some ad =>
    have hnews : ∀ j u, ys[j]? = some u → w.cell? (ad.add j) = some u := by
      intro j u hu
      have hj : j < ys.length := (List.getElem?_eq_some_iff.1 hu).1
      obtain ⟨b, off, hh, hb, hc⟩ := h3 j hj
      cases hh
      have e : (⟨b, off, none⟩ : Addr).add j = ⟨b, off + j, none⟩ := by unfold Addr.add; split <;> simp_all
      rw [e, hc, getD_getElem hj, ← hu, List.getElem?_eq_getElem hj]
    obtain ⟨v', w', hr, ho, hg, _, _⟩ := run_append_own_at (P := Tryd.prog) w base 22 ty 25 i0 (.slice none 0 0) 1 24 Tryd.underlying22 hi hz0 hz1 hz2 rfl (by decide) v _ _ hown ad ys.length cap ys (by simp) hnews hone (by unfold maxLen; omega) (by omega) hbase
    refine ⟨v', w', hr, ?_, hg⟩
    unfold OwnR
    rw [List.length_append]
    exact ho
theorem OwnR.empty {w : World} {base : Nat} (hb : base ≤ w.heap.size) : OwnR (w.alloc (.cells #[] 25)) base (.slice (some ⟨w.heap.size, 0, none⟩) 0 0) [] := World.ownsRow_made w #[] 0 hb (Nat.zero_le _) rfl
theorem vals_one (w : World) (u : Value) (t : TypeId) : ValsAt (w.alloc (.cells #[u] t)) (.slice (some ⟨w.heap.size, 0, none⟩) 1 1) [u] :=
  ⟨_, _, rfl, Nat.le_refl _, by decide, fun k hk => by
    have hk0 : k = 0 := by simp at hk; omega
    subst hk0
    exact ⟨_, 0, rfl, (OwnB.new w [u] t).lt, (OwnB.new w [u] t).cell 0⟩⟩
theorem OwnR.empty' {w : World} {base B : Nat} (hB : w.heap.size = B) (hb : base ≤ B) : OwnR (w.alloc (.cells #[] 25)) base (.slice (some ⟨B, 0, none⟩) 0 0) [] := hB ▸ OwnR.empty (hB ▸ hb)
theorem vals_one' {w : World} {B : Nat} (hB : w.heap.size = B) (u : Value) (t : TypeId) : ValsAt (w.alloc (.cells #[u] t)) (.slice (some ⟨B, 0, none⟩) 1 1) [u] := hB ▸ vals_one w u t
theorem OwnR.of_empty {w : World} {base b : Nat} (h : OwnB w b [] 25) (hb : base ≤ b) : OwnR w base (.slice (some ⟨b, 0, none⟩) 0 0) [] := ⟨rfl, .inr ⟨b, 0, #[], rfl, hb, h, Nat.le_refl _, Nat.zero_le _, rfl, rfl⟩⟩
theorem OwnB.new' {w : World} {B : Nat} (hB : w.heap.size = B) (cs : List Value) (t : TypeId) : OwnB (w.alloc (.cells cs.toArray t)) B cs t := hB ▸ OwnB.new w cs t
theorem ValsAt.of_block {w : World} {b : Nat} {u : Value} {t : TypeId} (h : OwnB w b [u] t) : ValsAt w (.slice (some ⟨b, 0, none⟩) 1 1) [u] :=
  ⟨_, _, rfl, Nat.le_refl _, by decide, fun k hk => by
    have hk0 : k = 0 := by simp at hk; omega
    subst hk0
    exact ⟨_, 0, rfl, h.lt, h.cell 0⟩⟩
theorem OwnR.block_ne {w : World} {b base : Nat} {cs : List Value} {t : TypeId} {v : Value} {xs : List Value} (h : OwnB w b cs t) (ho : OwnR w base v xs) (ht : t ≠ 25) : v.ownBlock ≠ some b := fun e => by
  rcases ho.2 with ⟨hn, _⟩ | ⟨g, c, cur, hv, _, hc, _⟩
  · rw [hn] at e; cases e
  · rw [hv] at e
    simp only [Value.ownBlock, Option.some.injEq] at e
    subst e
    unfold OwnB at h
    rw [h] at hc
    simp only [Option.some.injEq, Obj.cells.injEq] at hc
    exact ht hc.2.1
theorem OwnB.besideR {w w' : World} {b base : Nat} {cs : List Value} {t : TypeId} {v : Value} {xs : List Value} (h : OwnB w b cs t) (ho : OwnR w base v xs) (hg : w.grownBy w' v.ownBlock) (ht : t ≠ 25) : OwnB w' b cs t :=
  own_grown h hg (OwnR.block_ne h ho ht)
theorem with_grown {w w' : World} {row : Option Nat} {b : Nat} {cs : List Value} {t : TypeId} {G : Prop} (hg : w.grownBy w' row) (h : OwnB w b cs t) (hr : row ≠ some b) (k : OwnB w' b cs t → G) : G := k (own_grown h hg hr)
theorem with_beside {w w' : World} {b base : Nat} {cs : List Value} {t : TypeId} {v : Value} {xs : List Value} {G : Prop} (hg : w.grownBy w' v.ownBlock) (ho : OwnR w base v xs) (h : OwnB w b cs t) (ht : t ≠ 25) (k : OwnB w' b cs t → G) : G := k (OwnB.besideR h ho hg ht)
theorem OwnR.setOtherT {w : World} {b base : Nat} {cs : List Value} {t : TypeId} {v : Value} {xs : List Value} (ho : OwnR w base v xs) (h : OwnB w b cs t) (ht : t ≠ 25) (i : Nat) (u : Value) : OwnR (w.setCell ⟨b, i, none⟩ u) base v xs := by
  have hne := OwnR.block_ne h ho ht
  obtain ⟨h1, h2⟩ := ho
  refine ⟨h1, ?_⟩
  rcases h2 with h2 | ⟨g, cap, cur, hv, hg, hh, r⟩
  · exact Or.inl h2
  · refine Or.inr ⟨g, cap, cur, hv, hg, ?_, r⟩
    rw [Below.heap_setCell _ _ _ _ (by intro e; apply hne; rw [hv, e]; rfl)]
    exact hh
/-- As one step of a region that draws. -/
theorem step_append_vals {w : World} {ops : Array Oper} {o : Oper} {a : Act} {K : Act → World → Prop} {Q : Exit → Act → World → Prop} {E : Prop} (hg : o.guard = none) (s x : Operand)
    (ho : o.op = .call { callee := .builtin .append, args := #[s, x], argTypes := #[22, 22] })
    {base : Nat} {v sv : Value} {xs ys : List Value} (hs : a.eval s = v) (hx : a.eval x = sv) (hown : OwnR w base v xs) (hsrc : ValsAt w sv ys) (hone : ∀ u ∈ ys, u.oneCell' = true) (hlen : xs.length + ys.length ≤ 5000000) (hbase : base ≤ w.heap.size)
    (h : ∀ v' w', OwnR w' base v' (xs ++ ys) → w.grownBy w' v.ownBlock → K (a.put o.dst v') w') : if Region.wanted o (yielded ops a.tmps) = true then Oper.wp Tryd.prog o a w K Q else E := by
  have hw : Region.wanted o (yielded ops a.tmps) = true := by simp [Region.wanted, hg]
  rw [if_pos hw]
  obtain ⟨v', w', hr, h2, h3⟩ := run_append_vals (ty := o.type) hown hsrc hone hlen hbase
  unfold Oper.wp execOp
  simp only [ho, resolve, invoke, builtin, Sem.run_bind, Sem.run_pure, Result.andThen_ok, List.map_toArray, List.map_cons, List.map_nil, hs, hx, hr]
  exact h v' w' h2 h3
end Go.Proofs.YtagohmpbbbkdjaaDoor
