/- Slices that the call itself makes: what they read as. -/
import Derived.Test.YtagohmpbbbkdjaaDoorBase
import Derived.Laws.AppendOwnNone
import Derived.Deep.RegionHeld3
import Derived.Deep.AppendLies
namespace Go.Proofs.YtagohmpbbbkdjaaDoor
set_option linter.unusedSimpArgs false
set_option linter.unusedVariables false
open Go.RowKit

theorem ownsRow_ex {w w' : World} {base e size n : Nat} {v : Value} {xs : List Value} (h : w.ownsRow base e size v n xs) (hx : Ex w w') : w'.ownsRow base e size v n xs := by
  refine ⟨h.1, ?_⟩
  rcases h.2 with h | ⟨g, cap, cur, hv, hb, hg, r⟩
  · exact .inl h
  · exact .inr ⟨g, cap, cur, hv, hb, by rw [hx.block g (Array.getElem?_eq_some_iff.1 hg).1]; exact hg, r⟩
theorem ownsRow_base {w : World} {base base' e size n : Nat} {v : Value} {xs : List Value} (h : w.ownsRow base e size v n xs) (hb : base' ≤ base) : w.ownsRow base' e size v n xs := by
  refine ⟨h.1, ?_⟩
  rcases h.2 with h | ⟨g, cap, cur, hv, h1, r⟩
  · exact .inl h
  · exact .inr ⟨g, cap, cur, hv, Nat.le_trans hb h1, r⟩
theorem grown_ex {w0 w w' : World} {row : Option Nat} (h : Ex w0 w) (hg : w.grownBy w' row) (hr : ∀ k, row = some k → w0.heap.size ≤ k) : Ex w0 w' := Below.grown h hg h.size hr
theorem ownsRow_block {w : World} {base e size n : Nat} {v : Value} {xs : List Value} (h : w.ownsRow base e size v n xs) : ∀ k, v.ownBlock = some k → base ≤ k := fun k hk => (h.lt k hk).1
def intsV (l : List Int) : List Value := l.map (Value.int .i64)
theorem intsAt_of_owns {w : World} {base e : Nat} {v : Value} {l : List Int} (h : w.ownsRow base e 1 v l.length (intsV l)) : IntsAt w v l := by
  rcases h.2 with ⟨rfl, hn⟩ | ⟨g, cap, cur, rfl, hb, hg, hc, hm, hs, ht⟩
  · have : l = [] := List.eq_nil_of_length_eq_zero hn
    subst this
    exact IntsAt.nil w
  · refine ⟨some ⟨g, 0, none⟩, cap, rfl, hc, hm, fun k hk => ⟨g, 0, rfl, (Array.getElem?_eq_some_iff.1 hg).1, ?_⟩⟩
    have := h.cells (g := g) rfl k (.int .i64 (l.getD k 0)) (by simp [intsV, getD_getElem hk, List.getElem?_eq_getElem hk])
    have e : (⟨g, 0, none⟩ : Addr).add k = ⟨g, 0 + k, none⟩ := by unfold Addr.add; split <;> simp_all
    rwa [e] at this

/-- A slice of sets in memory. -/
def setsV (l : List (Nat × Nat)) : List Value := l.flatMap fun s => [.int .u64 s.1, .int .u64 s.2]
def SetsAt (w : World) (v : Value) (l : List (Nat × Nat)) : Prop :=
  ∃ a cap, v = .slice a l.length cap ∧ l.length ≤ cap ∧ cap ≤ maxLen ∧
    ∀ k, k < l.length → ∃ b off, a = some ⟨b, off, none⟩ ∧ b < w.heap.size ∧ w.cell? ⟨b, off + k * 2, none⟩ = some (.int .u64 (l.getD k (0, 0)).1) ∧ w.cell? ⟨b, off + k * 2 + 1, none⟩ = some (.int .u64 (l.getD k (0, 0)).2)
theorem SetsAt.ex {w w' : World} {v : Value} {l : List (Nat × Nat)} (h : SetsAt w v l) (hx : Ex w w') : SetsAt w' v l := by
  obtain ⟨a, cap, hv, h1, h2, h3⟩ := h
  refine ⟨a, cap, hv, h1, h2, fun k hk => ?_⟩
  obtain ⟨b, off, ha, hb, hc, hd⟩ := h3 k hk
  exact ⟨b, off, ha, Nat.lt_of_lt_of_le hb hx.size, ex_cell hc hx, ex_cell hd hx⟩
theorem setsV_length (l : List (Nat × Nat)) : (setsV l).length = l.length * 2 := by
  induction l with
  | nil => rfl
  | cons s t ih => simp only [setsV, List.flatMap_cons, List.length_append, List.length_cons, List.length_nil] at *; omega
theorem setsV_get : ∀ (l : List (Nat × Nat)) (k : Nat), k < l.length → (setsV l)[k * 2]? = some (.int .u64 (l.getD k (0, 0)).1) ∧ (setsV l)[k * 2 + 1]? = some (.int .u64 (l.getD k (0, 0)).2)
  | s :: t, 0, _ => ⟨rfl, rfl⟩
  | s :: t, k + 1, h => by
    have ih := setsV_get t k (by simpa using h)
    have e : setsV (s :: t) = .int .u64 s.1 :: .int .u64 s.2 :: setsV t := rfl
    rw [e, show (k + 1) * 2 = k * 2 + 1 + 1 by omega]
    simp only [List.getElem?_cons_succ]
    exact ih
theorem setsAt_of_owns {w : World} {base e : Nat} {v : Value} {l : List (Nat × Nat)} (h : w.ownsRow base e 2 v l.length (setsV l)) : SetsAt w v l := by
  rcases h.2 with ⟨rfl, hn⟩ | ⟨g, cap, cur, rfl, hb, hg, hc, hm, hs, ht⟩
  · have : l = [] := List.eq_nil_of_length_eq_zero hn
    subst this
    exact ⟨none, 0, rfl, Nat.le_refl _, Nat.zero_le _, fun k hk => by cases hk⟩
  · have ad : ∀ j, (⟨g, 0, none⟩ : Addr).add j = ⟨g, 0 + j, none⟩ := fun j => by unfold Addr.add; split <;> simp_all
    refine ⟨some ⟨g, 0, none⟩, cap, rfl, hc, hm, fun k hk => ⟨g, 0, rfl, (Array.getElem?_eq_some_iff.1 hg).1, ?_, ?_⟩⟩
    · have := h.cells (g := g) rfl (k * 2) _ (setsV_get l k hk).1
      rwa [ad] at this
    · have := h.cells (g := g) rfl (k * 2 + 1) _ (setsV_get l k hk).2
      rwa [ad] at this
theorem setsV_append (l : List (Nat × Nat)) (s : Nat × Nat) : setsV (l ++ [s]) = setsV l ++ [.int .u64 s.1, .int .u64 s.2] := by
  simp [setsV, List.flatMap_append]
theorem intsV_append (l : List Int) (x : Int) : intsV (l ++ [x]) = intsV l ++ [.int .i64 x] := by simp [intsV]
theorem cells_new (w : World) (l : List Value) (t : TypeId) : ∀ j u, l[j]? = some u → (w.alloc (.cells l.toArray t)).cell? ((⟨w.heap.size, 0, none⟩ : Addr).add j) = some u := by
  intro j u h
  have ad : (⟨w.heap.size, 0, none⟩ : Addr).add j = ⟨w.heap.size, j, none⟩ := by unfold Addr.add; split <;> simp_all
  rw [ad, World.cell?_alloc_new]
  simpa using h
theorem oneCell_u64 (x y : Int) : ∀ u ∈ [Value.int .u64 x, Value.int .u64 y], u.oneCell' = true := by
  intro u hu; simp at hu; rcases hu with rfl | rfl <;> rfl
theorem oneCell_i64 (l : List Int) : ∀ u ∈ intsV l, u.oneCell' = true := by
  intro u hu; simp [intsV] at hu; obtain ⟨x, _, rfl⟩ := hu; rfl
/-- A block of the call's own, known whole. -/
def OwnB (w : World) (b : Nat) (cs : List Value) (t : TypeId) : Prop := w.heap[b]? = some (.cells cs.toArray t (0, 0))
theorem OwnB.lt {w : World} {b : Nat} {cs : List Value} {t : TypeId} (h : OwnB w b cs t) : b < w.heap.size := (Array.getElem?_eq_some_iff.1 h).1
theorem OwnB.cell {w : World} {b : Nat} {cs : List Value} {t : TypeId} (h : OwnB w b cs t) (i : Nat) : w.cell? ⟨b, i, none⟩ = cs[i]? := by
  unfold OwnB at h; unfold World.cell?; rw [h]; simp
theorem OwnB.free {w : World} {b : Nat} {cs : List Value} {t : TypeId} (h : OwnB w b cs t) (i : Nat) : w.frozen? ⟨b, i, none⟩ = false := by
  unfold OwnB at h; unfold World.frozen?; rw [h]; simp
theorem OwnB.ex {w w' : World} {b : Nat} {cs : List Value} {t : TypeId} (h : OwnB w b cs t) (hx : Ex w w') : OwnB w' b cs t := by
  unfold OwnB at *; rw [hx.block b (Array.getElem?_eq_some_iff.1 h).1]; exact h
theorem OwnB.new (w : World) (cs : List Value) (t : TypeId) : OwnB (w.alloc (.cells cs.toArray t)) w.heap.size cs t := by
  unfold OwnB; show (w.heap.push _)[w.heap.size]? = _; simp
theorem OwnB.set {w : World} {b : Nat} {cs : List Value} {t : TypeId} (h : OwnB w b cs t) (i : Nat) (v : Value) : OwnB (w.setCell ⟨b, i, none⟩ v) b (cs.set i v) t := by
  unfold OwnB at *
  simp [World.setCell, Array.getElem?_modify, h]
theorem OwnB.set_other {w : World} {b c : Nat} {cs : List Value} {t : TypeId} (h : OwnB w b cs t) (i : Nat) (v : Value) (hc : c ≠ b) : OwnB (w.setCell ⟨c, i, none⟩ v) b cs t := by
  unfold OwnB at *
  rw [Below.heap_setCell _ _ _ _ (by exact fun e => hc e.symm)]; exact h
/-! ### append of a slice of integers, nil or not, onto a slice of the call's own -/
theorem Tryd.infoInt : (Tryd.prog.info? 3).map (fun i => (i.zero, i.size, i.bytes)) = some (some (.int .i64 0), 1, 8) := by kernel_rfl
def OwnI (w : World) (base : Nat) (v : Value) (l : List Int) : Prop := w.ownsRow base 3 1 v l.length (intsV l)
theorem OwnI.ex {w w' : World} {base : Nat} {v : Value} {l : List Int} (h : OwnI w base v l) (hx : Ex w w') : OwnI w' base v l := ownsRow_ex h hx
theorem OwnI.ints {w : World} {base : Nat} {v : Value} {l : List Int} (h : OwnI w base v l) : IntsAt w v l := intsAt_of_owns h
theorem OwnI.nil (w : World) (base : Nat) : OwnI w base (.slice none 0 0) [] := World.ownsRow_nil _ _ _ _
theorem OwnI.empty {w : World} {base : Nat} (hb : base ≤ w.heap.size) : OwnI (w.alloc (.cells #[] 3)) base (.slice (some ⟨w.heap.size, 0, none⟩) 0 0) [] := World.ownsRow_made w #[] 0 hb (Nat.zero_le _) rfl
theorem OwnI.empty' {w : World} {base B : Nat} (hB : w.heap.size = B) (hb : base ≤ B) : OwnI (w.alloc (.cells #[] 3)) base (.slice (some ⟨B, 0, none⟩) 0 0) [] := hB ▸ OwnI.empty (hB ▸ hb)
theorem OwnI.base {w : World} {base base' : Nat} {v : Value} {l : List Int} (h : OwnI w base v l) (hb : base' ≤ base) : OwnI w base' v l := ownsRow_base h hb
theorem run_append_ints' {w : World} {ty : TypeId} {base : Nat} {v sv : Value} {xs ys : List Int} (hown : OwnI w base v xs) (hsrc : IntsAt w sv ys) (hlen : (xs.length + ys.length) * 8 ≤ 140737488355328) (hbase : base ≤ w.heap.size) :
    ∃ v' w', (Builtin.append_ #[25, 25] ty #[v, sv]).run Tryd.prog w = .ok v' w' ∧ OwnI w' base v' (xs ++ ys) ∧ w.grownBy w' v.ownBlock ∧ (v'.ownBlock = v.ownBlock ∨ v'.ownBlock = some w.heap.size) := by
  obtain ⟨i0, hi, hz0, hz1, hz2⟩ := info_parts Tryd.infoInt
  obtain ⟨a, cap, rfl, h1, h2, h3⟩ := hsrc
  cases a with
  | none =>
    have hy : ys = [] := by
      cases ys with
      | nil => rfl
      | cons y t => obtain ⟨b, off, h, _⟩ := h3 0 (by simp); cases h
    subst hy
    refine ⟨v, w, ?_, by simpa using hown, ⟨rfl, rfl, rfl, Nat.le_refl _, fun _ _ _ => rfl⟩, .inl rfl⟩
    simp only [List.length_nil]
    rcases hown.2 with ⟨rfl, _⟩ | ⟨g, cap, cur, rfl, _, _, hnc, _⟩
    · simp [Builtin.append_, run_underlying Tryd.underlying25, sizeOf, typeInfo, hi, Builtin.lenOf, Builtin.firstCells]
    · simp [Builtin.append_, run_underlying Tryd.underlying25, sizeOf, typeInfo, hi, Builtin.lenOf, Builtin.firstCells, hnc, storeCells]
  | some ad =>
    have hnews : ∀ j u, (intsV ys)[j]? = some u → w.cell? (ad.add j) = some u := by
      intro j u hu
      have hj : j < ys.length := by
        have := (List.getElem?_eq_some_iff.1 hu).1
        simpa [intsV] using this
      obtain ⟨b, off, hh, hb, hc⟩ := h3 j hj
      cases hh
      have e : (⟨b, off, none⟩ : Addr).add j = ⟨b, off + j, none⟩ := by unfold Addr.add; split <;> simp_all
      rw [e, hc]
      simp [intsV, List.getElem?_eq_getElem hj] at hu
      rw [← hu, getD_getElem hj]
    obtain ⟨v', w', hr, ho, hg, _, hat⟩ := run_append_own_at (P := Tryd.prog) w base 25 ty 3 i0 (.int .i64 0) 1 8 Tryd.underlying25 hi hz0 hz1 hz2 rfl (by decide) v _ _ hown ad ys.length cap (intsV ys) (by simp [intsV]) hnews (oneCell_i64 ys) (by unfold maxLen; omega) hlen hbase
    refine ⟨v', w', hr, ?_, hg, hat⟩
    unfold OwnI
    rw [List.length_append]
    simpa [intsV] using ho
theorem run_append_ints {w : World} {ty : TypeId} {base : Nat} {v sv : Value} {xs ys : List Int} (hown : OwnI w base v xs) (hsrc : IntsAt w sv ys) (hlen : (xs.length + ys.length) * 8 ≤ 140737488355328) (hbase : base ≤ w.heap.size) :
    ∃ v' w', (Builtin.append_ #[25, 25] ty #[v, sv]).run Tryd.prog w = .ok v' w' ∧ OwnI w' base v' (xs ++ ys) ∧ w.grownBy w' v.ownBlock :=
  let ⟨v', w', h1, h2, h3, _⟩ := run_append_ints' hown hsrc hlen hbase
  ⟨v', w', h1, h2, h3⟩
theorem wp_append_ints {w : World} {o : Oper} {a : Act} {K : Act → World → Prop} {Q : Exit → Act → World → Prop} (s x : Operand)
    (ho : o.op = .call { callee := .builtin .append, args := #[s, x], argTypes := #[25, 25] })
    {base : Nat} {v sv : Value} {xs ys : List Int} (hs : a.eval s = v) (hx : a.eval x = sv) (hown : OwnI w base v xs) (hsrc : IntsAt w sv ys) (hlen : (xs.length + ys.length) * 8 ≤ 140737488355328) (hbase : base ≤ w.heap.size)
    (h : ∀ v' w', OwnI w' base v' (xs ++ ys) → w.grownBy w' v.ownBlock → K (a.put o.dst v') w') : o.wp Tryd.prog a w K Q := by
  obtain ⟨v', w', hr, h2, h3⟩ := run_append_ints (ty := o.type) hown hsrc hlen hbase
  unfold Oper.wp execOp
  simp only [ho, resolve, invoke, builtin, Sem.run_bind, Sem.run_pure, Result.andThen_ok, List.map_toArray, List.map_cons, List.map_nil, hs, hx, hr]
  exact h v' w' h2 h3
theorem wpList_append_ints {w : World} {ops : Array Oper} {rest : List Oper} {o : Oper} {a : Act} {Q : Exit → Act → World → Prop} (hgd : o.guard = none) (s x : Operand)
    (ho : o.op = .call { callee := .builtin .append, args := #[s, x], argTypes := #[25, 25] })
    {base : Nat} {v sv : Value} {xs ys : List Int} (hs : a.eval s = v) (hx : a.eval x = sv) (hown : OwnI w base v xs) (hsrc : IntsAt w sv ys) (hlen : (xs.length + ys.length) * 8 ≤ 140737488355328) (hbase : base ≤ w.heap.size)
    (h : ∀ v' w', OwnI w' base v' (xs ++ ys) → w.grownBy w' v.ownBlock → wpList Tryd.prog ops Q rest (a.put o.dst v') w') : wpList Tryd.prog ops Q (o :: rest) a w :=
  wpList_plain hgd fun _ hK => wp_append_ints s x ho hs hx hown hsrc hlen hbase fun v' w' h2 h3 => hK _ _ (h v' w' h2 h3)
/-- As one step of a region that draws. -/
theorem step_append_ints {w : World} {ops : Array Oper} {o : Oper} {a : Act} {K : Act → World → Prop} {Q : Exit → Act → World → Prop} {E : Prop} (hg : o.guard = none) (s x : Operand)
    (ho : o.op = .call { callee := .builtin .append, args := #[s, x], argTypes := #[25, 25] })
    {base : Nat} {v sv : Value} {xs ys : List Int} (hs : a.eval s = v) (hx : a.eval x = sv) (hown : OwnI w base v xs) (hsrc : IntsAt w sv ys) (hlen : (xs.length + ys.length) * 8 ≤ 140737488355328) (hbase : base ≤ w.heap.size)
    (h : ∀ v' w', OwnI w' base v' (xs ++ ys) → w.grownBy w' v.ownBlock → K (a.put o.dst v') w') : if Region.wanted o (yielded ops a.tmps) = true then Oper.wp Tryd.prog o a w K Q else E := by
  have hw : Region.wanted o (yielded ops a.tmps) = true := by simp [Region.wanted, hg]
  rw [if_pos hw]
  exact wp_append_ints s x ho hs hx hown hsrc hlen hbase h
/-- .. and where the new slice lies. -/
theorem step_append_ints' {w : World} {ops : Array Oper} {o : Oper} {a : Act} {K : Act → World → Prop} {Q : Exit → Act → World → Prop} {E : Prop} (hg : o.guard = none) (s x : Operand)
    (ho : o.op = .call { callee := .builtin .append, args := #[s, x], argTypes := #[25, 25] })
    {base : Nat} {v sv : Value} {xs ys : List Int} (hs : a.eval s = v) (hx : a.eval x = sv) (hown : OwnI w base v xs) (hsrc : IntsAt w sv ys) (hlen : (xs.length + ys.length) * 8 ≤ 140737488355328) (hbase : base ≤ w.heap.size)
    (h : ∀ v' w', OwnI w' base v' (xs ++ ys) → w.grownBy w' v.ownBlock → (v'.ownBlock = v.ownBlock ∨ v'.ownBlock = some w.heap.size) → K (a.put o.dst v') w') : if Region.wanted o (yielded ops a.tmps) = true then Oper.wp Tryd.prog o a w K Q else E := by
  have hw : Region.wanted o (yielded ops a.tmps) = true := by simp [Region.wanted, hg]
  rw [if_pos hw]
  obtain ⟨v', w', hr, h2, h3, h4⟩ := run_append_ints' (ty := o.type) hown hsrc hlen hbase
  unfold Oper.wp execOp
  simp only [ho, resolve, invoke, builtin, Sem.run_bind, Sem.run_pure, Result.andThen_ok, List.map_toArray, List.map_cons, List.map_nil, hs, hx, hr]
  exact h v' w' h2 h3 h4
/-- Pieces of a slice. -/
theorem IntsAt.take {w : World} {a : Option Addr} {n cap : Nat} {l : List Int} (h : IntsAt w (.slice a n cap) l) {i : Nat} (hi : i ≤ l.length) : IntsAt w (.slice a i cap) (l.take i) := by
  obtain ⟨a', cap', hv, h1, h2, h3⟩ := h
  cases hv
  refine ⟨a, cap, by rw [List.length_take_of_le hi], by rw [List.length_take_of_le hi]; omega, h2, fun k hk => ?_⟩
  rw [List.length_take_of_le hi] at hk
  obtain ⟨b, off, ha, hb, hc⟩ := h3 k (by omega)
  exact ⟨b, off, ha, hb, by rw [hc, getD_getElem (by omega), getD_getElem (by rw [List.length_take_of_le hi]; exact hk), List.getElem_take]⟩
theorem IntsAt.drop {w : World} {a : Option Addr} {n cap : Nat} {l : List Int} (h : IntsAt w (.slice a n cap) l) {i : Nat} (hi : i ≤ l.length) :
    IntsAt w (.slice (if cap = i then a else a.map fun x => ⟨x.block, x.off + i, none⟩) (n - i) (cap - i)) (l.drop i) := by
  obtain ⟨a', cap', hv, h1, h2, h3⟩ := h
  cases hv
  refine ⟨_, _, by rw [List.length_drop], by rw [List.length_drop]; omega, by omega, fun k hk => ?_⟩
  rw [List.length_drop] at hk
  obtain ⟨b, off, ha, hb, hc⟩ := h3 (i + k) (by omega)
  refine ⟨b, off + i, ?_, hb, ?_⟩
  · rw [if_neg (by omega), ha]
    simp
  · rw [show off + i + k = off + (i + k) by omega, hc, getD_getElem (by omega), getD_getElem (by rw [List.length_drop]; omega), List.getElem_drop]
theorem eraseIdx_pieces {l : List Int} {i : Nat} : l.eraseIdx i = l.take i ++ l.drop (i + 1) := List.eraseIdx_eq_take_drop_succ ..
theorem intsAt_of_block {w : World} {g : Nat} {l : List Int} {t : TypeId} (h : OwnB w g (intsV l) t) (hm : l.length ≤ maxLen) : IntsAt w (.slice (some ⟨g, 0, none⟩) l.length l.length) l :=
  ⟨_, _, rfl, Nat.le_refl _, hm, fun k hk => ⟨g, 0, rfl, h.lt, by rw [Nat.zero_add, h.cell, intsV, List.getElem?_map, List.getElem?_eq_getElem hk, getD_getElem hk]; rfl⟩⟩
theorem intsAt_fresh (w : World) (x : Int) (t : TypeId) : IntsAt (w.alloc (.cells #[.int .i64 x] t)) (.slice (some ⟨w.heap.size, 0, none⟩) 1 1) [x] :=
  intsAt_of_block (l := [x]) (OwnB.new w [.int .i64 x] t) (by show 1 ≤ maxLen; decide)
theorem OwnI.setOther {w : World} {base b : Nat} {v : Value} {l : List Int} (h : OwnI w base v l) (hb : b < base) (i : Nat) (u : Value) : OwnI (w.setCell ⟨b, i, none⟩ u) base v l :=
  ownsRow_setCell_below h hb u
theorem own_grown {w w' : World} {row : Option Nat} {b : Nat} {cs : List Value} {t : TypeId} (h : OwnB w b cs t) (hg : w.grownBy w' row) (hr : row ≠ some b) : OwnB w' b cs t := by
  unfold OwnB at *; rw [hg.block b (Array.getElem?_eq_some_iff.1 h).1 (fun e => hr e.symm)]; exact h
end Go.Proofs.YtagohmpbbbkdjaaDoor
