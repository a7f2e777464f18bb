/- Trails in memory: slices of steps, three cells each; append of one step. No condition. -/
import Derived.Test.YteagoaiiacideaaG2
import Derived.Test.YteagoaiiacideaaG1
namespace Go.Proofs.Yteagoaiiacideaa
set_option linter.unusedSimpArgs false
set_option linter.unusedVariables false
open Go.RowKit
def stV (s : St) : List Value := [.int .i64 s.lit, .int .i64 s.why, .int .i64 s.lev]
def stepsV (tr : List St) : List Value := tr.flatMap stV
theorem stepsV_length (tr : List St) : (stepsV tr).length = tr.length * 3 := by
  induction tr with
  | nil => rfl
  | cons s t ih => simp only [stepsV, stV, List.flatMap_cons, List.length_append, List.length_cons, List.length_nil] at *; omega
theorem stepsV_append (tr : List St) (s : St) : stepsV (tr ++ [s]) = stepsV tr ++ stV s := by simp [stepsV, List.flatMap_append]
theorem stepsV_get : ∀ (tr : List St) (k : Nat), k < tr.length → (stepsV tr)[k * 3]? = some (.int .i64 (tr.getD k default).lit) ∧ (stepsV tr)[k * 3 + 1]? = some (.int .i64 (tr.getD k default).why) ∧ (stepsV tr)[k * 3 + 2]? = some (.int .i64 (tr.getD k default).lev)
  | s :: t, 0, _ => ⟨rfl, rfl, rfl⟩
  | s :: t, k + 1, h => by
    have ih := stepsV_get t k (by simpa using h)
    have e : stepsV (s :: t) = .int .i64 s.lit :: .int .i64 s.why :: .int .i64 s.lev :: stepsV t := rfl
    rw [e, show (k + 1) * 3 = k * 3 + 1 + 1 + 1 by omega]
    simp only [List.getElem?_cons_succ]
    exact ih
/-- A slice of steps, as it lies in memory. -/
def StepsAt (w : World) (v : Value) (tr : List St) : Prop :=
  ∃ a cap, v = .slice a tr.length cap ∧ tr.length ≤ cap ∧ cap ≤ maxLen ∧
    ∀ k, k < tr.length → ∃ b off, a = some ⟨b, off, none⟩ ∧ b < w.heap.size ∧ w.cell? ⟨b, off + k * 3, none⟩ = some (.int .i64 (tr.getD k default).lit) ∧
      w.cell? ⟨b, off + k * 3 + 1, none⟩ = some (.int .i64 (tr.getD k default).why) ∧ w.cell? ⟨b, off + k * 3 + 2, none⟩ = some (.int .i64 (tr.getD k default).lev)
theorem StepsAt.ex {w w' : World} {v : Value} {tr : List St} (h : StepsAt w v tr) (hx : Ex w w') : StepsAt w' v tr := by
  obtain ⟨a, cap, hv, h1, h2, h3⟩ := h
  refine ⟨a, cap, hv, h1, h2, fun k hk => ?_⟩
  obtain ⟨b, off, ha, hb, c0, c1, c2⟩ := h3 k hk
  exact ⟨b, off, ha, Nat.lt_of_lt_of_le hb hx.size, ex_cell c0 hx, ex_cell c1 hx, ex_cell c2 hx⟩
theorem StepsAt.nil (w : World) : StepsAt w (.slice none 0 0) [] := ⟨none, 0, rfl, Nat.le_refl _, Nat.zero_le _, fun k hk => by cases hk⟩
/-- A slice of steps of the call's own. -/
def OwnS (w : World) (e : TypeId) (base : Nat) (v : Value) (tr : List St) : Prop := w.ownsRow base e 3 v tr.length (stepsV tr)
theorem OwnS.ex {w w' : World} {e : TypeId} {base : Nat} {v : Value} {tr : List St} (h : OwnS w e base v tr) (hx : Ex w w') : OwnS w' e base v tr := ownsRow_ex h hx
theorem OwnS.nil (w : World) (e : TypeId) (base : Nat) : OwnS w e base (.slice none 0 0) [] := World.ownsRow_nil _ _ _ _
theorem OwnS.base {w : World} {e : TypeId} {base base' : Nat} {v : Value} {tr : List St} (h : OwnS w e base v tr) (hb : base' ≤ base) : OwnS w e base' v tr := ownsRow_base h hb
theorem OwnS.setOther {w : World} {e : TypeId} {base b : Nat} {v : Value} {tr : List St} (h : OwnS w e base v tr) (hb : b < base) (i : Nat) (u : Value) : OwnS (w.setCell ⟨b, i, none⟩ u) e base v tr := ownsRow_setCell_below h hb u
theorem OwnS.steps {w : World} {e : TypeId} {base : Nat} {v : Value} {tr : List St} (h : OwnS w e base v tr) : StepsAt w v tr := by
  rcases h.2 with ⟨rfl, hn⟩ | ⟨g, cap, cur, rfl, hb, hg, hc, hm, hs, ht⟩
  · have : tr = [] := List.eq_nil_of_length_eq_zero hn
    subst this
    exact StepsAt.nil w
  · have ad : ∀ j, (⟨g, 0, none⟩ : Addr).add j = ⟨g, 0 + j, none⟩ := fun j => by unfold Addr.add; split <;> simp_all
    have hown : w.ownsRow base e 3 _ tr.length (stepsV tr) := h
    refine ⟨some ⟨g, 0, none⟩, cap, rfl, hc, hm, fun k hk => ⟨g, 0, rfl, (Array.getElem?_eq_some_iff.1 hg).1, ?_, ?_, ?_⟩⟩
    · have := hown.cells (g := g) rfl (k * 3) _ (stepsV_get tr k hk).1
      rwa [ad] at this
    · have := hown.cells (g := g) rfl (k * 3 + 1) _ (stepsV_get tr k hk).2.1
      rwa [ad] at this
    · have := hown.cells (g := g) rfl (k * 3 + 2) _ (stepsV_get tr k hk).2.2
      rwa [ad] at this
/-- A type of steps: three integers. -/
structure StepT (t e : TypeId) : Prop where
  und : Try.prog.underlying t = some (.slice e)
  info : (Try.prog.info? e).map (fun i => (i.zero, i.size, i.bytes)) = some (some (.agg #[.int .i64 0, .int .i64 0, .int .i64 0]), 3, 24)
theorem stepT_unit : StepT 25 55 := ⟨Try.underlying25, by kernel_rfl⟩
theorem stepT_r13 : StepT 35 79 := ⟨Try.underlying35, by kernel_rfl⟩
theorem oneCell_st (s : St) : ∀ u ∈ stV s, u.oneCell' = true := by
  intro u hu; simp [stV] at hu; rcases hu with rfl | rfl | rfl <;> rfl
theorem run_append_step {w : World} {t e ty : TypeId} (hT : StepT t e) {base b : Nat} {v : Value} {tr : List St} {s : St} (hown : OwnS w e base v tr)
    (hn : ∀ j u, (stV s)[j]? = some u → w.cell? ((⟨b, 0, none⟩ : Addr).add j) = some u) (hlen : tr.length ≤ 100000) (hbase : base ≤ w.heap.size) :
    ∃ v' w', (Builtin.append_ #[t, t] ty #[v, .slice (some ⟨b, 0, none⟩) 1 1]).run Try.prog w = .ok v' w' ∧ OwnS w' e base v' (tr ++ [s]) ∧ w.grownBy w' v.ownBlock ∧ (v'.ownBlock = v.ownBlock ∨ v'.ownBlock = some w.heap.size) := by
  obtain ⟨i0, hi, hz0, hz1, hz2⟩ := info_parts hT.info
  obtain ⟨v', w', hr, ho, hg, _, hat⟩ := run_append_own_at (P := Try.prog) w base t ty e i0 (.agg #[.int .i64 0, .int .i64 0, .int .i64 0]) 3 24 hT.und hi hz0 hz1 hz2 rfl (by decide) v _ _ hown ⟨b, 0, none⟩ 1 1 (stV s) rfl hn (oneCell_st s) (by unfold maxLen; omega) (by omega) hbase
  refine ⟨v', w', hr, ?_, hg, hat⟩
  unfold OwnS
  rw [List.length_append, stepsV_append]
  exact ho
theorem wp_append_step {w : World} {o : Oper} {a : Act} {K : Act → World → Prop} {Q : Exit → Act → World → Prop} {t e : TypeId} (hT : StepT t e) (s x : Operand)
    (ho : o.op = .call { callee := .builtin .append, args := #[s, x], argTypes := #[t, t] })
    {base b : Nat} {v : Value} {tr : List St} {st : St} (hs : a.eval s = v) (hx : a.eval x = .slice (some ⟨b, 0, none⟩) 1 1) (hown : OwnS w e base v tr)
    (hn : ∀ j u, (stV st)[j]? = some u → w.cell? ((⟨b, 0, none⟩ : Addr).add j) = some u) (hlen : tr.length ≤ 100000) (hbase : base ≤ w.heap.size)
    (h : ∀ v' w', OwnS w' e base v' (tr ++ [st]) → w.grownBy w' v.ownBlock → (v'.ownBlock = v.ownBlock ∨ v'.ownBlock = some w.heap.size) → K (a.put o.dst v') w') : o.wp Try.prog a w K Q := by
  obtain ⟨v', w', hr, h2, h3, h4⟩ := run_append_step (ty := o.type) hT hown hn hlen hbase
  unfold Oper.wp execOp
  simp only [ho, resolve, invoke, builtin, Sem.run_bind, Sem.run_pure, Result.andThen_ok, List.map_toArray, List.map_cons, List.map_nil, hs, hx, hr]
  exact h v' w' h2 h3 h4
theorem wpList_append_step {w : World} {ops : Array Oper} {rest : List Oper} {o : Oper} {a : Act} {Q : Exit → Act → World → Prop} {t e : TypeId} (hT : StepT t e) (hgd : o.guard = none) (s x : Operand)
    (ho : o.op = .call { callee := .builtin .append, args := #[s, x], argTypes := #[t, t] })
    {base b : Nat} {v : Value} {tr : List St} {st : St} (hs : a.eval s = v) (hx : a.eval x = .slice (some ⟨b, 0, none⟩) 1 1) (hown : OwnS w e base v tr)
    (hn : ∀ j u, (stV st)[j]? = some u → w.cell? ((⟨b, 0, none⟩ : Addr).add j) = some u) (hlen : tr.length ≤ 100000) (hbase : base ≤ w.heap.size)
    (h : ∀ v' w', OwnS w' e base v' (tr ++ [st]) → w.grownBy w' v.ownBlock → (v'.ownBlock = v.ownBlock ∨ v'.ownBlock = some w.heap.size) → wpList Try.prog ops Q rest (a.put o.dst v') w') : wpList Try.prog ops Q (o :: rest) a w :=
  wpList_plain hgd fun _ hK => wp_append_step hT s x ho hs hx hown hn hlen hbase fun v' w' h2 h3 h4 => hK _ _ (h v' w' h2 h3 h4)
/-- As one step of a region that draws. -/
theorem step_append_step {w : World} {ops : Array Oper} {o : Oper} {a : Act} {K : Act → World → Prop} {Q : Exit → Act → World → Prop} {E : Prop} {t e : TypeId} (hT : StepT t e) (hg : o.guard = none) (s x : Operand)
    (ho : o.op = .call { callee := .builtin .append, args := #[s, x], argTypes := #[t, t] })
    {base b : Nat} {v : Value} {tr : List St} {st : St} (hs : a.eval s = v) (hx : a.eval x = .slice (some ⟨b, 0, none⟩) 1 1) (hown : OwnS w e base v tr)
    (hn : ∀ j u, (stV st)[j]? = some u → w.cell? ((⟨b, 0, none⟩ : Addr).add j) = some u) (hlen : tr.length ≤ 100000) (hbase : base ≤ w.heap.size)
    (h : ∀ v' w', OwnS w' e base v' (tr ++ [st]) → w.grownBy w' v.ownBlock → (v'.ownBlock = v.ownBlock ∨ v'.ownBlock = some w.heap.size) → K (a.put o.dst v') w') : if Region.wanted o (yielded ops a.tmps) = true then Oper.wp Try.prog o a w K Q else E := by
  have hw : Region.wanted o (yielded ops a.tmps) = true := by simp [Region.wanted, hg]
  rw [if_pos hw]
  exact wp_append_step hT s x ho hs hx hown hn hlen hbase h
/-- The cells of a step laid down for the append. -/
theorem st_new (w : World) (s : St) (t : TypeId) : ∀ j u, (stV s)[j]? = some u → (w.alloc (.cells #[.int .i64 s.lit, .int .i64 s.why, .int .i64 s.lev] t)).cell? ((⟨w.heap.size, 0, none⟩ : Addr).add j) = some u := cells_new w (stV s) t
theorem st_new_drew (w : World) (s : St) (t : TypeId) : ∀ j u, (stV s)[j]? = some u → (w.alloc (.cells #[.int .i64 s.lit, .int .i64 s.why, .int .i64 s.lev] t)).drew.cell? ((⟨w.heap.size, 0, none⟩ : Addr).add j) = some u := cells_new w (stV s) t
end Go.Proofs.Yteagoaiiacideaa
