/- censuslaw05.Copy: a copy of a theory in memory of its own. No condition but its sizes. -/
import Derived.Test.YteagoaiiacideaaLight05
import Derived.Deep.RegionLaw
import Derived.Maps.AppendAt
namespace Go.Proofs.Yteagoaiiacideaa
set_option linter.unusedSimpArgs false
set_option linter.unusedVariables false
open Go.RowKit
set_option maxRecDepth 20000
theorem Try.infoRow : (Try.prog.info? 26).map (fun i => (i.zero, i.size, i.bytes)) = some (some (.slice none 0 0), 1, 24) := by kernel_rfl
/-- A slice of slices of the call's own. -/
def OwnR (w : World) (base : Nat) (v : Value) (vs : List Value) : Prop := w.ownsRow base 26 1 v vs.length vs
theorem OwnR.ex {w w' : World} {base : Nat} {v : Value} {vs : List Value} (h : OwnR w base v vs) (hx : Ex w w') : OwnR w' base v vs := ownsRow_ex h hx
theorem OwnR.nil (w : World) (base : Nat) : OwnR w base (.slice none 0 0) [] := World.ownsRow_nil _ _ _ _
theorem run_append_row {w : World} {ty : TypeId} {base b : Nat} {v u : Value} {vs : List Value} (hown : OwnR w base v vs) (hu : u.oneCell' = true)
    (hn : w.cell? ⟨b, 0, none⟩ = some u) (hlen : vs.length ≤ 100000) (hbase : base ≤ w.heap.size) :
    ∃ v' w', (Builtin.append_ #[22, 22] ty #[v, .slice (some ⟨b, 0, none⟩) 1 1]).run Try.prog w = .ok v' w' ∧ OwnR w' base v' (vs ++ [u]) ∧ w.grownBy w' v.ownBlock := by
  obtain ⟨i0, hi, hz0, hz1, hz2⟩ := info_parts Try.infoRow
  obtain ⟨v', w', hr, ho, hg, _, hat⟩ := run_append_own_at (P := Try.prog) w base 22 ty 26 i0 (.slice none 0 0) 1 24 Try.underlying22 hi hz0 hz1 hz2 rfl (by decide) v _ _ hown ⟨b, 0, none⟩ 1 1 [u] rfl (by
    intro j x hx
    cases j with
    | zero => simp at hx; subst hx; simpa [Addr.add] using hn
    | succ j => simp at hx) (by intro x hx; rw [List.mem_singleton] at hx; rw [hx]; exact hu) (by unfold maxLen; omega) (by omega) hbase
  refine ⟨v', w', hr, ?_, hg⟩
  unfold OwnR
  rw [List.length_append]
  exact ho
theorem step_append_row {w : World} {ops : Array Oper} {o : Oper} {a : Act} {K : Act → World → Prop} {Q : Exit → Act → World → Prop} {E : Prop} (hg : o.guard = none) (s x : Operand)
    (ho : o.op = .call { callee := .builtin .append, args := #[s, x], argTypes := #[22, 22] })
    {base b : Nat} {v u : Value} {vs : List Value} (hs : a.eval s = v) (hx : a.eval x = .slice (some ⟨b, 0, none⟩) 1 1) (hown : OwnR w base v vs) (hu : u.oneCell' = true)
    (hn : w.cell? ⟨b, 0, none⟩ = some u) (hlen : vs.length ≤ 100000) (hbase : base ≤ w.heap.size)
    (h : ∀ v' w', OwnR w' base v' (vs ++ [u]) → w.grownBy w' v.ownBlock → K (a.put o.dst v') w') : if Region.wanted o (yielded ops a.tmps) = true then Oper.wp Try.prog o a w K Q else E := by
  have hw : Region.wanted o (yielded ops a.tmps) = true := by simp [Region.wanted, hg]
  rw [if_pos hw]
  obtain ⟨v', w', hr, h2, h3⟩ := run_append_row (ty := o.type) hown hu hn hlen hbase
  unfold Oper.wp execOp
  simp only [ho, resolve, invoke, builtin, Sem.run_bind, Sem.run_pure, Result.andThen_ok, List.map_toArray, List.map_cons, List.map_nil, hs, hx, hr]
  exact h v' w' h2 h3
/-- A slice of integers of the call's own stays while the slice of slices grows. -/
theorem OwnI.beside {w w' : World} {base : Nat} {v ov : Value} {l : List Int} {vs : List Value} (h : OwnI w base v l) (ho : OwnR w base ov vs) (hg : w.grownBy w' ov.ownBlock) : OwnI w' base v l := by
  refine World.ownsRow.kept h hg ?_
  rcases h.2 with ⟨hn, _⟩ | ⟨g, c, cur, hv, _, hc, _⟩
  · left; rw [hn]; rfl
  · rcases ho.2 with ⟨hn', _⟩ | ⟨g', c', cur', hv', _, hc', _⟩
    · right; rw [hv, hn']; simp [Value.ownBlock]
    · right
      rw [hv, hv']
      simp only [Value.ownBlock, ne_eq, Option.some.injEq]
      rintro rfl
      rw [hc] at hc'
      simp only [Option.some.injEq, Obj.cells.injEq] at hc'
      exact absurd hc'.2.1 (by decide)
theorem ownR_shape {w : World} {base : Nat} {v : Value} {vs : List Value} (h : OwnR w base v vs) : ∃ a n c, v = .slice a n c := by
  rcases h.2 with ⟨hn, _⟩ | ⟨g, c, cur, hv, _⟩
  · exact ⟨_, _, _, hn⟩
  · exact ⟨_, _, _, hv⟩
theorem ownR_ne {w : World} {base b : Nat} {v : Value} {vs : List Value} (h : OwnR w base v vs) (hb : b < base) : some b ≠ v.ownBlock := fun e => by
  rcases h.2 with ⟨hn, _⟩ | ⟨g, c, cur, hv, hg, _⟩
  · rw [hn] at e; cases e
  · rw [hv] at e
    simp only [Value.ownBlock, Option.some.injEq] at e
    omega
/-- What Copy hands back. -/
def CopyRet (w : World) (n : Int) (ll : List (List Int)) (e : Ending) (w' : World) : Prop := ∃ lv, e = .returned (.agg #[.int .i64 n, lv]) ∧ RowsAt w' lv ll ∧ Ex w w'
/-- The copies of the first rows. -/
def CopiesAt (w : World) (base : Nat) (vs : List Value) (ll : List (List Int)) : Prop := ∀ j, j < vs.length → OwnI w base (vs.getD j undef) (ll.getD j [])
theorem rows_done {w : World} {base : Nat} {ov : Value} {vs : List Value} {ll : List (List Int)} (ho : OwnR w base ov vs) (hr : CopiesAt w base vs ll) (hl : vs.length = ll.length) : RowsAt w ov ll := by
  rcases ho.2 with ⟨rfl, hn⟩ | ⟨g, cap, cur, rfl, _, hg, hc, hm, _, _⟩
  · have : ll = [] := List.length_eq_zero_iff.1 (by omega)
    subst this
    exact ⟨none, 0, rfl, Nat.le_refl _, Nat.zero_le _, fun k hk => by cases hk⟩
  · refine ⟨some ⟨g, 0, none⟩, cap, by rw [hl], by omega, hm, fun k hk => ⟨g, 0, vs.getD k undef, rfl, (Array.getElem?_eq_some_iff.1 hg).1, ?_, (hr k (by omega)).ints⟩⟩
    have := World.ownsRow.cells (g := g) ho rfl k (vs.getD k undef) (by rw [getD_getElem (by omega)]; exact List.getElem?_eq_getElem (by omega))
    have ad : (⟨g, 0, none⟩ : Addr).add k = ⟨g, 0 + k, none⟩ := by unfold Addr.add; split <;> simp_all
    rwa [ad] at this
set_option maxRecDepth 100000 in
set_option maxHeartbeats 4000000 in
theorem copy05_any (n : Int) (lv : Value) (ll : List (List Int)) (w : World) (hR : RowsAt w lv ll) (hs : ll.length ≤ 60) (hc : ∀ c ∈ ll, c.length ≤ 140) :
    Calls Try.prog 14 #[.agg #[.int .i64 n, lv]] w (CopyRet w n ll) := by
  have hR0 := hR
  obtain ⟨ra, rcap, rfl, r1, r2, r3⟩ := hR
  unfold maxLen at r2
  clear r3
  have HC : Hid (∀ k, k < ll.length → (ll.getD k []).length ≤ 140) := fun k hk => hc _ (by rw [getD_getElem hk]; exact List.getElem_mem hk)
  clear hc
  go_enter Try.func14, Try.ntmps14
  go_wp2
  generalize hw1 : ((w.alloc (.cells #[.int .i64 n, .slice ra ll.length rcap] 24)).alloc (.cells #[.int .i64 0, .slice none 0 0] 24)).alloc (.cells #[.int .i64 n, .slice none 0 0] 24) = w1
  have oR : OwnB w1 (w.heap.size + 1) [.int .i64 0, .slice none 0 0] 24 := by
    have := (OwnB.new (w.alloc (.cells #[.int .i64 n, .slice ra ll.length rcap] 24)) [.int .i64 0, .slice none 0 0] 24).ex (Ex.alloc _ (.cells #[.int .i64 n, .slice none 0 0] 24))
    rw [alloc_size] at this; rw [← hw1]; exact this
  have oO : OwnB w1 (w.heap.size + 1 + 1) [.int .i64 n, .slice none 0 0] 24 := by
    have := OwnB.new ((w.alloc (.cells #[.int .i64 n, .slice ra ll.length rcap] 24)).alloc (.cells #[.int .i64 0, .slice none 0 0] 24)) [.int .i64 n, .slice none 0 0] 24
    rw [alloc_size, alloc_size] at this; rw [← hw1]; exact this
  have hx0 : Ex w w1 := by rw [← hw1]; exact (((Ex.refl w).alloc' _).alloc' _).alloc' _
  have hsz : w1.heap.size = w.heap.size + 3 := by rw [← hw1, alloc_size, alloc_size, alloc_size]
  clear hw1
  obtain ⟨OB, hOB⟩ : ∃ OB, OB = w.heap.size + 1 + 1 := ⟨_, rfl⟩
  obtain ⟨RB, hRB⟩ : ∃ RB, RB = w.heap.size + 1 := ⟨_, rfl⟩
  rw [← hOB] at oO ⊢
  rw [← hRB] at oR ⊢
  have HOB : Hid (OB = w.heap.size + 1 + 1 ∧ RB = w.heap.size + 1) := ⟨hOB, hRB⟩
  have hne : RB ≠ OB := by omega
  clear hOB hRB
  go_loopw [12] (fun i wr => ∃ k : Nat, k ≤ ll.length ∧ i = .int .i64 k ∧ Ex w wr ∧ w.heap.size + 3 ≤ wr.heap.size ∧ OwnB wr RB [.int .i64 0, .slice none 0 0] 24 ∧ ∃ ov vs, vs.length = k ∧ OwnB wr OB [.int .i64 n, ov] 24 ∧ OwnR wr (w.heap.size + 3) ov vs ∧ CopiesAt wr (w.heap.size + 3) vs ll) (fun i _ => ll.length - (intOf i).toNat)
  case atStart => exact ⟨0, Nat.zero_le _, rfl, hx0, by omega, oR, _, [], rfl, oO, OwnR.nil _ _, fun j hj => by cases hj⟩
  case round =>
    clear oR oO hx0 hsz
    obtain ⟨k, hk, rfl, hxr, hsz, oR, ov, vs, hvk, oO, hO, hCp⟩ := hrel
    by_cases hlt : k < ll.length
    · obtain ⟨_, _, hv, _, _, h3⟩ := hR0.ex hxr
      cases hv
      obtain ⟨b, off, rv, rfl, hb, hcell, hrow⟩ := h3 k hlt
      clear h3
      have hlen := HC.out k hlt
      obtain ⟨row, hrw⟩ : ∃ row, row = ll.getD k [] := ⟨_, rfl⟩
      rw [← hrw] at hrow hlen
      have HRow : Hid (IntsAt wr rv row) := hrow
      have HRw : Hid (row = ll.getD k []) := hrw
      obtain ⟨rpa, rpc, rfl, _, _, _⟩ := hrow
      have c0 := oO.cell 0
      have c1 := oO.cell 1
      have f1 := oO.free 1
      have z1 := oO.lt
      have q1 : (k : Int) < (ll.length : Int) := by omega
      have q2 : (0 : Int) ≤ (k : Int) := by omega
      have HVk : Hid (vs.length = k) := hvk
      have hOBlt : OB < w.heap.size + 3 := by have := HOB.out; omega
      have e1 : vs.length ≤ 100000 := by omega
      clear hrw hvk
      go_wp2
      go_region_law (first | (refine step_append_ints (by rfl) (.tmp 18) (.tmp 19) (by rfl) (by rfl) (by rfl) ((OwnI.empty (Nat.le_refl _)).ex (Ex.refl _).drew) (ys := row) (HRow.out.ex ((Ex.alloc _ _).drew)) (by simp only [List.length_nil]; omega) (by simp) ?_; intro v5 w5 hown5 hg5; have hx5 : Ex wr w5 := grown_ex ((Ex.alloc _ _).drew) hg5 (by intro k hk; cases hk; exact Nat.le_refl _); have hw5 : OwnI w5 wr.heap.size v5 (row) := hown5; have hv5 := hw5.ints; obtain ⟨p5, q5, rfl, _, _, _⟩ := hv5; have hO5 := hO.ex hx5; have oO5 := oO.ex hx5; have c15 := oO5.cell 1; have z15 := oO5.lt; have e2 : ∀ o, w.heap.size + 3 ≤ (w5.alloc o).heap.size := (fun o => by rw [alloc_size]; have := hx5.size; omega)) | (refine step_append_row (u := .slice p5 (row).length q5) (by rfl) (.tmp 17) (.tmp 21) (by rfl) (by rfl) (by rfl) (hO5.ex (Ex.alloc _ _)) (by rfl) ((OwnB.new w5 [.slice p5 (row).length q5] _).cell 0) e1 (e2 _) ?_; intro v6 w6 hown6 hg6; obtain ⟨a6, l6, c6, rfl⟩ := ownR_shape hown6; have oO6 := own_grown (oO5.ex (Ex.alloc w5 _)) hg6 (fun e => ownR_ne hO5 hOBlt e.symm); have c16 := oO6.cell 1; have f16 := oO6.free 1; have z16 := oO6.lt))
      all_goals (
        have hCp6 : CopiesAt (w6.setCell ⟨OB, 1, none⟩ (.slice a6 l6 c6)) (w.heap.size + 3) (vs ++ [.slice p5 row.length q5]) ll := fun j hj => by
          rw [List.length_append, List.length_cons, List.length_nil] at hj
          by_cases e : j < vs.length
          · rw [getD_getElem (by simp; omega), List.getElem_append_left e, ← getD_getElem (d := undef) e]
            exact (((hCp j e).ex hx5).ex (Ex.alloc w5 _) |>.beside (hO5.ex (Ex.alloc w5 _)) hg6).setOther hOBlt 1 (.slice a6 l6 c6)
          · obtain rfl : j = vs.length := by omega
            have g1 : (vs ++ [Value.slice p5 row.length q5]).getD vs.length undef = .slice p5 row.length q5 := by rw [getD_getElem (by simp)]; simp
            have g2 : ll.getD vs.length [] = row := by rw [HVk.out, ← HRw.out]
            rw [g1, g2]
            exact ((hw5.base hsz).ex (Ex.alloc w5 _) |>.beside (hO5.ex (Ex.alloc w5 _)) hg6).setOther hOBlt 1 (.slice a6 l6 c6)
        have hO7 : OwnR (w6.setCell ⟨OB, 1, none⟩ (.slice a6 l6 c6)) (w.heap.size + 3) (.slice a6 l6 c6) (vs ++ [.slice p5 row.length q5]) := ownsRow_setCell_below hown6 hOBlt (.slice a6 l6 c6)
        have oO7 := oO6.set 1 (.slice a6 l6 c6)
        have hx7 : Ex w (w6.setCell ⟨OB, 1, none⟩ (.slice a6 l6 c6)) := (grown_ex ((hxr.trans hx5).alloc' _) hg6 (ownsRow_block (ownsRow_base hO5 (by omega)))).setCell (by show w.heap.size ≤ OB; have := HOB.out; omega) _
        have hs7 : w.heap.size + 3 ≤ (w6.setCell ⟨OB, 1, none⟩ (.slice a6 l6 c6)).heap.size := by have := hg6.size; have := e2 (.cells #[.slice p5 row.length q5] 26); simp [World.setCell] at *; omega
        have hl7 : (vs ++ [Value.slice p5 row.length q5]).length = k + 1 := by rw [List.length_append, HVk.out]; rfl
        have oR7 := (own_grown ((oR.ex hx5).ex (Ex.alloc w5 _)) hg6 (fun e => ownR_ne hO5 (show RB < w.heap.size + 3 by have := HOB.out; omega) e.symm)).set_other (c := OB) 1 (.slice a6 l6 c6) hne.symm
        clear oO6 c16 f16 z16 c15 z15 oO5 hO5 hw5 c0 c1 f1 z1 hCp hO oO HRow
        go_wp2
        go_roundw
        all_goals first | exact ⟨k + 1, by omega, by go_num, hx7, hs7, oR7, (.slice a6 l6 c6), _, hl7, oO7, hO7, hCp6⟩ | (simp [intOf]; omega)
      )
    · obtain rfl : k = ll.length := by omega
      obtain ⟨oa, ol, oc, rfl⟩ := ownR_shape hO
      have hRBlt : RB < w.heap.size + 3 := by have := HOB.out; omega
      have hRBw : w.heap.size ≤ RB := by have := HOB.out; omega
      have HD : Hid (RowsAt ((wr.setCell ⟨RB, 0, none⟩ (.int .i64 n)).setCell ⟨RB, 1, none⟩ (.slice oa ol oc)) (.slice oa ol oc) ll) := rows_done (ownsRow_setCell_below (ownsRow_setCell_below hO hRBlt _) hRBlt _) (fun j hj => ((hCp j hj).setOther hRBlt 0 _).setOther hRBlt 1 _) hvk
      have hx9 := (hxr.setCell (p := ⟨RB, 0, none⟩) hRBw (.int .i64 n)).setCell (p := ⟨RB, 1, none⟩) hRBw (.slice oa ol oc)
      have c0 := oO.cell 0
      have c1 := oO.cell 1
      have z1 := oO.lt
      have r0 := oR.cell 0
      have r1 := oR.cell 1
      have f0 := oR.free 0
      have f1 := oR.free 1
      have zr := oR.lt
      clear hO hCp
      go_wp2
      refine bodyPost_ret (v := .agg #[.int .i64 n, .slice oa ol oc]) (by simp [results, Try.results14, go_sem, r0, r1, zr]) rfl ?_
      exact ⟨_, rfl, HD.out, hx9⟩
end Go.Proofs.Yteagoaiiacideaa
