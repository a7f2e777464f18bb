/- Behind `append(old, x)` the old slice is still the call's own. -/
import Derived.Test.YteagoaiiacideaaG2
import Derived.Maps.AppendAt
namespace Go.Proofs.Yteagoaiiacideaa
set_option linter.unusedSimpArgs false
set_option linter.unusedVariables false
open Go.RowKit
set_option maxRecDepth 20000
theorem run_append_int_old {w w' : World} {ty : TypeId} {base b : Nat} {v v' : Value} {x : Int} {xs : List Int} (hown : OwnI w base v xs) (hn : w.cell? ⟨b, 0, none⟩ = some (.int .i64 x)) (hlen : xs.length ≤ 100000)
    (hr : (Builtin.append_ #[26, 26] ty #[v, .slice (some ⟨b, 0, none⟩) 1 1]).run Try.prog w = .ok v' w') : OwnI w' base v xs := by
  obtain ⟨i0, hi, hz0, hz1, hz2⟩ := info_parts Try.infoInt
  have hnews : ∀ j u, [Value.int .i64 x][j]? = some u → w.cell? ((⟨b, 0, none⟩ : Addr).add j) = some u := fun j u hx => by
    cases j with
    | zero => simp at hx; subst hx; simpa [Addr.add] using hn
    | succ j => simp at hx
  have h1 : ∀ u ∈ [Value.int .i64 x], u.oneCell' = true := fun u hu => by rw [List.mem_singleton] at hu; rw [hu]; rfl
  have ho2 := hown.2
  have hx1 : (intsV xs).length = xs.length * 1 := hown.1
  rcases ho2 with ⟨rfl, h0⟩ | ⟨g, cap, cur, rfl, hbg, hg, hnc, hcm, hcs, htake⟩
  · have : xs = [] := List.length_eq_zero_iff.1 h0
    subst this
    exact OwnI.nil _ _
  · by_cases hroom : xs.length + 1 ≤ cap
    · have hr2 := run_append_room (P := Try.prog) w 26 ty 3 i0 Try.underlying26 hi g xs.length cap cur hg ⟨b, 0, none⟩ 1 1 [.int .i64 x] (by rw [hz1]; rfl) hnews h1 hroom (by rw [hz1, hcs]; simp; omega)
      rw [hr2] at hr
      cases hr
      refine ⟨hown.1, .inr ⟨g, cap, _, rfl, hbg, setRow_heap w g cur _ _ _ hg, hnc, hcm, ?_, ?_⟩⟩
      · have hcl : cur.toList.length = cur.size := Array.length_toList
        simp only [List.size_toArray, List.length_append, List.length_take, List.length_drop, hz1, hcl, List.length_cons, List.length_nil]
        omega
      · rw [hz1, htake, ← hx1]
        simp
    · have holds : ∀ j u, (intsV xs)[j]? = some u → w.cell? ((⟨g, 0, none⟩ : Addr).add j) = some u := hown.cells (g := g) rfl
      have hr2 := run_append_grow (P := Try.prog) w 26 ty 3 i0 (.int .i64 0) Try.underlying26 hi hz0 ⟨g, 0, none⟩ xs.length cap (intsV xs) (by rw [hz1]; exact hown.1) holds ⟨b, 0, none⟩ 1 1 [.int .i64 x] (by rw [hz1]; rfl) hnews (by omega) (by omega) (growslice_fits (by omega) (by rw [hz2]; omega))
      rw [hr2] at hr
      cases hr
      have hlt : g < w.heap.size := (Array.getElem?_eq_some_iff.1 hg).1
      exact ⟨hown.1, .inr ⟨g, cap, cur, rfl, hbg, (heap_alloc_old w.drew _ (show g < w.drew.heap.size from hlt)).trans hg, hnc, hcm, hcs, htake⟩⟩
/-- As one step of a region that draws: both slices are owned behind it. -/
theorem step_append_old {w : World} {ops : Array Oper} {o : Oper} {a : Act} {K : Act → World → Prop} {Q : Exit → Act → World → Prop} {E : Prop} (hg : o.guard = none) (s x : Operand)
    (ho : o.op = .call { callee := .builtin .append, args := #[s, x], argTypes := #[26, 26] })
    {base b : Nat} {v : Value} {xs : List Int} {y : Int} (hs : a.eval s = v) (hx : a.eval x = .slice (some ⟨b, 0, none⟩) 1 1) (hown : OwnI w base v xs) (hI : IntsAt w (.slice (some ⟨b, 0, none⟩) 1 1) [y]) (hlen : xs.length ≤ 100000) (hbase : base ≤ w.heap.size)
    (h : ∀ v' w', OwnI w' base v' (xs ++ [y]) → OwnI w' base v xs → w.grownBy w' v.ownBlock → K (a.put o.dst v') w') : if Region.wanted o (yielded ops a.tmps) = true then Oper.wp Try.prog o a w K Q else E := by
  have hw : Region.wanted o (yielded ops a.tmps) = true := by simp [Region.wanted, hg]
  rw [if_pos hw]
  obtain ⟨v', w', hr, h2, h3, _⟩ := run_append_ints' (ty := o.type) hown hI (by simp only [List.length_cons, List.length_nil]; omega) hbase
  have hn : w.cell? ⟨b, 0, none⟩ = some (.int .i64 y) := by
    obtain ⟨_, _, ev, _, _, h3⟩ := hI
    cases ev
    obtain ⟨_, _, e, _, hc⟩ := h3 0 (by simp)
    cases e
    exact hc
  have hold := run_append_int_old hown hn hlen hr
  unfold Oper.wp execOp
  simp only [ho, resolve, invoke, builtin, Sem.run_bind, Sem.run_pure, Result.andThen_ok, List.map_toArray, List.map_cons, List.map_nil, hs, hx, hr]
  exact h v' w' h2 hold h3
end Go.Proofs.Yteagoaiiacideaa
