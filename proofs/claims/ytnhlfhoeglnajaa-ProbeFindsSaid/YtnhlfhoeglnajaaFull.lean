/- append of one integer onto a slice that is full (a three-index slice): a new block. No condition. -/
import Derived.Test.YtnhlfhoeglnajaaG2
import Derived.Deep.RegionLaw
namespace Go.Proofs.Ytnhlfhoeglnajaa
set_option linter.unusedSimpArgs false
set_option linter.unusedVariables false
open Go.RowKit
set_option maxRecDepth 20000
theorem run_append_full {w : World} {ty : TypeId} {a : Option Addr} {n : Nat} {xs : List Int} {sv : Value} {x : Int} (hown : IntsAt w (.slice a n n) xs) (hsrc : IntsAt w sv [x]) (hlen : (n + 1) * 8 ≤ 140737488355328) :
    ∃ v' w', (Builtin.append_ #[25, 25] ty #[.slice a n n, sv]).run Try.prog w = .ok v' w' ∧ OwnI w' w.heap.size v' (xs ++ [x]) ∧ Ex w w' := by
  obtain ⟨a1, cap1, hv1, g1, g2, g3⟩ := hown
  cases hv1
  cases a with
  | none =>
    have hy : xs = [] := by
      cases xs with
      | nil => rfl
      | cons y t => obtain ⟨b, off, h, _⟩ := g3 0 (by simp); cases h
    subst hy
    obtain ⟨v', w', hr, ho, hg⟩ := run_append_ints (ty := ty) (base := w.heap.size) (OwnI.nil w w.heap.size) hsrc (by simp) (Nat.le_refl _)
    exact ⟨v', w', hr, ho, grown_ex (Ex.refl w) hg (by intro k h; cases h)⟩
  | some ad =>
    obtain ⟨i0, hi, hz0, hz1, hz2⟩ := info_parts Try.infoInt
    obtain ⟨a2, cap2, rfl, k1, k2, k3⟩ := hsrc
    obtain ⟨b2, off2, rfl, hb2, hc2⟩ := k3 0 (by simp)
    have hnews : ∀ j u, (intsV [x])[j]? = some u → w.cell? ((⟨b2, off2, none⟩ : Addr).add j) = some u := by
      intro j u hu
      have hj : j < 1 := by
        have := (List.getElem?_eq_some_iff.1 hu).1
        simpa [intsV] using this
      obtain rfl : j = 0 := by omega
      have e : (⟨b2, off2, none⟩ : Addr).add 0 = ⟨b2, off2, none⟩ := by unfold Addr.add; split <;> simp_all
      rw [e]
      simp [intsV] at hu
      subst hu
      simpa using hc2
    have holds : ∀ j u, (intsV xs)[j]? = some u → w.cell? (ad.add j) = some u := by
      intro j u hu
      have hj : j < xs.length := by
        have := (List.getElem?_eq_some_iff.1 hu).1
        simpa [intsV] using this
      obtain ⟨b, off, hh, hb, hc⟩ := g3 j hj
      cases hh
      have e : (⟨b, off, none⟩ : Addr).add j = ⟨b, off + j, none⟩ := by unfold Addr.add; split <;> simp_all
      rw [e, hc]
      simp [intsV, List.getElem?_eq_getElem hj] at hu
      rw [← hu, getD_getElem hj]
    have h63 : xs.length + 1 ≤ maxLen := by unfold maxLen; omega
    have hr := run_append_grow (P := Try.prog) w 25 ty 3 i0 (.int .i64 0) Try.underlying25 hi hz0 ad xs.length xs.length (intsV xs) (by simp [intsV, hz1]) holds ⟨b2, off2, none⟩ 1 cap2 (intsV [x]) (by simp [intsV, hz1]) hnews (by omega) (by unfold maxLen at h63; omega) (growslice_fits (by omega) (by rw [hz2]; exact hlen))
    refine ⟨_, _, hr, ⟨by simp [intsV], .inr ⟨w.heap.size, _, _, by rw [List.length_append]; rfl, Nat.le_refl _, heap_alloc_new w.drew _, by rw [List.length_append]; exact grownCap_ge w (xs.length + 1) xs.length 3, grownCap_le_maxLen w _ _ _ h63, ?_, ?_⟩⟩, ((Ex.refl w).drew).alloc' _⟩
    · have hge := grownCap_ge w (xs.length + 1) xs.length 3
      simp only [Array.size_append, List.size_toArray, size_zeroCells, intsV, List.length_map, List.length_cons, List.length_nil, Value.cells]
      simp
      omega
    · simp only [Array.toList_append, List.append_assoc]
      rw [← List.append_assoc]
      have e : (xs ++ [x]).length * 1 = (intsV xs ++ intsV [x]).length := by simp [intsV]
      rw [e, show intsV (xs ++ [x]) = intsV xs ++ intsV [x] from by simp [intsV]]
      exact List.take_left
theorem wp_append_full {w : World} {o : Oper} {a : Act} {K : Act → World → Prop} {Q : Exit → Act → World → Prop} (s x : Operand)
    (ho : o.op = .call { callee := .builtin .append, args := #[s, x], argTypes := #[25, 25] })
    {p : Option Addr} {n : Nat} {sv : Value} {xs : List Int} {y : Int} (hs : a.eval s = .slice p n n) (hx : a.eval x = sv) (hown : IntsAt w (.slice p n n) xs) (hsrc : IntsAt w sv [y]) (hlen : (n + 1) * 8 ≤ 140737488355328)
    (h : ∀ v' w', OwnI w' w.heap.size v' (xs ++ [y]) → Ex w w' → K (a.put o.dst v') w') : o.wp Try.prog a w K Q := by
  obtain ⟨v', w', hr, h2, h3⟩ := run_append_full (ty := o.type) hown hsrc hlen
  unfold Oper.wp execOp
  simp only [ho, resolve, invoke, builtin, Sem.run_bind, Sem.run_pure, Result.andThen_ok, List.map_toArray, List.map_cons, List.map_nil, hs, hx, hr]
  exact h v' w' h2 h3
/-- As one step of a region that draws. -/
theorem step_append_full {w : World} {ops : Array Oper} {o : Oper} {a : Act} {K : Act → World → Prop} {Q : Exit → Act → World → Prop} {E : Prop} (hg : o.guard = none) (s x : Operand)
    (ho : o.op = .call { callee := .builtin .append, args := #[s, x], argTypes := #[25, 25] })
    {p : Option Addr} {n : Nat} {sv : Value} {xs : List Int} {y : Int} (hs : a.eval s = .slice p n n) (hx : a.eval x = sv) (hown : IntsAt w (.slice p n n) xs) (hsrc : IntsAt w sv [y]) (hlen : (n + 1) * 8 ≤ 140737488355328)
    (h : ∀ v' w', OwnI w' w.heap.size v' (xs ++ [y]) → Ex w w' → K (a.put o.dst v') w') : if Region.wanted o (yielded ops a.tmps) = true then Oper.wp Try.prog o a w K Q else E := by
  have hw : Region.wanted o (yielded ops a.tmps) = true := by simp [Region.wanted, hg]
  rw [if_pos hw]
  exact wp_append_full s x ho hs hx hown hsrc hlen h
theorem wpList_append_full {w : World} {ops : Array Oper} {rest : List Oper} {o : Oper} {a : Act} {Q : Exit → Act → World → Prop} (hgd : o.guard = none) (s x : Operand)
    (ho : o.op = .call { callee := .builtin .append, args := #[s, x], argTypes := #[25, 25] })
    {p : Option Addr} {n : Nat} {sv : Value} {xs : List Int} {y : Int} (hs : a.eval s = .slice p n n) (hx : a.eval x = sv) (hown : IntsAt w (.slice p n n) xs) (hsrc : IntsAt w sv [y]) (hlen : (n + 1) * 8 ≤ 140737488355328)
    (h : ∀ v' w', OwnI w' w.heap.size v' (xs ++ [y]) → Ex w w' → wpList Try.prog ops Q rest (a.put o.dst v') w') : wpList Try.prog ops Q (o :: rest) a w :=
  wpList_plain hgd fun _ hK => wp_append_full s x ho hs hx hown hsrc hlen fun v' w' h2 h3 => hK _ _ (h v' w' h2 h3)
end Go.Proofs.Ytnhlfhoeglnajaa
