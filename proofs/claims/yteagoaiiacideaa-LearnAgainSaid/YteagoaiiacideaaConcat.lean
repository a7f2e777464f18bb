/- slices.Grow and slices.Concat at slices of lists: two slices, not both empty. No other condition but sizes. -/
import Derived.Test.YteagoaiiacideaaCopy
import Derived.Shelf.Spec.SlicesGrow
import Derived.Shelf.Lay
namespace Go.Proofs.Yteagoaiiacideaa
set_option linter.unusedSimpArgs false
set_option linter.unusedVariables false
open Go.Shelf Go.RowKit
set_option maxRecDepth 20000
shelf_lay_g Lays8.n4 Nm8 4 at Try 71 as Try.growR
/-- Room for n lists: a slice of the call's own without elements. -/
theorem growRow_any (n : Nat) (w : World) (h0 : 0 < n) (hn : n ≤ 100000) :
    Calls Try.prog 71 #[.slice none 0 0, .int .i64 n] w fun e w' => ∃ v, e = .returned v ∧ OwnR w' w.heap.size v [] ∧ Ex w w' := by
  obtain ⟨i0, hi, hz0, hz1, hz2⟩ := info_parts Try.infoRow
  refine (Any8.slices_Grow_grow (P := Try.prog) Try.growR i0 (.slice none 0 0) hi hz0 (by rw [hz1]; decide) none 0 0 n [] w (Nat.le_refl _) (by omega) (by rw [hz2]; omega) (by omega) (by simp) (fun _ => rfl) (fun a h => by cases h)).mono ?_
  rintro e w' ⟨rfl, rfl⟩
  have hge := grownCap_ge w (0 + n) 0 (Try.growR_ren.t 25)
  have hcm : grownCap w (0 + n) 0 (Try.growR_ren.t 25) ≤ maxLen := grownCap_le_maxLen w (0 + n) 0 (Try.growR_ren.t 25) (by unfold maxLen; omega)
  refine ⟨_, rfl, ⟨rfl, .inr ⟨w.heap.size, _, _, rfl, Nat.le_refl _, heap_alloc_new w.drew _, Nat.zero_le _, hcm, ?_, ?_⟩⟩, ?_⟩
  · simp only [Array.size_append, List.size_toArray, size_zeroCells, List.length_nil]
    have : (Value.slice none 0 0).cells.size = 1 := rfl
    rw [this]
    omega
  · simp
  · exact (Ex.refl w).drew.alloc' _
/-- A slice whose cells are these values. -/
def ValsAt (w : World) (v : Value) (vs : List Value) : Prop :=
  ∃ a cap, v = .slice a vs.length cap ∧ vs.length ≤ cap ∧ cap ≤ maxLen ∧ ∀ k, k < vs.length → ∃ b off, a = some ⟨b, off, none⟩ ∧ b < w.heap.size ∧ w.cell? ⟨b, off + k, none⟩ = some (vs.getD k undef)
theorem ValsAt.ex {w w' : World} {v : Value} {vs : List Value} (h : ValsAt w v vs) (hx : Ex w w') : ValsAt w' v vs := by
  obtain ⟨a, cap, hv, h1, h2, h3⟩ := h
  refine ⟨a, cap, hv, h1, h2, fun k hk => ?_⟩
  obtain ⟨b, off, ha, hb, hc⟩ := h3 k hk
  exact ⟨b, off, ha, Nat.lt_of_lt_of_le hb hx.size, ex_cell hc hx⟩
/-- What the rows of a theory are, as values. -/
def RowsOf (w : World) (vs : List Value) (ll : List (List Int)) : Prop := vs.length = ll.length ∧ (∀ u ∈ vs, u.oneCell' = true) ∧ ∀ k, k < ll.length → IntsAt w (vs.getD k undef) (ll.getD k [])
theorem RowsOf.ex {w w' : World} {vs : List Value} {ll : List (List Int)} (h : RowsOf w vs ll) (hx : Ex w w') : RowsOf w' vs ll := ⟨h.1, h.2.1, fun k hk => (h.2.2 k hk).ex hx⟩
theorem rowsOf_vals {w : World} {v : Value} {ll : List (List Int)} (h : RowsAt w v ll) : ∃ vs, ValsAt w v vs ∧ RowsOf w vs ll := by
  obtain ⟨a, cap, rfl, h1, h2, h3⟩ := h
  cases hl : ll with
  | nil =>
    subst hl
    exact ⟨[], ⟨a, cap, rfl, h1, h2, fun k hk => by cases hk⟩, rfl, (fun u hu => by cases hu), (fun k hk => by cases hk)⟩
  | cons c t =>
    rw [← hl]
    obtain ⟨b, off, _, rfl, _⟩ := h3 0 (by rw [hl]; simp)
    have hlen : ((List.range ll.length).map fun k => (w.cell? ⟨b, off + k, none⟩).getD undef).length = ll.length := by simp
    have hget : ∀ k, k < ll.length → ((List.range ll.length).map fun k => (w.cell? ⟨b, off + k, none⟩).getD undef).getD k undef = (w.cell? ⟨b, off + k, none⟩).getD undef := fun k hk => by
      rw [getD_getElem (by rw [hlen]; exact hk)]; simp
    refine ⟨_, ⟨some ⟨b, off, none⟩, cap, by rw [hlen], by rw [hlen]; exact h1, h2, fun k hk => ?_⟩, hlen, ?_, ?_⟩
    · rw [hlen] at hk
      obtain ⟨b', off', rv, e, hb, hc, _⟩ := h3 k hk
      cases e
      refine ⟨b, off, rfl, hb, ?_⟩
      rw [hget k hk, hc]; rfl
    · intro u hu
      obtain ⟨k, hk, rfl⟩ := List.mem_map.1 hu
      obtain ⟨b', off', rv, e, hb, hc, hr⟩ := h3 k (List.mem_range.1 hk)
      cases e
      rw [hc]
      obtain ⟨_, _, rfl, _⟩ := hr
      rfl
    · intro k hk
      obtain ⟨b', off', rv, e, hb, hc, hr⟩ := h3 k hk
      cases e
      rw [hget k hk, hc]
      exact hr
theorem vals_rowsOf {w : World} {v : Value} {vs : List Value} {ll : List (List Int)} (h : ValsAt w v vs) (hr : RowsOf w vs ll) : RowsAt w v ll := by
  obtain ⟨a, cap, rfl, h1, h2, h3⟩ := h
  refine ⟨a, cap, by rw [hr.1], by rw [← hr.1]; exact h1, h2, fun k hk => ?_⟩
  obtain ⟨b, off, ha, hb, hc⟩ := h3 k (by rw [hr.1]; exact hk)
  exact ⟨b, off, _, ha, hb, hc, hr.2.2 k hk⟩
theorem RowsOf.append {w : World} {vs us : List Value} {ll mm : List (List Int)} (h : RowsOf w vs ll) (h' : RowsOf w us mm) : RowsOf w (vs ++ us) (ll ++ mm) := by
  refine ⟨by rw [List.length_append, List.length_append, h.1, h'.1], fun u hu => ?_, fun k hk => ?_⟩
  · rcases List.mem_append.1 hu with hu | hu
    · exact h.2.1 u hu
    · exact h'.2.1 u hu
  · rw [List.length_append] at hk
    by_cases e : k < ll.length
    · rw [getD_getElem (by simp; have := h.1; omega), getD_getElem (by simp; omega), List.getElem_append_left (by have := h.1; omega), List.getElem_append_left e, ← getD_getElem (d := undef) (by have := h.1; omega), ← getD_getElem (d := ([] : List Int)) e]
      exact h.2.2 k e
    · have h1 := h.1
      have h2 := h'.1
      have := h'.2.2 (k - ll.length) (by omega)
      rw [getD_getElem (by omega), getD_getElem (by omega)] at this
      rw [getD_getElem (by simp; omega), getD_getElem (by simp; omega), List.getElem_append_right (by omega), List.getElem_append_right (by omega)]
      simpa [h1] using this
theorem OwnR.vals {w : World} {base : Nat} {v : Value} {vs : List Value} (ho : OwnR w base v vs) : ValsAt w v vs := by
  rcases ho.2 with ⟨rfl, hn⟩ | ⟨g, cap, cur, rfl, _, hg, hc, hm, _, _⟩
  · have : vs = [] := List.length_eq_zero_iff.1 hn
    subst this
    exact ⟨none, 0, rfl, Nat.le_refl _, Nat.zero_le _, fun k hk => by cases hk⟩
  · refine ⟨some ⟨g, 0, none⟩, cap, rfl, hc, hm, fun k hk => ⟨g, 0, rfl, (Array.getElem?_eq_some_iff.1 hg).1, ?_⟩⟩
    have := World.ownsRow.cells (g := g) ho rfl k (vs.getD k undef) (by rw [getD_getElem hk]; exact List.getElem?_eq_getElem hk)
    have ad : (⟨g, 0, none⟩ : Addr).add k = ⟨g, 0 + k, none⟩ := by unfold Addr.add; split <;> simp_all
    rwa [ad] at this
theorem run_append_vals {w : World} {ty : TypeId} {base : Nat} {v sv : Value} {xs ys : List Value} (hown : OwnR w base v xs) (hsrc : ValsAt w sv ys) (hone : ∀ u ∈ ys, u.oneCell' = true) (hlen : xs.length + ys.length ≤ 200000) (hbase : base ≤ w.heap.size) :
    ∃ v' w', (Builtin.append_ #[22, 22] ty #[v, sv]).run Try.prog w = .ok v' w' ∧ OwnR w' base v' (xs ++ ys) ∧ w.grownBy w' v.ownBlock := by
  obtain ⟨i0, hi, hz0, hz1, hz2⟩ := info_parts Try.infoRow
  obtain ⟨a, cap, rfl, h1, h2, h3⟩ := hsrc
  cases a with
  | none =>
    have hy : ys = [] := by
      cases ys with
      | nil => rfl
      | cons y t => obtain ⟨b, off, h, _⟩ := h3 0 (by simp); cases h
    subst hy
    refine ⟨v, w, ?_, by simpa using hown, ⟨rfl, rfl, rfl, Nat.le_refl _, fun _ _ _ => rfl⟩⟩
    simp only [List.length_nil]
    rcases hown.2 with ⟨rfl, _⟩ | ⟨g, cap, cur, rfl, _, _, hnc, _⟩
    · simp [Builtin.append_, run_underlying Try.underlying22, sizeOf, typeInfo, hi, Builtin.lenOf, Builtin.firstCells]
    · simp [Builtin.append_, run_underlying Try.underlying22, sizeOf, typeInfo, hi, Builtin.lenOf, Builtin.firstCells, hnc, storeCells]
  | some ad =>
    have hnews : ∀ j u, ys[j]? = some u → w.cell? (ad.add j) = some u := by
      intro j u hu
      have hj : j < ys.length := (List.getElem?_eq_some_iff.1 hu).1
      obtain ⟨b, off, hh, hb, hc⟩ := h3 j hj
      cases hh
      have e : (⟨b, off, none⟩ : Addr).add j = ⟨b, off + j, none⟩ := by unfold Addr.add; split <;> simp_all
      rw [e, hc, getD_getElem hj, ← hu, List.getElem?_eq_getElem hj]
    obtain ⟨v', w', hr, ho, hg, _, _⟩ := run_append_own_at (P := Try.prog) w base 22 ty 26 i0 (.slice none 0 0) 1 24 Try.underlying22 hi hz0 hz1 hz2 rfl (by decide) v _ _ hown ad ys.length cap ys (by simp) hnews hone (by unfold maxLen; omega) (by omega) hbase
    refine ⟨v', w', hr, ?_, hg⟩
    unfold OwnR
    rw [List.length_append]
    exact ho
theorem wpList_append_vals {w : World} {ops : Array Oper} {rest : List Oper} {o : Oper} {a : Act} {Q : Exit → Act → World → Prop} (hgd : o.guard = none) (s x : Operand)
    (ho : o.op = .call { callee := .builtin .append, args := #[s, x], argTypes := #[22, 22] })
    {base : Nat} {v sv : Value} {xs ys : List Value} (hs : a.eval s = v) (hx : a.eval x = sv) (hown : OwnR w base v xs) (hsrc : ValsAt w sv ys) (hone : ∀ u ∈ ys, u.oneCell' = true) (hlen : xs.length + ys.length ≤ 200000) (hbase : base ≤ w.heap.size)
    (h : ∀ v' w', OwnR w' base v' (xs ++ ys) → w.grownBy w' v.ownBlock → wpList Try.prog ops Q rest (a.put o.dst v') w') : wpList Try.prog ops Q (o :: rest) a w :=
  wpList_plain hgd fun _ hK => by
    obtain ⟨v', w', hr, h2, h3⟩ := run_append_vals (ty := o.type) hown hsrc hone hlen hbase
    unfold Oper.wp execOp
    simp only [ho, resolve, invoke, builtin, Sem.run_bind, Sem.run_pure, Result.andThen_ok, List.map_toArray, List.map_cons, List.map_nil, hs, hx, hr]
    exact hK _ _ (h v' w' h2 h3)
set_option maxRecDepth 100000 in
set_option maxHeartbeats 4000000 in
/-- Two slices of lists in one. -/
theorem concat2_any (B : Nat) (lv1 lv2 : Value) (vs1 vs2 : List Value) (w : World) (h1 : ValsAt w lv1 vs1) (h2 : ValsAt w lv2 vs2) (g1 : ∀ u ∈ vs1, u.oneCell' = true) (g2 : ∀ u ∈ vs2, u.oneCell' = true)
    (c0 : w.cell? ⟨B, 0, none⟩ = some lv1) (c1 : w.cell? ⟨B, 1, none⟩ = some lv2) (hB : B < w.heap.size) (hp : 0 < vs1.length + vs2.length) (hm1 : vs1.length ≤ 5000) (hm2 : vs2.length ≤ 5000) :
    Calls Try.prog 54 #[.slice (some ⟨B, 0, none⟩) 2 2] w fun e w' => ∃ v, e = .returned v ∧ OwnR w' w.heap.size v (vs1 ++ vs2) ∧ Ex w w' := by
  have HG : Hid (∀ (wa : World) (n : Nat), 0 < n → n ≤ 100000 → Calls Try.prog 71 #[.slice none 0 0, .int .i64 n] wa fun e w' => ∃ v, e = .returned v ∧ OwnR w' wa.heap.size v [] ∧ Ex wa w') := fun wa n h0 hn => growRow_any n wa h0 hn
  have HG1 : Hid (∀ u ∈ vs1, u.oneCell' = true) := g1
  have HG2 : Hid (∀ u ∈ vs2, u.oneCell' = true) := g2
  have h10 := h1
  have h20 := h2
  obtain ⟨a1, q1, rfl, _, e1, _⟩ := h1
  obtain ⟨a2, q2, rfl, _, e2, _⟩ := h2
  unfold maxLen at e1 e2
  have H1 : Hid (ValsAt w (.slice a1 vs1.length q1) vs1) := h10
  have H2 : Hid (ValsAt w (.slice a2 vs2.length q2) vs2) := h20
  clear h10 h20 g1 g2
  have hs1 : IntKind.i64.wrap (0 + (vs1.length : Int)) = vs1.length := by rw [Int.zero_add]; exact IntWalk.i64_in _ (by omega)
  have hs2 : IntKind.i64.wrap ((vs1.length : Int) + vs2.length) = ((vs1.length + vs2.length : Nat) : Int) := by rw [IntWalk.i64_in _ (by omega)]; push_cast; rfl
  go_enter Try.func54, Try.ntmps54
  go_wp2
  go_loopw [3, 11] (fun sv kv wr => ∃ k : Nat, k ≤ 2 ∧ kv = .int .i64 k ∧ sv = .int .i64 ((if k = 0 then 0 else if k = 1 then vs1.length else vs1.length + vs2.length : Nat) : Int) ∧ wr = w) (fun _ kv _ => 2 - (intOf kv).toNat)
  case atStart => exact ⟨0, by omega, rfl, rfl, rfl⟩
  case round =>
    obtain ⟨k, hk, rfl, rfl, rfl⟩ := hrel
    rcases (by omega : k = 0 ∨ k = 1 ∨ k = 2) with rfl | rfl | rfl
    · clear HG H1 H2 HG1 HG2
      go_wp2
      go_roundw
      case rel => exact ⟨1, by omega, by go_num, by simp, trivial⟩
      case measure => simp [intOf]
    · clear HG H1 H2 HG1 HG2
      go_wp2
      go_roundw
      case rel => exact ⟨2, by omega, by go_num, by simp, trivial⟩
      case measure => simp [intOf]
    · have hG := HG.out wr (vs1.length + vs2.length) hp (by omega)
      have HGr : Hid _ := hG
      clear HG hG hs1 hs2
      go_wp2_with fail
      refine Calls.mono HGr.out ?_
      rintro e w2 ⟨v2, rfl, ho2, hx2⟩
      obtain ⟨ga, gl, gc, rfl⟩ := ownR_shape ho2
      clear HGr
      go_wp2
      go_loopw [6, 27] (fun v kv ws => ∃ (k : Nat) (vs : List Value), k ≤ 2 ∧ kv = .int .i64 k ∧ OwnR ws wr.heap.size v vs ∧ Hid (vs = if k = 0 then [] else if k = 1 then vs1 else vs1 ++ vs2) ∧ Ex wr ws) (fun _ kv _ => 2 - (intOf kv).toNat)
      case atStart => exact ⟨0, [], by omega, rfl, ho2, rfl, hx2⟩
      case round =>
        clear ho2 hx2
        obtain ⟨k, vs, hk, rfl, hO, hvs, hxs⟩ := hrel
        have c02 := ex_cell c0 hxs
        have c12 := ex_cell c1 hxs
        have hB2 := Nat.lt_of_lt_of_le hB hxs.size
        obtain ⟨oa, ol, oc, rfl⟩ := ownR_shape hO
        have hsz := hxs.size
        rcases (by omega : k = 0 ∨ k = 1 ∨ k = 2) with rfl | rfl | rfl
        · have hv0 : vs = [] := hvs.out
          subst hv0
          go_wp2_with (at_builtin; refine wpList_append_vals rfl (.tmp 31) (.tmp 32) rfl rfl rfl hO (H1.out.ex hxs) HG1.out ?c1 hsz ?_)
          case c1 => first | omega | (simp; omega)
          intro v9 w9 hown9 hg9
          have hx9 := grown_ex hxs hg9 (ownsRow_block hO)
          have hv9 : Hid (([] : List Value) ++ vs1 = if (0 + 1 : Nat) = 0 then [] else if (0 + 1 : Nat) = 1 then vs1 else vs1 ++ vs2) := by show _ = _; simp
          clear hg9 hO hvs
          go_wp2
          go_roundw
          case rel => exact ⟨0 + 1, [] ++ vs1, by omega, by go_num, hown9, hv9, hx9⟩
          case measure => simp [intOf]
        · have hv0 : vs = vs1 := hvs.out
          subst hv0
          go_wp2_with (at_builtin; refine wpList_append_vals rfl (.tmp 31) (.tmp 32) rfl rfl rfl hO (H2.out.ex hxs) HG2.out ?c2 hsz ?_)
          case c2 => omega
          intro v9 w9 hown9 hg9
          have hx9 := grown_ex hxs hg9 (ownsRow_block hO)
          have hv9 : Hid (vs ++ vs2 = if (1 + 1 : Nat) = 0 then [] else if (1 + 1 : Nat) = 1 then vs else vs ++ vs2) := by show _ = _; simp
          clear hg9 hO hvs
          go_wp2
          go_roundw
          case rel => exact ⟨1 + 1, vs ++ vs2, by omega, by go_num, hown9, hv9, hx9⟩
          case measure => first | (simp [intOf]; done) | omega | decide
        · have hv0 : vs = vs1 ++ vs2 := hvs.out
          subst hv0
          go_wp2
          go_ret
          exact ⟨_, rfl, hO, hxs⟩
end Go.Proofs.Yteagoaiiacideaa
