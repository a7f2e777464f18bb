/- theory.Join of two theories without errors, with at least one clause and few enough: the greater number of variables, the clauses of both. -/
import Derived.Test.YteagoaiiacideaaConcat
import Derived.Deep.RegionLaw
namespace Go.Proofs.Yteagoaiiacideaa
set_option linter.unusedSimpArgs false
set_option linter.unusedVariables false
open Go.RowKit
set_option maxRecDepth 20000
/-- What Join hands back. -/
def JoinRet (w : World) (n : Int) (ll : List (List Int)) (e : Ending) (w' : World) : Prop := ∃ lv, e = .returned (.tuple #[.agg #[.int .i64 n, lv], .int .i64 0]) ∧ RowsAt w' lv ll ∧ Ex w w'
set_option maxRecDepth 100000 in
set_option maxHeartbeats 4000000 in
theorem theoryJoin_any (n n2 : Int) (lv lv2 : Value) (ll ll2 : List (List Int)) (w : World) (hR : RowsAt w lv ll) (hR2 : RowsAt w lv2 ll2) (he : theoryErr n ll = 0) (he2 : theoryErr n2 ll2 = 0) (hp : 0 < ll.length + ll2.length) (hm : ll.length + ll2.length ≤ 4096) (hcl : ∀ c ∈ ll ++ ll2, c.length ≤ 1000) :
    Calls Try.prog 30 #[.agg #[.int .i64 n, lv], .agg #[.int .i64 n2, lv2]] w (JoinRet w (max n n2) (ll ++ ll2)) := by
  have HCk : Hid (∀ wa, Ex w wa → Calls Try.prog 49 #[.agg #[.int .i64 n, lv]] wa fun e w' => e = .returned (.int .i64 0) ∧ Ex wa w') := fun wa hx => by
    have := theoryCheck_any n lv ll wa (hR.ex hx)
    rwa [he] at this
  have HCk2 : Hid (∀ wa, Ex w wa → Calls Try.prog 49 #[.agg #[.int .i64 n2, lv2]] wa fun e w' => e = .returned (.int .i64 0) ∧ Ex wa w') := fun wa hx => by
    have := theoryCheck_any n2 lv2 ll2 wa (hR2.ex hx)
    rwa [he2] at this
  obtain ⟨vs1, hv1, ho1⟩ := rowsOf_vals hR
  obtain ⟨vs2, hv2, ho2⟩ := rowsOf_vals hR2
  have HCo : Hid (∀ wa B, Ex w wa → wa.cell? ⟨B, 0, none⟩ = some lv → wa.cell? ⟨B, 1, none⟩ = some lv2 → B < wa.heap.size → Calls Try.prog 54 #[.slice (some ⟨B, 0, none⟩) 2 2] wa fun e w' => ∃ v, e = .returned v ∧ OwnR w' wa.heap.size v (vs1 ++ vs2) ∧ Ex wa w') := fun wa B hx c0 c1 hB => concat2_any B lv lv2 vs1 vs2 wa (hv1.ex hx) (hv2.ex hx) ho1.2.1 ho2.2.1 c0 c1 hB (by rw [ho1.1, ho2.1]; exact hp) (by rw [ho1.1]; omega) (by rw [ho2.1]; omega)
  have HRo : Hid (RowsOf w (vs1 ++ vs2) (ll ++ ll2)) := ho1.append ho2
  have HLen : Hid (∀ k, k < (ll ++ ll2).length → ((ll ++ ll2).getD k []).length ≤ 1000) := fun k hk => hcl _ (by rw [getD_getElem hk]; exact List.getElem_mem hk)
  have hlen : (ll ++ ll2).length = ll.length + ll2.length := List.length_append
  obtain ⟨ra, rcap, rfl, r1, r2, r3⟩ := hR
  obtain ⟨sa, scap, rfl, s1, s2, s3⟩ := hR2
  unfold maxLen at r2 s2
  clear r3 s3 hv1 hv2 ho1 ho2 hcl
  generalize vs1 ++ vs2 = VS at *
  generalize ll ++ ll2 = LL at *
  have n1 := (theoryErr_zero he).1
  have n3 := (theoryErr_zero he2).1
  obtain ⟨mx, hmx⟩ : ∃ mx, max n n2 = mx := ⟨_, rfl⟩
  have HMx : Hid (max n n2 = mx) := hmx
  have hsum : IntKind.i64.wrap ((ll.length : Int) + ll2.length) = (ll.length : Int) + ll2.length := IntWalk.i64_in _ (by omega)
  have o2 := ((OwnB.new w [.int .i64 n, .slice ra ll.length rcap] 24).ex (Ex.alloc _ (.cells #[.int .i64 n2, .slice sa ll2.length scap] 24))).ex (Ex.alloc _ (.cells #[.int .i64 0, .slice none 0 0] 24))
  have o3 := (OwnB.new (w.alloc (.cells #[.int .i64 n, .slice ra ll.length rcap] 24)) [.int .i64 n2, .slice sa ll2.length scap] 24).ex (Ex.alloc _ (.cells #[.int .i64 0, .slice none 0 0] 24))
  have oR := OwnB.new ((w.alloc (.cells #[.int .i64 n, .slice ra ll.length rcap] 24)).alloc (.cells #[.int .i64 n2, .slice sa ll2.length scap] 24)) [.int .i64 0, .slice none 0 0] 24
  have hx0 := ((Ex.alloc w (.cells #[.int .i64 n, .slice ra ll.length rcap] 24)).alloc' (.cells #[.int .i64 n2, .slice sa ll2.length scap] 24)).alloc' (.cells #[.int .i64 0, .slice none 0 0] 24)
  simp only [alloc_size] at o3 oR
  go_enter Try.func30, Try.ntmps30
  go_wp2
  generalize hw1 : (((w.alloc (.cells #[.int .i64 n, .slice ra ll.length rcap] 24)).alloc (.cells #[.int .i64 n2, .slice sa ll2.length scap] 24)).alloc (.cells #[.int .i64 0, .slice none 0 0] 24)).alloc (.cells #[.int .i64 n, .slice ra ll.length rcap, .int .i64 n2, .slice sa ll2.length scap] 24) = w1
  replace o2 := o2.ex (Ex.alloc _ (.cells #[.int .i64 n, .slice ra ll.length rcap, .int .i64 n2, .slice sa ll2.length scap] 24))
  replace o3 := o3.ex (Ex.alloc _ (.cells #[.int .i64 n, .slice ra ll.length rcap, .int .i64 n2, .slice sa ll2.length scap] 24))
  replace oR := oR.ex (Ex.alloc _ (.cells #[.int .i64 n, .slice ra ll.length rcap, .int .i64 n2, .slice sa ll2.length scap] 24))
  have oS := OwnB.new (((w.alloc (.cells #[.int .i64 n, .slice ra ll.length rcap] 24)).alloc (.cells #[.int .i64 n2, .slice sa ll2.length scap] 24)).alloc (.cells #[.int .i64 0, .slice none 0 0] 24)) [.int .i64 n, .slice ra ll.length rcap, .int .i64 n2, .slice sa ll2.length scap] 24
  replace hx0 := hx0.alloc' (.cells #[.int .i64 n, .slice ra ll.length rcap, .int .i64 n2, .slice sa ll2.length scap] 24)
  simp only [alloc_size] at oS
  rw [hw1] at o2 o3 oR oS hx0
  have hsz : w1.heap.size = w.heap.size + 4 := by rw [← hw1, alloc_size, alloc_size, alloc_size, alloc_size]
  clear hw1
  obtain ⟨SB, hSB⟩ : ∃ SB, SB = w.heap.size + 1 + 1 + 1 := ⟨_, rfl⟩
  obtain ⟨RB, hRB⟩ : ∃ RB, RB = w.heap.size + 1 + 1 := ⟨_, rfl⟩
  obtain ⟨UB, hUB⟩ : ∃ UB, UB = w.heap.size + 1 := ⟨_, rfl⟩
  rw [← hSB] at oS ⊢
  rw [← hRB] at oR ⊢
  rw [← hUB] at o3 ⊢
  have HRB : Hid (RB = w.heap.size + 1 + 1) := hRB
  clear hSB hRB hUB
  go_loopw [16] (fun kv wr => ∃ k : Nat, k ≤ 2 ∧ kv = .int .i64 k ∧ Ex w1 wr) (fun kv _ => 2 - (intOf kv).toNat)
  case atStart => exact ⟨0, by omega, rfl, Ex.refl _⟩
  case round =>
    obtain ⟨k, hk, rfl, hxr⟩ := hrel
    have oSr := oS.ex hxr
    have s0 := oSr.cell 0
    have s1' := oSr.cell 1
    have s2' := oSr.cell 2
    have s3 := oSr.cell 3
    have zs := oSr.lt
    rcases (by omega : k = 0 ∨ k = 1 ∨ k = 2) with rfl | rfl | rfl
    · have hC : Hid _ := HCk.out _ (hx0.trans (hxr.alloc' (.cells #[.int .i64 n, .slice ra ll.length rcap] 24)))
      have hx1 := hxr.alloc' (.cells #[.int .i64 n, .slice ra ll.length rcap] 24)
      clear HCk HCk2 HCo HRo HLen
      go_wp2_with fail
      refine Calls.mono hC.out ?_
      rintro e w2 ⟨rfl, hx2⟩
      go_wp2
      go_roundw
      case rel => exact ⟨0 + 1, by omega, by go_num, hx1.trans hx2⟩
      case measure => first | (simp [intOf]; done) | omega | decide
    · have hC : Hid _ := HCk2.out _ (hx0.trans (hxr.alloc' (.cells #[.int .i64 n2, .slice sa ll2.length scap] 24)))
      have hx1 := hxr.alloc' (.cells #[.int .i64 n2, .slice sa ll2.length scap] 24)
      clear HCk HCk2 HCo HRo HLen
      go_wp2_with fail
      refine Calls.mono hC.out ?_
      rintro e w2 ⟨rfl, hx2⟩
      go_wp2
      go_roundw
      case rel => exact ⟨1 + 1, by omega, by go_num, hx1.trans hx2⟩
      case measure => first | (simp [intOf]; done) | omega | decide
    · have a0 := (o2.ex hxr).cell 0
      have a1 := (o2.ex hxr).cell 1
      have za := (o2.ex hxr).lt
      have b0 := (o3.ex hxr).cell 0
      have b1 := (o3.ex hxr).cell 1
      have zb := (o3.ex hxr).lt
      have hle : (ll.length : Int) + ll2.length ≤ 4096 := by omega
      have hsr := hxr.size
      have oC := OwnB.new (wr.alloc (.cells #[.int .i64 mx, .slice none 0 0] 24)) [.slice ra ll.length rcap, .slice sa ll2.length scap] 22
      have hx5 := ((hx0.trans hxr).alloc' (.cells #[.int .i64 mx, .slice none 0 0] 24)).alloc' (.cells #[.slice ra ll.length rcap, .slice sa ll2.length scap] 22)
      have oO := (OwnB.new wr [.int .i64 mx, .slice none 0 0] 24).ex (Ex.alloc _ (.cells #[.slice ra ll.length rcap, .slice sa ll2.length scap] 22))
      have oR5 := (oR.ex hxr).ex ((Ex.alloc wr (.cells #[.int .i64 mx, .slice none 0 0] 24)).alloc' (.cells #[.slice ra ll.length rcap, .slice sa ll2.length scap] 22))
      simp only [alloc_size] at oC
      have hC : Hid _ := HCo.out _ _ hx5 (oC.cell 0) (oC.cell 1) oC.lt
      have hRBw : RB < wr.heap.size := (oR.ex hxr).lt
      have hRBl : w.heap.size ≤ RB := by have := HRB.out; omega
      clear HCk HCk2 HCo s0 s1' s2' s3 zs oSr oS oC
      go_wp2_with fail
      refine Calls.mono hC.out ?_
      rintro e w5 ⟨v5, rfl, ho5, hx35⟩
      obtain ⟨va, vc, rfl, vq, vm, _⟩ := id ho5.vals
      unfold maxLen at vm
      have oO5 := oO.ex hx35
      have oR6 := oR5.ex hx35
      have hx05 := hx5.trans hx35
      have HVlt : Hid (∀ g, (Value.slice va VS.length vc).ownBlock = some g → g < w5.heap.size) := fun g hg => (World.ownsRow.lt ho5 g hg).2
      have hV0 : OwnR w5 (wr.heap.size + 1) (.slice va VS.length vc) VS := ownsRow_base ho5 (by rw [alloc_size, alloc_size]; exact Nat.le_succ _)
      clear hC hx5 oO oR5 ho5
      obtain ⟨OB, hOB⟩ : ∃ OB, OB = wr.heap.size := ⟨_, rfl⟩
      rw [← hOB] at oO5 hV0 hRBw
      rw [← hOB]
      have hne : RB ≠ OB := by omega
      have hOBw : w.heap.size ≤ OB := by omega
      have hOB5 : OB < w5.heap.size := oO5.lt
      have hRB5 : RB < w5.heap.size := by omega
      have hVL : VS.length = LL.length := HRo.out.1
      have hVs : VS.length ≤ 4096 := by omega
      clear hOB o2 o3 oR a0 a1 za b0 b1 zb hsum hmx hlen
      go_wp2
      go_loopw [49] (fun iv ws => ∃ k : Nat, k ≤ VS.length ∧ iv = .int .i64 k ∧ Ex w ws ∧ w5.heap.size ≤ ws.heap.size ∧ OwnB ws RB [.int .i64 0, .slice none 0 0] 24 ∧ OwnR ws (OB + 1) (.slice va VS.length vc) VS ∧ ∃ ov vs, vs.length = k ∧ OwnB ws OB [.int .i64 mx, ov] 24 ∧ OwnR ws w5.heap.size ov vs ∧ CopiesAt ws w5.heap.size vs LL) (fun iv _ => VS.length - (intOf iv).toNat)
      case atStart => exact ⟨0, Nat.zero_le _, rfl, hx05, Nat.le_refl _, oR6, hV0, _, [], rfl, oO5, OwnR.nil _ _, fun j hj => by cases hj⟩
      case round =>
        clear oO5 oR6 hx05 hV0 hx35 hxr hx0
        obtain ⟨k, hk, rfl, hxq, hsz5, oR, hV, ov, vs, hvk, oO, hO, hCp⟩ := hrel
        by_cases hlt : k < VS.length
        · obtain ⟨_, _, ev, _, _, e3⟩ := hV.vals
          cases ev
          obtain ⟨b, off, rfl, hb, hcell⟩ := e3 k hlt
          have hrow := (HRo.out.2.2 k (by omega)).ex hxq
          have hlen := HLen.out k (by omega)
          obtain ⟨row, hrw⟩ : ∃ row, row = LL.getD k [] := ⟨_, rfl⟩
          rw [← hrw] at hrow hlen
          have HRw : Hid (row = LL.getD k []) := hrw
          clear e3 hrw HLen
          generalize VS.getD k undef = u at *
          have HCl : Hid (∀ wa, Ex wr wa → Calls Try.prog 55 #[u] wa fun e w' => ∃ v, e = .returned v ∧ OwnI w' wa.heap.size v row ∧ Ex wa w') := fun wa hx => slicesClone_any u row wa (hrow.ex hx) (by omega)
          obtain ⟨rpa, rpc, rfl, _, _, _⟩ := hrow
          have c0 := oO.cell 0
          have c1 := oO.cell 1
          have f1 := oO.free 1
          have z1 := oO.lt
          have q1 : (k : Int) < (VS.length : Int) := by omega
          have HVk : Hid (vs.length = k) := hvk
          have e1 : vs.length ≤ 100000 := by omega
          obtain ⟨oa, ol, oc, rfl⟩ := ownR_shape hO
          clear hvk hlen
          go_wp2
          go_region_law (first | (refine step_append_row (u := .slice p5 row.length q5) (by rfl) (.tmp 54) (.tmp 57) (by rfl) (by rfl) (by rfl) (hO6.ex (Ex.alloc _ _)) (by rfl) ((OwnB.new w6 [.slice p5 row.length q5] _).cell 0) e1 (e2 _) ?_; intro v7 w7 hown7 hg7; obtain ⟨a7, l7, c7, rfl⟩ := ownR_shape hown7; have oO7 := own_grown (oO6.ex (Ex.alloc w6 _)) hg7 (fun e => ownR_ne hO6 hOB5 e.symm); have c17 := oO7.cell 1; have f17 := oO7.free 1; have z17 := oO7.lt) | (go_simp; go_at_call 55; refine (HCl.out _ ((Ex.refl _).drew)).mono ?_; rintro e w6 ⟨v6, rfl, ho6, hx6⟩; have hx56 : Ex wr w6 := ((Ex.refl _).drew).trans hx6; obtain ⟨p5, q5, rfl, _, _, _⟩ := id ho6.ints; have hO6 := hO.ex hx56; have oO6 := oO.ex hx56; have c15 := oO6.cell 1; have z15 := oO6.lt; have e2 : ∀ o, w5.heap.size ≤ (w6.alloc o).heap.size := (fun o => by rw [alloc_size]; have := hx56.size; omega)))
          all_goals (
            have hCp7 : CopiesAt (w7.setCell ⟨OB, 1, none⟩ (.slice a7 l7 c7)) w5.heap.size (vs ++ [.slice p5 row.length q5]) LL := fun j hj => by
              rw [List.length_append, List.length_cons, List.length_nil] at hj
              by_cases e : j < vs.length
              · rw [getD_getElem (by simp; omega), List.getElem_append_left e, ← getD_getElem (d := undef) e]
                exact (((hCp j e).ex hx56).ex (Ex.alloc w6 _) |>.beside (hO6.ex (Ex.alloc w6 _)) hg7).setOther hOB5 1 (.slice a7 l7 c7)
              · obtain rfl : j = vs.length := by omega
                have g1 : (vs ++ [Value.slice p5 row.length q5]).getD vs.length undef = .slice p5 row.length q5 := by rw [getD_getElem (by simp)]; simp
                have g2 : LL.getD vs.length [] = row := by rw [HVk.out, ← HRw.out]
                rw [g1, g2]
                exact ((ho6.base (show w5.heap.size ≤ _ from hsz5)).ex (Ex.alloc w6 _) |>.beside (hO6.ex (Ex.alloc w6 _)) hg7).setOther hOB5 1 (.slice a7 l7 c7)
            have hO8 : OwnR (w7.setCell ⟨OB, 1, none⟩ (.slice a7 l7 c7)) w5.heap.size (.slice a7 l7 c7) (vs ++ [.slice p5 row.length q5]) := ownsRow_setCell_below hown7 hOB5 (.slice a7 l7 c7)
            have oO8 := oO7.set 1 (.slice a7 l7 c7)
            have hx8 : Ex w (w7.setCell ⟨OB, 1, none⟩ (.slice a7 l7 c7)) := (grown_ex ((hxq.trans hx56).alloc' _) hg7 (ownsRow_block (ownsRow_base hO6 (by omega)))).setCell hOBw _
            have hs8 : w5.heap.size ≤ (w7.setCell ⟨OB, 1, none⟩ (.slice a7 l7 c7)).heap.size := by have := hg7.size; have := e2 (.cells #[.slice p5 row.length q5] 26); simp [World.setCell] at *; omega
            have hl8 : (vs ++ [Value.slice p5 row.length q5]).length = k + 1 := by rw [List.length_append, HVk.out]; rfl
            have oR8 := (own_grown ((oR.ex hx56).ex (Ex.alloc w6 _)) hg7 (fun e => ownR_ne hO6 hRB5 e.symm)).set_other (c := OB) 1 (.slice a7 l7 c7) hne.symm
            have hV8 : OwnR (w7.setCell ⟨OB, 1, none⟩ (.slice a7 l7 c7)) (OB + 1) (.slice (some ⟨b, off, none⟩) VS.length vc) VS := ownsRow_setCell_below (World.ownsRow.kept ((hV.ex hx56).ex (Ex.alloc w6 _)) hg7 (.inr fun e => by
              have h1 := HVlt.out b rfl
              have h2 := ownsRow_block hO6 b e.symm
              omega)) (Nat.lt_succ_self _) (.slice a7 l7 c7)
            clear oO7 c17 f17 z17 c15 z15 oO6 hO6 ho6 c0 c1 f1 z1 hCp hO oO hV oR HVlt HCl HRw
            go_wp2
            go_roundw
            all_goals first | exact ⟨k + 1, by omega, by go_num, hx8, hs8, oR8, hV8, (.slice a7 l7 c7), _, hl8, oO8, hO8, hCp7⟩ | (simp [intOf]; omega))
        · obtain rfl : k = VS.length := by omega
          obtain ⟨oa, ol, oc, rfl⟩ := ownR_shape hO
          have HD : Hid (RowsAt ((wr.setCell ⟨RB, 0, none⟩ (.int .i64 mx)).setCell ⟨RB, 1, none⟩ (.slice oa ol oc)) (.slice oa ol oc) LL) := rows_done (ownsRow_setCell_below (ownsRow_setCell_below hO hRB5 _) hRB5 _) (fun j hj => ((hCp j hj).setOther hRB5 0 _).setOther hRB5 1 _) (by omega)
          have hx9 := (hxq.setCell (p := ⟨RB, 0, none⟩) hRBl (.int .i64 mx)).setCell (p := ⟨RB, 1, none⟩) hRBl (.slice oa ol oc)
          have c0 := oO.cell 0
          have c1 := oO.cell 1
          have z1 := oO.lt
          have r0 := oR.cell 0
          have r1' := oR.cell 1
          have f0 := oR.free 0
          have f1 := oR.free 1
          have zr := oR.lt
          clear hO hCp hV HVlt
          go_wp2
          refine bodyPost_ret (v := .tuple #[.agg #[.int .i64 mx, .slice oa ol oc], .int .i64 0]) (by simp [results, Try.results30, go_sem, r0, r1', zr]) rfl ?_
          exact ⟨_, by rw [HMx.out], HD.out, hx9⟩
end Go.Proofs.Yteagoaiiacideaa
