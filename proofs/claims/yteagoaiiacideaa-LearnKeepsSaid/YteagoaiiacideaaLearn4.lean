/- The program's Implied. No condition but the length of the clause. -/
import Derived.Test.YteagoaiiacideaaLearnS
import Derived.Test.YteagoaiiacideaaUnit4
import Derived.Test.YteagoaiiacideaaG5
import Derived.Laws.OwnMore
namespace Go.Proofs.Yteagoaiiacideaa
set_option linter.unusedSimpArgs false
set_option linter.unusedVariables false
open Go.RowKit
set_option maxRecDepth 20000
theorem OwnI.put {w : World} {base g cap : Nat} {l : List Int} (h : OwnI w base (.slice (some ⟨g, 0, none⟩) l.length cap) l) (k : Nat) (x : Int) : OwnI (w.setCell ⟨g, k, none⟩ (.int .i64 x)) base (.slice (some ⟨g, 0, none⟩) l.length cap) (l.set k x) := by
  have := (World.ownsRow.stored h k (.int .i64 x)).1
  unfold OwnI
  rw [List.length_set, show intsV (l.set k x) = (intsV l).set k (.int .i64 x) from by simp [intsV, List.map_set]]
  exact this
theorem OwnI.put' {w : World} {base g n cap : Nat} {l : List Int} (h : OwnI w base (.slice (some ⟨g, 0, none⟩) n cap) l) (hn : n = l.length) (k : Nat) (x : Int) : OwnI (w.setCell ⟨g, k, none⟩ (.int .i64 x)) base (.slice (some ⟨g, 0, none⟩) n cap) (l.set k x) := by subst hn; exact h.put k x
/-- A list of which the first k are turned to their opposites. -/
def negTo (L : List Int) (k : Nat) : List Int := negL (L.take k) ++ L.drop k
theorem negTo_len (L : List Int) (k : Nat) : (negTo L k).length = L.length := by unfold negTo negL; simp; omega
theorem negTo_zero (L : List Int) : negTo L 0 = L := rfl
theorem negTo_end (L : List Int) : negTo L L.length = negL L := by unfold negTo; simp
theorem negTo_get {L : List Int} {k : Nat} (hk : k < L.length) : (negTo L k).getD k 0 = L.getD k 0 := by
  rw [getD_getElem (by rw [negTo_len]; exact hk), getD_getElem hk]
  unfold negTo negL
  rw [List.getElem_append_right (by simp; omega)]
  simp only [List.length_map, List.length_take, Nat.min_eq_left (Nat.le_of_lt hk), Nat.sub_self]
  simp
theorem negTo_set {L : List Int} {k : Nat} (hk : k < L.length) : (negTo L k).set k (-(L.getD k 0)) = negTo L (k + 1) := by
  have e : L.drop k = L[k] :: L.drop (k + 1) := List.drop_eq_getElem_cons hk
  unfold negTo
  rw [e, List.set_append_right _ _ (by unfold negL; simp; omega)]
  have : k - (negL (L.take k)).length = 0 := by unfold negL; simp; omega
  rw [this, List.set_cons_zero, getD_getElem hk, List.take_succ_eq_append_getElem hk]
  unfold negL
  rw [List.map_append]
  simp only [List.map_cons, List.map_nil, List.append_assoc, List.singleton_append]
set_option maxRecDepth 100000 in
set_option maxHeartbeats 4000000 in
theorem learnImplied_any (n : Int) (lv cv : Value) (ll : List (List Int)) (c : List Int) (w : World) (hR : RowsAt w lv ll) (hc : IntsAt w cv c) (hb : c.length * 8 ≤ 140737488355328) :
    Calls Try.prog 22 #[.agg #[.int .i64 n, lv], cv] w fun e w' => e = .returned (.bool (impB n ll c)) ∧ Ex w w' := by
  have HCk : Hid (∀ wa, Ex w wa → Calls Try.prog 49 #[.agg #[.int .i64 n, lv]] wa fun e w' => e = .returned (.int .i64 (theoryErr n ll)) ∧ Ex wa w') := fun wa hx => theoryCheck_any n lv ll wa (hR.ex hx)
  have HCa : Hid (∀ wa, Ex w wa → Calls Try.prog 35 #[cv, .int .i64 n] wa (ClauseRet wa (clauseL c n) (clauseB c n) (clauseE c n))) := fun wa hx => litClause_any cv c n wa (hc.ex hx) hb
  have HCl : Hid (∀ wa u m, Ex w wa → IntsAt wa u m → Calls Try.prog 50 #[.agg #[.int .i64 n, lv], u] wa (TermRet wa (closL n ll m) (closB n ll m))) := fun wa u m hx hm => unitClosure_any n lv u ll m wa (hR.ex hx) hm
  have HI0 : Hid (impB n ll c = (decide (theoryErr n ll = 0) && (c.all (litValid · n) && (c.any (fun x => c.contains (-x)) || !closB n ll (negL (orderL c)))))) := rfl
  have HOp : Hid (c.all (litValid · n) = true → clauseB c n = c.any fun x => c.contains (-x)) := fun h => by
    unfold clauseB; rw [h, opp_order (valid_vars h)]; rfl
  have HVb : Hid (c.all (litValid · n) = true → ∀ x ∈ orderL c, -1000 ≤ x ∧ x ≤ 1000) := fun h x hx => by
    have := (litValid_iff _ _).1 (List.all_eq_true.1 h x ((orderL_mem (valid_vars h) x).1 hx)); omega
  obtain ⟨ra, rcap, rfl, _, _, r3⟩ := hR
  obtain ⟨pa, pcap, rfl, _, _, p3⟩ := hc
  clear r3 p3 hb
  have oT := OwnB.new w [.int .i64 n, .slice ra ll.length rcap] 24
  have hxa := Ex.alloc w (.cells #[.int .i64 n, .slice ra ll.length rcap] 24)
  generalize impB n ll c = IB at *
  by_cases ht : theoryErr n ll = 0
  rotate_left
  · have he' : (theoryErr n ll != 0) = true := by simp [ht]
    have hI : Hid (IB = false) := by show _ = _; rw [HI0.out, decide_eq_false ht]; rfl
    clear HI0 HCa HCl HOp ht HVb
    generalize theoryErr n ll = ER at *
    go_enter Try.func22, Try.ntmps22
    go_wp2_with fail
    refine (HCk.out _ hxa).mono ?_
    rintro e w2 ⟨rfl, hx2⟩
    go_wp2
    go_ret
    exact ⟨ret_bool hI.out.symm, hxa.trans hx2⟩
  have HI1 : Hid (IB = (c.all (litValid · n) && (c.any (fun x => c.contains (-x)) || !closB n ll (negL (orderL c))))) := by show _ = _; rw [HI0.out, decide_eq_true ht]; rfl
  rw [ht] at HCk
  clear HI0 ht
  cases hv : c.all (litValid · n) with
  | false =>
    have hI : Hid (IB = false) := by show _ = _; rw [HI1.out, hv]; rfl
    have hE : clauseE c n = 1 := by unfold clauseE; rw [hv]; rfl
    have hB : clauseB c n = false := by unfold clauseB; rw [hv]; rfl
    rw [hE, hB] at HCa
    clear HI1 HOp hv hE hB HVb HCl
    generalize clauseL c n = CL at *
    have c0 := oT.cell 0
    have c1 := oT.cell 1
    have z0 := oT.lt
    go_enter Try.func22, Try.ntmps22
    go_wp2_with fail
    refine (HCk.out _ hxa).mono ?_
    rintro e w2 ⟨rfl, hx2⟩
    replace c0 := ex_cell c0 hx2
    replace z0 := Nat.lt_of_lt_of_le z0 hx2.size
    go_wp2_with fail
    refine (HCa.out _ (hxa.trans hx2)).mono ?_
    rintro e w3 ⟨v3, rfl, ho3, hx3⟩
    go_wp2
    go_ret
    exact ⟨ret_bool hI.out.symm, (hxa.trans hx2).trans hx3⟩
  | true =>
  have hE : clauseE c n = 0 := by unfold clauseE; rw [hv]; rfl
  have hL : clauseL c n = orderL c := by unfold clauseL; rw [hv]; rfl
  have hB : clauseB c n = c.any fun x => c.contains (-x) := HOp.out hv
  have HVc : Hid _ := HVb.out hv
  have HI2 : Hid (IB = (c.any (fun x => c.contains (-x)) || !closB n ll (negL (orderL c)))) := by show _ = _; rw [HI1.out, hv]; rfl
  rw [hE, hL, hB] at HCa
  clear HI1 HOp hv hE hL hB HVb
  generalize (c.any fun x => c.contains (-x)) = AB at *
  generalize orderL c = L at *
  have c0 := oT.cell 0
  have c1 := oT.cell 1
  have z0 := oT.lt
  cases AB with
  | true =>
    have hI : Hid (IB = true) := by show _ = _; rw [HI2.out]; rfl
    clear HI2 HVc HCl
    go_enter Try.func22, Try.ntmps22
    go_wp2_with fail
    refine (HCk.out _ hxa).mono ?_
    rintro e w2 ⟨rfl, hx2⟩
    replace c0 := ex_cell c0 hx2
    replace z0 := Nat.lt_of_lt_of_le z0 hx2.size
    go_wp2_with fail
    refine (HCa.out _ (hxa.trans hx2)).mono ?_
    rintro e w3 ⟨v3, rfl, ho3, hx3⟩
    go_wp2
    go_ret
    exact ⟨ret_bool hI.out.symm, (hxa.trans hx2).trans hx3⟩
  | false =>
  have HI3 : Hid (IB = !closB n ll (negL L)) := by show _ = _; rw [HI2.out]; rfl
  clear HI2
  go_enter Try.func22, Try.ntmps22
  go_wp2_with fail
  refine (HCk.out _ hxa).mono ?_
  rintro e w2 ⟨rfl, hx2⟩
  replace oT := oT.ex hx2
  replace hxa := hxa.trans hx2
  replace c0 := ex_cell c0 hx2
  replace z0 := Nat.lt_of_lt_of_le z0 hx2.size
  clear HCk hx2 c1
  go_wp2_with fail
  have hs2 : w.heap.size + 1 ≤ w2.heap.size := oT.lt
  refine (HCa.out _ hxa).mono ?_
  rintro e w3 ⟨v3, rfl, ho3, hx3⟩
  replace oT := oT.ex hx3
  replace ho3 := ho3.base hs2
  replace hxa := hxa.trans hx3
  clear HCa hx3 c0 z0 hs2
  obtain ⟨p3, q3, rfl, _, hq3, _⟩ := ho3.ints
  unfold maxLen at hq3
  have hb0 : w.heap.size < w3.heap.size := oT.lt
  have ho4 : OwnI w3 (w.heap.size + 1) (.slice p3 L.length q3) (negTo L 0) := ho3
  have HNt : Hid (∀ k, k < L.length → (negTo L k).length = L.length ∧ (negTo L k).getD k 0 = L.getD k 0 ∧ (negTo L k).set k (-(L.getD k 0)) = negTo L (k + 1) ∧ -1000 ≤ L.getD k 0 ∧ L.getD k 0 ≤ 1000) := fun k hk => ⟨negTo_len L k, negTo_get hk, negTo_set hk, HVc.out _ (by rw [getD_getElem hk]; exact List.getElem_mem hk)⟩
  clear HVc ho3
  go_wp2
  go_loopw [31] (fun kv wr => ∃ k : Nat, k ≤ L.length ∧ kv = .int .i64 k ∧ OwnI wr (w.heap.size + 1) (.slice p3 L.length q3) (negTo L k) ∧ Ex w wr ∧ OwnB wr w.heap.size [.int .i64 n, .slice ra ll.length rcap] 24) (fun kv _ => L.length - (intOf kv).toNat)
  case atStart => exact ⟨0, Nat.zero_le _, rfl, ho4, hxa, oT⟩
  case round =>
    clear ho4 oT hxa
    obtain ⟨k, hk, rfl, hO, hxr, oTr⟩ := hrel
    by_cases hlt : k < L.length
    · obtain ⟨n1, n2, n3, n4, n5⟩ := HNt.out k hlt
      obtain ⟨g, cap, rest, ev, hg, _, _, _⟩ := hO.form (by rw [n1]; omega)
      rw [n1] at ev
      cases ev
      obtain ⟨_, _, ev2, _, _, c3⟩ := hO.ints
      rw [n1] at ev2 c3
      cases ev2
      obtain ⟨b, off, eb, hb, hcell⟩ := c3 k hlt
      cases eb
      rw [n2, Nat.zero_add] at hcell
      have hput := hO.put' n1.symm k (-(L.getD k 0))
      rw [n3] at hput
      have hfz : wr.frozen? ⟨g, k, none⟩ = false := World.ownsRow.frozenAt (by have := hO; unfold OwnI at this; rw [n1] at this; exact this) k
      have hx2 := hxr.setCell (p := ⟨g, k, none⟩) (Nat.le_of_lt hg) (.int .i64 (-(L.getD k 0)))
      have oT2 := oTr.set_other (c := g) k (.int .i64 (-(L.getD k 0))) (by omega)
      have hgk : (k : Int) < L.length := by omega
      have hwz : IntKind.i64.wrap (-(L.getD k 0)) = -(L.getD k 0) := IntWalk.i64_in _ (by omega)
      clear c3 n1 n2 n3 hO HNt HI3 HCl oTr
      generalize L.getD k 0 = z at *
      go_wp2
      go_roundw
      case rel => exact ⟨k + 1, by omega, by go_num, hput, hx2, oT2⟩
      case measure => simp [intOf]; omega
    · obtain rfl : k = L.length := by omega
      rw [negTo_end] at hO
      have hI5 := hO.ints
      have HCx : Hid _ := HCl.out wr _ _ hxr hI5
      have c0 := oTr.cell 0
      have c1 := oTr.cell 1
      have z0 := oTr.lt
      clear HNt HCl hO hI5 oTr
      generalize closB n ll (negL L) = CB at *
      generalize closL n ll (negL L) = CL at *
      go_wp2_with fail
      refine Calls.mono HCx.out ?_
      rintro e w5 ⟨v5, rfl, ho5, hx5⟩
      go_wp2
      go_ret
      exact ⟨ret_bool HI3.out.symm, hxr.trans hx5⟩
end Go.Proofs.Yteagoaiiacideaa
