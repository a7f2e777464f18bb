/- Chapter 13: steps; LearnFirsts: the walks. No condition. -/
import Derived.Test.YteagoaiiacideaaLaw13a
import Derived.Test.YteagoaiiacideaaLrnH
import Derived.Test.YteagoaiiacideaaCopy
import Derived.Test.YteagoaiiacideaaSame05
import Derived.Deep.RegionHeld3
namespace Go.Proofs.Yteagoaiiacideaa
set_option linter.unusedSimpArgs false
set_option linter.unusedVariables false
open Go.RowKit
set_option maxRecDepth 20000
set_option maxHeartbeats 4000000 in
theorem steps13_any (n cf : Int) (lv sv cv : Value) (tr : List St) (w : World) (hS : StepsAt w sv tr) (hlen : tr.length ≤ 1000) :
    Calls Try.prog 17 #[.agg #[.int .i64 n, lv, sv, .int .i64 cf, cv]] w fun e w' => ∃ v, e = .returned v ∧ OwnS w' 79 w.heap.size v tr ∧ Ex w w' := by
  have hS0 := hS
  obtain ⟨sa, scap, rfl, s1, s2, s3⟩ := hS
  unfold maxLen at s2
  clear s3
  have o := OwnB.new w [.int .i64 n, lv, .slice sa tr.length scap, .int .i64 cf, cv] 28
  have hxa := Ex.alloc w (.cells #[.int .i64 n, lv, .slice sa tr.length scap, .int .i64 cf, cv] 28)
  have c2 := o.cell 2
  have z0 := o.lt
  have HTk : Hid (∀ k, k < tr.length → tr.take (k + 1) = tr.take k ++ [tr.getD k default]) := fun k hk => by rw [List.take_succ_eq_append_getElem hk, getD_getElem hk]
  go_enter Try.func17, Try.ntmps17
  go_wp2
  clear c2
  generalize w.alloc (.cells #[.int .i64 n, lv, .slice sa tr.length scap, .int .i64 cf, cv] 28) = w1 at *
  go_loopw [3, 9] (fun ov kv wr => ∃ k : Nat, k ≤ tr.length ∧ kv = .int .i64 k ∧ OwnS wr 79 w1.heap.size ov (tr.take k) ∧ Ex w1 wr) (fun _ kv _ => tr.length - (intOf kv).toNat)
  case atStart => exact ⟨0, Nat.zero_le _, rfl, OwnS.nil _ _ _, Ex.refl _⟩
  case round =>
    obtain ⟨k, hk, rfl, hO, hxr⟩ := hrel
    by_cases hlt : k < tr.length
    · obtain ⟨_, _, ev, _, _, s3⟩ := hS0.ex (hxa.trans hxr)
      cases ev
      obtain ⟨b, off, rfl, hb, g0, g1, g2⟩ := s3 k hlt
      have hT := HTk.out k hlt
      have hlen2 : (tr.take k).length ≤ 1000 := by rw [List.length_take]; omega
      obtain ⟨st, hst⟩ : ∃ st, st = tr.getD k default := ⟨_, rfl⟩
      rw [← hst] at g0 g1 g2 hT
      have HT : Hid _ := hT
      clear s3 hT hst HTk
      obtain ⟨sx, sw, sl⟩ := st
      simp only at g0 g1 g2
      have oB := OwnB.new wr [.int .i64 sx, .int .i64 sw, .int .i64 sl] 55
      have hxB := Ex.alloc wr (.cells #[.int .i64 sx, .int .i64 sw, .int .i64 sl] 55)
      have b0 := oB.cell 0
      have b1 := oB.cell 1
      have b2 := oB.cell 2
      have zB := oB.lt
      have hs := (hxr.trans hxB).size
      have hx2 := hxr.trans hxB
      have hO2 := hO.ex hxB
      have hkk : (k : Int) < tr.length := by omega
      generalize hMk : tr.take k = M at *
      clear hMk
      obtain ⟨oa, ocap, rfl, _, o2, _⟩ := hO2.steps
      clear oB hO
      have hnew := st_new (wr.alloc (.cells #[.int .i64 sx, .int .i64 sw, .int .i64 sl] 55)) ⟨sx, sw, sl⟩ 79
      simp only [alloc_size] at hnew
      go_wp2_with (at_builtin; refine wpList_append_step stepT_r13 rfl (.tmp 13) (.tmp 21) rfl rfl rfl (hO2.ex (Ex.alloc _ _)) hnew (by omega) ?c2 ?_)
      case c2 => first | (rw [alloc_size]; omega) | omega
      intro v5 w5 hown hg _
      have hx5 : Ex w1 w5 := grown_ex (hx2.alloc' _) hg (ownsRow_block hO2)
      clear hg hnew hO2
      go_wp2
      go_roundw
      case rel => exact ⟨k + 1, by omega, by go_num, by rw [HT.out]; exact hown, hx5⟩
      case measure => simp [intOf]; omega
    · obtain rfl : k = tr.length := by omega
      rw [List.take_length] at hO
      go_wp2
      go_ret
      exact ⟨_, rfl, hO.base hxa.size, hxa.trans hxr⟩
theorem r13First_any (n : Int) (lv sv : Value) (ll : List (List Int)) (tr : List St) (cf : Int) (w : World) (hR : RowsAt w lv ll) (hS : StepsAt w sv tr) (hlen : tr.length ≤ 1000) :
    Calls Try.prog 16 #[.agg #[.int .i64 n, lv], sv, .int .i64 cf] w (FirstRet w (firstL n ll tr cf) (firstK n ll tr cf) (firstE n ll tr cf)) := by
  cases hok : firstOk n ll tr cf with
  | false =>
    obtain ⟨e1, e2, e3⟩ := first_bad hok
    rw [e1, e2, e3]
    exact r13First_bad n lv sv ll tr cf w hR hS hlen hok
  | true =>
    obtain ⟨h1, _, h3, h4, _⟩ := firstOk_iff.1 hok
    have n0 := (theoryErr_zero h1).1
    obtain ⟨N, rfl⟩ : ∃ N : Nat, n = N := ⟨n.toNat, by omega⟩
    obtain ⟨q, rfl⟩ : ∃ q : Nat, cf = q := ⟨cf.toNat, by omega⟩
    have e3 : firstE N ll tr q = 0 := by unfold firstE; rw [hok]; rfl
    rw [e3]
    exact r13First_ok N lv sv ll tr q w hR hS hlen hok
set_option maxRecDepth 100000 in
set_option maxHeartbeats 8000000 in
theorem LearnFirsts_any (n : Int) (lv sv : Value) (cf : Int) (cv : Value) (ll : List (List Int)) (tr : List St) (c : List Int) (w : World) (hR : RowsAt w lv ll) (hS : StepsAt w sv tr) (hc : IntsAt w cv c) :
    Calls Try.prog 3 #[.agg #[.int .i64 n, lv, sv, .int .i64 cf, cv]] w fun e w' => e = .returned (.bool true) ∧ Ex w w' := by
  have HLi : Hid (∀ wa, Ex w wa → Calls Try.prog 12 #[.agg #[.int .i64 n, lv, sv, .int .i64 cf, cv]] wa (CaseRet wa ll tr c)) := fun wa hx => caseLight_any n cf lv sv cv ll tr c wa (hR.ex hx) (hS.ex hx) (hc.ex hx)
  have HCo : Hid (ll.length ≤ 60 ∧ (∀ c ∈ ll, c.length ≤ 140) → ∀ wa, Ex w wa → Calls Try.prog 14 #[.agg #[.int .i64 n, lv]] wa (CopyRet wa n ll)) := fun h wa hx => copy05_any n lv ll wa (hR.ex hx) h.1 h.2
  have HFi : Hid (tr.length ≤ 140 → ∀ wa, Ex w wa → Calls Try.prog 15 #[.agg #[.int .i64 n, lv], sv, .int .i64 cf] wa (FirstRet wa (firstL n ll tr cf) (firstK n ll tr cf) (firstE n ll tr cf))) := fun h wa hx => learnFirst_any n lv sv ll tr cf wa (hR.ex hx) (hS.ex hx) (by omega)
  have HSt : Hid (tr.length ≤ 140 → ∀ wa, Ex w wa → Calls Try.prog 17 #[.agg #[.int .i64 n, lv, sv, .int .i64 cf, cv]] wa fun e w' => ∃ v, e = .returned v ∧ OwnS w' 79 wa.heap.size v tr ∧ Ex wa w') := fun h wa hx => steps13_any n cf lv sv cv tr wa (hS.ex hx) (by omega)
  have HRf : Hid (tr.length ≤ 140 → ∀ wa u, Ex w wa → StepsAt wa u tr → Calls Try.prog 16 #[.agg #[.int .i64 n, lv], u, .int .i64 cf] wa (FirstRet wa (firstL n ll tr cf) (firstK n ll tr cf) (firstE n ll tr cf))) := fun h wa u hx hs => r13First_any n lv u ll tr cf wa (hR.ex hx) hs (by omega)
  have HSi : Hid (∀ (wa : World) (u v : Value) (l : List Int), IntsAt wa u l → IntsAt wa v l → Calls Try.prog 18 #[u, v] wa fun e w' => e = .returned (.bool true) ∧ Ex wa w') := fun wa u v l h k => by
    have := r05SameInts_any u v l l wa h k
    rwa [decide_eq_true rfl] at this
  have HS5 : Hid (∀ (wa : World) (lv' : Value), Ex w wa → RowsAt wa lv' ll → Calls Try.prog 19 #[.agg #[.int .i64 n, lv], .agg #[.int .i64 n, lv']] wa fun e w' => e = .returned (.bool true) ∧ Ex wa w') := fun wa lv' hx h => r05Same_yes n lv lv' ll wa (hR.ex hx) h
  obtain ⟨ra, rcap, rfl, _, _, r3⟩ := hR
  obtain ⟨sa, scap, rfl, _, _, s3⟩ := hS
  obtain ⟨pa, pcap, rfl, _, _, p3⟩ := hc
  clear r3 s3 p3
  have o := OwnB.new w [.int .i64 n, .slice ra ll.length rcap, .slice sa tr.length scap, .int .i64 cf, .slice pa c.length pcap] 28
  have hxa := Ex.alloc w (.cells #[.int .i64 n, .slice ra ll.length rcap, .slice sa tr.length scap, .int .i64 cf, .slice pa c.length pcap] 28)
  generalize firstL n ll tr cf = FL at *
  generalize firstK n ll tr cf = FK at *
  generalize firstE n ll tr cf = FE at *
  go_enter Try.func3, Try.ntmps3
  go_wp2_with fail
  refine (HLi.out _ hxa).mono ?_
  rintro e w2 ⟨b, rfl, hb, hx2⟩
  replace o := o.ex hx2
  replace hxa := hxa.trans hx2
  clear hx2 HLi
  cases b with
  | false =>
    clear hb
    go_wp2_with (refine (works13_any _).mono ?_; rintro e w' ⟨rfl, hx⟩)
    go_ret
    exact ⟨rfl, hxa.trans hx⟩
  | true =>
  obtain ⟨hb1, hb2, hb3⟩ := hb rfl
  have HCo2 : Hid _ := HCo.out hb1
  have HFi2 : Hid _ := HFi.out hb2
  have HSt2 : Hid _ := HSt.out hb2
  have HRf2 : Hid _ := HRf.out hb2
  clear hb hb1 HCo HFi HSt HRf
  have c0 := o.cell 0
  have c1 := o.cell 1
  have c2 := o.cell 2
  have c3 := o.cell 3
  have c4 := o.cell 4
  have z0 := o.lt
  go_wp2_with fail
  refine (HCo2.out _ hxa).mono ?_
  rintro e w3 ⟨lv2, rfl, hR3, hx3⟩
  obtain ⟨ta, tcap, rfl, _, _, _⟩ := id hR3
  have oW := OwnB.new w3 [.int .i64 n, .slice ta ll.length tcap] 24
  have hx34 := Ex.alloc w3 (.cells #[.int .i64 n, .slice ta ll.length tcap] 24)
  have hR4 : Hid (RowsAt _ _ ll) := hR3.ex hx34
  replace o := (o.ex hx3).ex hx34
  replace hxa := (hxa.trans hx3).trans hx34
  clear c0 c1 c2 c3 c4 z0 HCo2 hx3 hR3
  have c0 := o.cell 0
  have c1 := o.cell 1
  have c2 := o.cell 2
  have c3 := o.cell 3
  have c4 := o.cell 4
  have z0 := o.lt
  go_wp2_with fail
  generalize w3.alloc (.cells #[.int .i64 n, .slice ta ll.length tcap] 24) = w4 at *
  generalize w3.heap.size = WB at *
  refine (HFi2.out _ hxa).mono ?_
  rintro e w5 ⟨v5, rfl, ho5, hx5⟩
  obtain ⟨a5, q5, rfl, hq5, hq6, _⟩ := ho5.ints
  unfold maxLen at hq6
  have o5 := o.ex hx5
  have hxw5 := hxa.trans hx5
  clear c0 c1 c2 c3 c4 z0 HFi2
  have c0 := o5.cell 0
  have c1 := o5.cell 1
  have c2 := o5.cell 2
  have c3 := o5.cell 3
  have c4 := o5.cell 4
  have z0 := o5.lt
  go_wp2
  go_region_held3 (fun w' => w'.cell? ⟨w.heap.size, 0, none⟩ = some (.int .i64 n) ∧ w'.cell? ⟨w.heap.size, 1, none⟩ = some (.slice ra ll.length rcap) ∧ w'.cell? ⟨w.heap.size, 2, none⟩ = some (.slice sa tr.length scap) ∧ w'.cell? ⟨w.heap.size, 3, none⟩ = some (.int .i64 cf) ∧ w'.cell? ⟨w.heap.size, 4, none⟩ = some (.slice pa c.length pcap)) (first | exact ⟨c0, c1, c2, c3, c4⟩ | exact ⟨c06, c16, c26, c36, c46⟩ | exact ⟨c07, c17, c27, c37, c47⟩ | go_keep) (first | (go_at_call 17; refine (HSt2.out _ (hxw5.trans (Ex.refl _).drew)).mono ?_; rintro e w6 ⟨v6, rfl, ho6, hx6⟩; have hS6 := ho6.steps; obtain ⟨a6, q6, rfl, _, _, _⟩ := id hS6; have c06 := ex_cell (show w5.drew.cell? _ = _ from c0) hx6; have c16 := ex_cell (show w5.drew.cell? _ = _ from c1) hx6; have c26 := ex_cell (show w5.drew.cell? _ = _ from c2) hx6; have c36 := ex_cell (show w5.drew.cell? _ = _ from c3) hx6; have c46 := ex_cell (show w5.drew.cell? _ = _ from c4) hx6) | (go_at_call 16; refine (HRf2.out _ _ ((hxw5.trans (Ex.refl _).drew).trans hx6) hS6).mono ?_; rintro e w7 ⟨v7, rfl, ho7, hx7⟩; have hI7 := ho7.ints; obtain ⟨a7, q7, rfl, _, _, _⟩ := id hI7; have c07 := ex_cell c06 hx7; have c17 := ex_cell c16 hx7; have c27 := ex_cell c26 hx7; have c37 := ex_cell c36 hx7; have c47 := ex_cell c46 hx7) | fail)
  have hx57 : Ex w5 w7 := ((Ex.refl w5).drew.trans hx6).trans hx7
  have hI5 := ho5.ints.ex hx57
  have hfk : (FK != FK) = false := by simp
  have hfe : (FE != FE) = false := by simp
  clear c06 c16 c26 c36 c46 c07 c17 c27 c37 c47 c0 c1 c2 c3 c4 z0 HSt2 HRf2 ho7 hx7 hS6 ho6
  have hx45 := hx5
  have ho57 := ho5.ex hx57
  go_wp2_with fail
  refine (HSi.out _ _ _ _ hI5 hI7).mono ?_
  rintro e w8 ⟨rfl, hx8⟩
  have hx48 : Ex w4 w8 := (hx45.trans hx57).trans hx8
  have ho8 := ho57.ex hx8
  clear hI5 hI7 HSi ho57
  go_wp2
  go_loopw [56] (fun kv wr => ∃ (k : Nat) (M : List Int), k ≤ FL.length ∧ kv = .int .i64 k ∧ Hid (M.length = FL.length) ∧ OwnI wr w4.heap.size (.slice a5 FL.length q5) M ∧ Ex w4 wr) (fun kv _ => FL.length - (intOf kv).toNat)
  case atStart => exact ⟨0, FL, Nat.zero_le _, rfl, rfl, ho8, hx48⟩
  case round =>
    clear ho8 hx48
    obtain ⟨k, M, hk, rfl, hML, hO, hxr⟩ := hrel
    by_cases hlt : k < FL.length
    · have hML2 := hML.out
      obtain ⟨g, cap, rest, ev, hg, _, _, _⟩ := hO.form (by omega)
      rw [hML2] at ev
      cases ev
      obtain ⟨_, _, ev2, _, _, e3⟩ := hO.ints
      rw [hML2] at ev2 e3
      cases ev2
      obtain ⟨b', off, eb, hb', hcell⟩ := e3 k hlt
      cases eb
      rw [Nat.zero_add] at hcell
      have hput := hO.put' hML2.symm k 77
      have hfz : wr.frozen? ⟨g, k, none⟩ = false := World.ownsRow.frozenAt (by have := hO; unfold OwnI at this; rw [hML2] at this; exact this) k
      have hx2 := hxr.setCell (p := ⟨g, k, none⟩) hg (.int .i64 77)
      have hML3 : Hid ((M.set k 77).length = FL.length) := by show _ = _; rw [List.length_set, hML2]
      have hkk : (k : Int) < FL.length := by omega
      clear e3 hML hML2 hO HS5 hR4
      generalize M.getD k 0 = z at *
      go_wp2
      go_roundw
      case rel => exact ⟨k + 1, M.set k 77, by omega, by go_num, hML3, hput, hx2⟩
      case measure => simp [intOf]; omega
    · obtain rfl : k = FL.length := by omega
      have hxwr := hxa.trans hxr
      have of := o.ex hxr
      have ow := oW.ex hxr
      have d0 := of.cell 0
      have d1 := of.cell 1
      have y0 := of.lt
      have e0 := ow.cell 0
      have e1 := ow.cell 1
      have y1 := ow.lt
      have hS5 : Hid _ := HS5.out wr _ hxwr (hR4.out.ex hxr)
      clear HS5 hR4 hML hO
      go_wp2_with fail
      refine Calls.mono hS5.out ?_
      rintro e w9 ⟨rfl, hx9⟩
      go_wp2_with (refine (works13_any _).mono ?_; rintro e w' ⟨rfl, hx⟩)
      go_ret
      exact ⟨rfl, (hxwr.trans hx9).trans hx⟩
end Go.Proofs.Yteagoaiiacideaa
