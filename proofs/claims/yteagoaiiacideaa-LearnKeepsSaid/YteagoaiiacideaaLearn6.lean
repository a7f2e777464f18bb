/- The program's First. No condition but the length of the steps. -/
import Derived.Test.YteagoaiiacideaaLearnT
import Derived.Carry
namespace Go.Proofs.Yteagoaiiacideaa
set_option linter.unusedSimpArgs false
set_option linter.unusedVariables false
open Go.RowKit
set_option maxRecDepth 20000
/-- What First hands back. -/
def FirstRet (w : World) (L : List Int) (k er : Int) (e : Ending) (w' : World) : Prop := ∃ v, e = .returned (.tuple #[v, .int .i64 k, .int .i64 er]) ∧ OwnI w' w.heap.size v L ∧ Ex w w'
set_option maxRecDepth 100000 in
set_option maxHeartbeats 8000000 in
theorem learnFirst_any (n : Int) (lv sv : Value) (ll : List (List Int)) (tr : List St) (cf : Int) (w : World) (hR : RowsAt w lv ll) (hS : StepsAt w sv tr) (hlen : tr.length ≤ 1000) :
    Calls Try.prog 15 #[.agg #[.int .i64 n, lv], sv, .int .i64 cf] w (FirstRet w (firstL n ll tr cf) (firstK n ll tr cf) (firstE n ll tr cf)) := by
  have HEx : Hid (∀ wa, Ex w wa → Calls Try.prog 33 #[.agg #[.int .i64 n, lv], sv] wa (ExamRet wa n lv sv tr (decide (theoryErr n ll = 0) && trailB n ll tr))) := fun wa hx => learnExamine_any n lv sv ll tr wa (hR.ex hx) (hS.ex hx) hlen
  have hS0 := hS
  have hR0 := hR
  obtain ⟨ra, rcap, rfl, r1, r2, r3⟩ := hR
  obtain ⟨sa, scap, rfl, s1, s2, s3⟩ := hS
  unfold maxLen at r2 s2
  clear r3 s3
  have oT := OwnB.new w [.int .i64 n, .slice ra ll.length rcap] 24
  have hxa := Ex.alloc w (.cells #[.int .i64 n, .slice ra ll.length rcap] 24)
  cases hok : (decide (theoryErr n ll = 0) && trailB n ll tr) with
  | false =>
    rw [hok] at HEx
    obtain ⟨e1, e2, e3⟩ := first_bad (firstOk_bad1 (cf := cf) hok)
    rw [e1, e2, e3]
    clear hok e1 e2 e3
    go_enter Try.func15, Try.ntmps15
    go_wp2_with fail
    refine (HEx.out _ hxa).mono ?_
    rintro e w2 h2
    obtain ⟨rfl, hx2⟩ := exam_noR h2
    go_wp2
    go_ret3
    exact ⟨_, rfl, OwnI.nil _ _, hxa.trans hx2⟩
  | true =>
  rw [hok] at HEx
  by_cases hcf : cf < 0 ∨ (ll.length : Int) ≤ cf
  · obtain ⟨e1, e2, e3⟩ := first_bad (firstOk_bad2 (n := n) (ll := ll) (tr := tr) hcf)
    rw [e1, e2, e3]
    clear hok e1 e2 e3
    by_cases hc0 : cf < 0
    · go_enter Try.func15, Try.ntmps15
      go_wp2_with fail
      refine (HEx.out _ hxa).mono ?_
      rintro e w2 h2
      obtain ⟨X, rfl, hT2, hX2, hx2⟩ := exam_yesR h2
      have c0 := (oT.ex hx2).cell 0
      have c1 := (oT.ex hx2).cell 1
      have z0 := (oT.ex hx2).lt
      go_wp2
      go_ret3
      exact ⟨_, rfl, OwnI.nil _ _, hxa.trans hx2⟩
    · have hc1 : (ll.length : Int) ≤ cf := by omega
      go_enter Try.func15, Try.ntmps15
      go_wp2_with fail
      refine (HEx.out _ hxa).mono ?_
      rintro e w2 h2
      obtain ⟨X, rfl, hT2, hX2, hx2⟩ := exam_yesR h2
      have c0 := (oT.ex hx2).cell 0
      have c1 := (oT.ex hx2).cell 1
      have z0 := (oT.ex hx2).lt
      go_wp2
      go_ret3
      exact ⟨_, rfl, OwnI.nil _ _, hxa.trans hx2⟩
  obtain ⟨q, rfl⟩ : ∃ q : Nat, cf = q := ⟨cf.toNat, by omega⟩
  have hq : q < ll.length := by omega
  have hth : theoryErr n ll = 0 := by rw [Bool.and_eq_true, decide_eq_true_eq] at hok; exact hok.1
  have htb : trailB n ll tr = true := by rw [Bool.and_eq_true] at hok; exact hok.2
  have HTr : Hid (Trl n ll tr) := trl_of htb
  have hOnce : Once (tr.take tr.length) := once_of (Nat.le_refl _) (trailB_iff.1 htb)
  have HWrg : Hid (∀ wa X y, TrlAt wa X n (.slice ra ll.length rcap) (.slice sa tr.length scap) tr tr.length → litVar y ≠ 0 → Calls Try.prog 34 #[.pointer (some ⟨X, 0, none⟩), .int .i64 y] wa fun e w' => e = .returned (.int .i64 (wrongI tr y)) ∧ Ex wa w') := fun wa X y h hy => by
    have := learnWrong_any wa X n _ _ tr tr.length y h (Nat.le_refl _) hOnce hy hlen
    rwa [List.take_length] at this
  have HRo : Hid (∀ q, q < ll.length → ∃ b off rv, ra = some ⟨b, off, none⟩ ∧ b < w.heap.size ∧ w.cell? ⟨b, off + q, none⟩ = some rv ∧ IntsAt w rv (ll.getD q []) ∧ (ll.getD q []).length ≤ 128 ∧ ∀ k, k < (ll.getD q []).length → litVar ((ll.getD q []).getD k 0) ≠ 0) := fun q hq => by
    obtain ⟨_, _, ev, _, _, r3⟩ := hR0
    cases ev
    obtain ⟨b, off, rv, e2, hb, hc, hi⟩ := r3 q hq
    exact ⟨b, off, rv, e2, hb, hc, hi, ((theoryErr_zero hth).2.2.2 _ (by rw [getD_getElem hq]; exact List.getElem_mem hq)).1, fun k hk => litVar_ne (theory_lit hth hq hk)⟩
  have HNo : Hid (∀ k, k < (ll.getD q []).length → trueT tr (-((ll.getD q []).getD k 0)) = false → firstL n ll tr q = [] ∧ firstK n ll tr q = 0 ∧ firstE n ll tr q = 1) := fun k hk h => first_bad (firstOk_bad3 (cf := (q : Int)) (k := k) hk h)
  have HLo : Hid ((∀ k, k < (ll.getD q []).length → trueT tr (-((ll.getD q []).getD k 0)) = true) → ¬ 0 < topI tr (ll.getD q []) → firstL n ll tr q = [] ∧ firstK n ll tr q = -1 ∧ firstE n ll tr q = 0) := fun h ht => first_low (firstOk_good hok (by omega) (by omega) h) ht
  have HGo : Hid ((∀ k, k < (ll.getD q []).length → trueT tr (-((ll.getD q []).getD k 0)) = true) → 0 < topI tr (ll.getD q []) → ∃ F, AtPick n ll tr (topI tr (ll.getD q [])) F tr.length (confS tr (ll.getD q [])) ∧ firstL n ll tr q = orderL (outTo tr F tr.length) ∧ firstK n ll tr q = backTo tr F (topI tr (ll.getD q [])) tr.length ∧ firstE n ll tr q = 0) := fun h ht => by
    have hfo := firstOk_good (cf := (q : Int)) hok (by omega) (by omega) h
    obtain ⟨g1, g2, g3⟩ := first_good hfo ht
    refine ⟨finalS ll tr q, atpick_start (trl_of htb) (fun y hy => ?_) (Int.le_of_lt ht), g1, g2, g3⟩
    obtain ⟨k, hk, rfl⟩ := List.getElem_of_mem hy
    have := h k hk
    rwa [getD_getElem hk] at this
  clear hok hth htb hOnce hcf hR0
  generalize firstL n ll tr q = RL at *
  generalize firstK n ll tr q = RK at *
  generalize firstE n ll tr q = RE at *
  obtain ⟨rb, roff, rv, rfl, hrb, hrc, hri, hcl, hvr⟩ := HRo.out q hq
  have HVr : Hid (∀ k, k < (ll.getD q []).length → litVar ((ll.getD q []).getD k 0) ≠ 0) := hvr
  clear hvr
  generalize ll.getD q [] = c at *
  have hri0 := hri
  obtain ⟨ca, ccap, rfl, rc1, rc2, _⟩ := hri
  unfold maxLen at rc2
  go_enter Try.func15, Try.ntmps15
  go_wp2_with fail
  refine (HEx.out _ hxa).mono ?_
  rintro e w2 h2
  obtain ⟨X, rfl, hT2, hX2, hx2⟩ := exam_yesR h2
  replace oT := oT.ex hx2
  replace hxa := hxa.trans hx2
  clear HEx hx2 h2
  have c0 := oT.cell 0
  have c1 := oT.cell 1
  have z0 := oT.lt
  have hqq : (q : Int) < ll.length := by omega
  have hd0 : decide ((q : Int) < 0) = false := decide_eq_false (by omega)
  have hd1 : decide (ll.length ≤ q) = false := decide_eq_false (by omega)
  have t2 := ex_cell hrc hxa
  have t3 := Nat.lt_of_lt_of_le hrb hxa.size
  have t4 := ex_cell t2 (Ex.alloc w2 (.map #[] 0))
  have t5 := ex_cell c1 (Ex.alloc w2 (.map #[] 0))
  have hmm := @run_makeMap Try.prog
  go_wp2
  have hM0 := MapP.made w2
  have hx23 := Ex.alloc w2 (.map #[] 0)
  generalize w2.alloc (.map #[] 0) = w3 at *
  have hMBe : w2.heap.size ≤ w2.heap.size := Nat.le_refl _
  have hXlt := hT2.body.lt
  obtain ⟨MB, hMB⟩ : ∃ MB, MB = w2.heap.size := ⟨_, rfl⟩
  rw [← hMB] at hM0 ⊢
  have hMB1 : w2.heap.size ≤ MB := by omega
  have hMB2 : MB ≤ w2.heap.size := by omega
  have hTX : Hid (TrlAt w2 X n (.slice (some ⟨rb, roff, none⟩) ll.length rcap) (.slice sa tr.length scap) tr tr.length) := hT2
  have HSt2 : Hid (StepsAt w2 (.slice sa tr.length scap) tr) := hT2.steps
  have hM1 : MapP w3 MB 0 (toP (confS tr (c.take 0))) := hM0.congr fun x => by
    have : confS tr (c.take 0) = fun _ => false := rfl
    rw [this, toP_none]
  clear hM0 hMBe hMB hT2 t2 t3 t4 t5 c0 c1 z0
  go_loopw [6, 7, 12, 49] (fun cv bv tv kv wr => ∃ (k m : Nat) (top : Int), k ≤ c.length ∧ cv = .slice none 0 0 ∧ bv = .int .i64 0 ∧ kv = .int .i64 k ∧ tv = .int .i64 top ∧ Hid (top = topI tr (c.take k)) ∧ Ex w2 wr ∧ MapP wr MB m (toP (confS tr (c.take k))) ∧ m ≤ k ∧ Hid (∀ j, j < k → trueT tr (-(c.getD j 0)) = true)) (fun _ _ _ kv _ => c.length - (intOf kv).toNat)
  case atStart => exact ⟨0, 0, -1, Nat.zero_le _, rfl, rfl, rfl, rfl, rfl, hx23, hM1, Nat.zero_le _, fun j hj => by omega⟩
  case round =>
    clear hM1 hx23
    obtain ⟨k, m, top, hk, rfl, rfl, rfl, rfl, htop, hxr, hM, hmk, HD⟩ := hrel
    have hxw := hxa.trans hxr
    have oTr := oT.ex hxr
    by_cases hlt : k < c.length
    · obtain ⟨_, _, ev, _, _, c3⟩ := hri0.ex hxw
      cases ev
      obtain ⟨b, off, rfl, hb, hcell⟩ := c3 k hlt
      have hTXr : Hid (TrlAt wr X n (.slice (some ⟨rb, roff, none⟩) ll.length rcap) (.slice sa tr.length scap) tr tr.length) := hTX.out.ex hxr
      have HNk : Hid _ := HNo.out k hlt
      have HW1 : Hid _ := HWrg.out wr X _ hTXr.out (HVr.out k hlt)
      have HNeg : Hid (wrongI tr (c.getD k 0) < 0 ↔ trueT tr (-(c.getD k 0)) = false) := wrongI_neg
      have HWs : Hid (∀ i, wrongN tr (c.getD k 0) = some i → i < tr.length ∧ wrongI tr (c.getD k 0) = i ∧ levelOf tr (c.getD k 0) = sV tr i) := fun i h => ⟨(wrongN_some h).1, by unfold wrongI; rw [h], levelOf_wrong h⟩
      have HCs : Hid (∀ i, wrongN tr (c.getD k 0) = some i → confS tr (c.take (k + 1)) = fun j => if j = i then true else confS tr (c.take k) j) := fun i h => confS_take hlt h
      have HTk : Hid (topI tr (c.take (k + 1)) = max top (levelOf tr (c.getD k 0))) := by show _ = _; rw [topI_take hlt, htop.out]
      have HSo : Hid (trueT tr (-(c.getD k 0)) = true → ∃ i, wrongN tr (c.getD k 0) = some i) := fun h => wrongN_isSome.2 h
      have HDn : Hid (trueT tr (-(c.getD k 0)) = true → ∀ j, j < k + 1 → trueT tr (-(c.getD j 0)) = true) := fun h1 j hj => by
        by_cases e : j = k
        · subst e; exact h1
        · exact HD.out j (by omega)
      clear c3 HD HNo HLo HGo HWrg hTX hS0 htop HVr hri0 HRo
      generalize c.getD k 0 = y at *
      cases htt : trueT tr (-y) with
      | false =>
        obtain ⟨e1, e2, e3⟩ := HNk.out htt
        subst e1 e2 e3
        have hng := HNeg.out.2 htt
        clear HNk HNeg HWs HCs HSo HDn htt HTk hM
        generalize wrongI tr y = wi at *
        go_wp2_with fail
        refine Calls.mono HW1.out ?_
        rintro e w6 ⟨rfl, hx6⟩
        go_wp2
        go_ret3
        exact ⟨_, rfl, OwnI.nil _ _, hxw.trans hx6⟩
      | true =>
        obtain ⟨i, hi⟩ := HSo.out htt
        obtain ⟨hil, hwi, hlv⟩ := HWs.out i hi
        have HC2 : Hid _ := HCs.out i hi
        have HD2 : Hid _ := HDn.out htt
        have hTk2 := HTk.out
        rw [hlv] at hTk2
        have HW2 := HW1.out
        rw [hwi] at HW2
        have HW3 : Hid _ := HW2
        have HT3 : Hid _ := hTk2
        have hil2 : ((i : Nat) : Int) < tr.length := by omega
        have hwf : (Lit.int .i64 (i : Int)).wf = true := wf_nat (by omega)
        clear HNk HNeg HWs HCs HSo HDn htt hi hwi hlv hTk2 HTk HW1 HW2
        obtain ⟨_, _, ev, _, _, s3⟩ := id HSt2.out
        cases ev
        obtain ⟨sb, soff, rfl, hsb, _, _, g2⟩ := s3 i hil
        clear s3
        unfold sV at HT3
        generalize (tr.getD i default).lev = slev at *
        go_wp2_with fail
        refine Calls.mono HW3.out ?_
        rintro e w6 ⟨rfl, hx6⟩
        have hM6 := hM.ex hx6
        clear HW3 hM hTXr
        go_wp2_with (at_mapUpdate; refine wpList_store_mapP _ rfl _ _ _ rfl MB m _ i rfl hM6 (by unfold maxLen; omega) rfl rfl hwf ?_; intro w7 hM7 hg7; have hx7 : Ex w2 w7 := grown_ex (hxr.trans hx6) hg7 (by intro k hk; cases hk; exact hMB1); have g27 := ex_cell g2 hx7)
        have hM8 : MapP w7 MB (m + 1) (toP (confS tr (c.take (k + 1)))) := hM7.congr fun x => by rw [HC2.out, toP_set]
        clear hM7 hM6 hg7 HC2 HSt2
        go_wp2
        go_roundw
        case rel => exact ⟨k + 1, m + 1, max top slev, by omega, rfl, rfl, by go_num, rfl, HT3.out.symm, hx7, hM8, by omega, HD2⟩
        case measure => simp [intOf]; omega
    · obtain rfl : k = c.length := by omega
      rw [List.take_length] at hM
      have htop2 : Hid (top = topI tr c) := by show _ = _; rw [htop.out, List.take_length]
      clear HVr hri0 HNo htop
      by_cases htp : 0 < top
      rotate_left
      · obtain ⟨e1, e2, e3⟩ := HLo.out HD.out (by rw [← htop2.out]; omega)
        subst e1 e2 e3
        clear HGo HLo hM HWrg hTX HSt2 HRo
        go_wp2
        go_ret3
        exact ⟨_, rfl, OwnI.nil _ _, hxw⟩
      obtain ⟨F, hAt, e1, e2, e3⟩ := HGo.out HD.out (by rw [← htop2.out]; exact htp)
      subst e1 e2 e3
      have HAt : Hid (AtPick n ll tr top F tr.length (confS tr c)) := by rw [← htop2.out] at hAt; exact hAt
      have HTopK : Hid (top = topI tr c) := htop2
      clear HGo HLo HD hAt htop2
      generalize confS tr c = S0 at *
      generalize hw4 : wr = w4 at *
      clear hw4
      go_wp2_with (at_range; refine wpList_range_mapP _ rfl _ rfl MB m _ rfl hM ?_; intro w5 left0 cnt0 hRg0 hl0 hg5)
      go_frame
      have hx25 : Ex w2 w5 := grown_ex hxr hg5 (by intro k h; cases h)
      have hC0 : Hid (0 = cntLeft tr S0 top left0) := (cntLeft_start fun k hk => by rw [hl0 k (wf_nat (by omega)), toP_nat]).symm
      have hr2 : w2.heap.size ≤ w4.heap.size := hxr.size
      have hSlt : Hid (∀ k, S0 k = true → k < tr.length) := fun k hk => HAt.out.inv.lt k hk
      clear hl0 hg5 hM
      generalize w4.heap.size = r at *
      go_loopw [16] (fun mv wr => ∃ (left : Lit → Bool) (cnt C : Nat), RangeP wr MB r m (toP S0) left cnt ∧ mv = .int .i64 C ∧ Hid (C = cntLeft tr S0 top left) ∧ Ex w2 wr) (fun _ wr => wr.rangeLeft MB r)
      case atStart => exact ⟨left0, cnt0, 0, hRg0, rfl, hC0, hx25⟩
      case round =>
        clear hRg0 hC0 hx25
        obtain ⟨left, cnt, C, hRg, rfl, hC, hx2r⟩ := hrel
        go_wp2_with (at_next; refine wpList_next_mapP _ rfl _ rfl MB r m _ left cnt rfl hRg ?_ ?_)
        · intro hl0
          have hC2 : Hid (C = manyN tr S0 top) := by show _ = _; rw [hC.out, cntLeft_end hl0]
          have hM := hRg.map
          have hCl : C ≤ 1000 := by rw [hC2.out]; have := manyN_le tr S0 top; omega
          clear hRg hC hSlt hl0
          go_wp2
          go_loopw [16, 18] (fun mv iv wr => ∃ (i m' C : Nat) (P : Nat → Bool) (z : Int), iv = .int .i64 z ∧ Hid (z = (i : Int) - 1) ∧ mv = .int .i64 C ∧ Hid (C = manyN tr P top) ∧ Hid (AtPick n ll tr top F i P) ∧ MapP wr MB m' (toP P) ∧ Hid (m' ≤ 128 + 128 * (tr.length - i)) ∧ i ≤ tr.length ∧ C ≤ 1000 ∧ Ex w2 wr) (fun _ iv _ => (intOf iv + 1).toNat)
          case atStart => exact ⟨tr.length, m, C, S0, _, rfl, rfl, rfl, hC2, HAt, hM, by show _ ≤ _; omega, Nat.le_refl _, hCl, hx2r⟩
          case round =>
            clear hM hC2 HAt hx2r hCl
            obtain ⟨i, m', C, P, z, rfl, hz, rfl, hC, HAt, hM, hm', hil, hCl, hx2r⟩ := hrel
            have hxwr := hxa.trans hx2r
            have oTr6 := oT.ex hx2r
            by_cases hc1 : 1 < C
            · obtain ⟨i0, rfl⟩ := HAt.out.some
              obtain rfl : z = i0 := by have := hz.out; omega
              have hmany : 1 < manyN tr P top := by rw [← hC.out]; exact hc1
              have hi0 : i0 < tr.length := by omega
              have hwf : (Lit.int .i64 (i0 : Int)).wf = true := wf_nat (by omega)
              have hlook := hM.look hwf
              rw [toP_nat] at hlook
              have hc1' : (1 : Int) < (C : Int) := by omega
              cases hP : P i0 with
              | false =>
                have HAt2 : Hid (AtPick n ll tr top F i0 P) := HAt.out.skip hmany hP
                have hm2 : Hid (m' ≤ 128 + 128 * (tr.length - i0)) := by have := hm'.out; show _ ≤ _; omega
                rw [hP] at hlook
                clear HAt hmany hP hm' hz
                go_wp2
                go_roundw
                case rel => exact ⟨i0, m', C, P, _, rfl, rfl, rfl, hC, HAt2, hM, hm2, by omega, hCl, hx2r⟩
                case measure => first | (simp [intOf]; done) | (simp [intOf]; omega)
              | true =>
                obtain ⟨hvt, hwn, hAt2⟩ := HAt.out.rep HTr.out hmany hP
                have HAt2 : Hid (AtPick n ll tr top F i0 (repS ll tr P i0)) := hAt2
                rw [hP] at hlook
                obtain ⟨_, hw0, hwl, _, hall⟩ := HTr.out.res i0 hi0 hwn
                have hdel := manyN_del (P := P) (top := top) hi0 hP hvt
                rw [← repTo_zero ll tr, ← hC.out] at hdel
                have HDel : Hid _ := hdel
                obtain ⟨p, hp⟩ : ∃ p : Nat, sW tr i0 = p := ⟨(sW tr i0).toNat, by omega⟩
                have hpl : p < ll.length := by omega
                have eR : sR ll tr i0 = ll.getD p [] := by unfold sR; rw [hp, Int.toNat_natCast]
                obtain ⟨pb, poff, pv, ep, hpb, hpc, hpi, hpcl, hpv⟩ := HRo.out p hpl
                cases ep
                obtain ⟨_, _, ev, _, _, s3⟩ := id HSt2.out
                cases ev
                obtain ⟨sb, soff, rfl, hsb, g0, g1, _⟩ := s3 i0 hi0
                have HSx : Hid (∀ t, t < tr.length → w2.cell? ⟨sb, soff + t * 3 + 2, none⟩ = some (.int .i64 (sV tr t))) := fun t ht => by
                  obtain ⟨b', off', e', _, _, _, g2⟩ := s3 t ht
                  cases e'
                  exact g2
                have HAl : Hid (∀ j, j < (ll.getD p []).length → (ll.getD p []).getD j 0 ≠ sL tr i0 → ∃ t, t < tr.length ∧ wrongN tr ((ll.getD p []).getD j 0) = some t) := fun j hj hnj => by
                  obtain ⟨t, ht, et⟩ := hall _ (by rw [eR, getD_getElem hj]; exact List.getElem_mem hj) hnj
                  exact ⟨t, by omega, HTr.out.wrong (by omega) et⟩
                have HVp : Hid (∀ j, j < (ll.getD p []).length → litVar ((ll.getD p []).getD j 0) ≠ 0) := hpv
                have HRl : Hid (∀ j, j < (ll.getD p []).length → (ll.getD p []).getD j 0 = sL tr i0 → repTo ll tr P i0 (j + 1) = repTo ll tr P i0 j) := fun j hj h => repTo_lit (by rw [eR]; exact hj) (by rw [eR]; exact h)
                have HRa : Hid (∀ j t, j < (ll.getD p []).length → (ll.getD p []).getD j 0 ≠ sL tr i0 → wrongN tr ((ll.getD p []).getD j 0) = some t → repTo ll tr P i0 (j + 1) = fun k => if k = t then true else repTo ll tr P i0 j k) := fun j t hj h hw => repTo_add (by rw [eR]; exact hj) (by rw [eR]; exact h) (by rw [eR]; exact hw)
                have HRs : Hid (∀ j t, j < (ll.getD p []).length → (ll.getD p []).getD j 0 ≠ sL tr i0 → wrongN tr ((ll.getD p []).getD j 0) = some t → repTo ll tr P i0 j t = true → repTo ll tr P i0 (j + 1) = repTo ll tr P i0 j) := fun j t hj h hw ht => repTo_same (by rw [eR]; exact hj) (by rw [eR]; exact h) (by rw [eR]; exact hw) ht
                have HRe : Hid (repTo ll tr P i0 (ll.getD p []).length = repS ll tr P i0) := by have := repTo_end ll tr P i0; rw [eR] at this; exact this
                have hp' : (tr.getD i0 default).why = p := hp
                rw [hp'] at g1
                obtain ⟨sx, hsx⟩ : ∃ x, x = sL tr i0 := ⟨_, rfl⟩
                have hsx' : (tr.getD i0 default).lit = sx := hsx.symm
                rw [hsx'] at g0
                rw [← hsx] at HAl HRl HRa HRs
                have HTXr : Hid (TrlAt w2 X n (.slice (some ⟨rb, roff, none⟩) ll.length rcap) (.slice (some ⟨sb, soff, none⟩) tr.length scap) tr tr.length) := hTX.out
                clear hall hAt2 hdel s3 hsx hsx' hp' hp hpv HAt hmany hP hz hC hvt hwn hw0 hwl HSt2 eR hTX
                generalize ll.getD p [] = rc at *
                have hpi0 := hpi
                obtain ⟨ra', rcap', rfl, rq1, rq2, _⟩ := hpi
                unfold maxLen at rq2
                have hm2 := hm'.out
                go_wp2_with (at_delete; refine wpList_delete_mapP _ rfl _ _ rfl MB m' _ i0 rfl hM rfl hwf ?_; intro w7 hM7 hg7)
                have hx7 : Ex w2 w7 := grown_ex hx2r hg7 (by intro k hk; cases hk; exact hMB1)
                have hM8 : MapP w7 MB m' (toP (repTo ll tr P i0 0)) := hM7.congr fun x => by rw [repTo_zero, toP_del]
                have hC8 : Hid (((C - 1 : Nat)) = manyN tr (repTo ll tr P i0 0) top) := by show _ = _; have := HDel.out; omega
                have hxw7 := hxa.trans hx7
                have d1 := ext_cell ((oT.ex hx7).cell 1)
                have d2 := ext_cell (ex_cell g1 hx7)
                have d3 := ext_cell (ex_cell hpc hxw7)
                have hi02 : ((i0 : Nat) : Int) < tr.length := by omega
                have hpl2 : ((p : Nat) : Int) < ll.length := by omega
                clear hM7 hM hlook hg7 HDel hm'
                refine wp_region_quiet_ext (by kernel_rfl) (by kernel_rfl) ?_
                repeat (go_big_quiet_step ((fail)))
                refine wpQuiet_nil ?_
                intro w8 hx8
                have hM9 := hM8.ex hx8
                have hx28 := hx7.trans hx8
                clear d1 d2 d3 hM8 hx7 hx8 hxw7
                have hC9 : Hid (((C - 1 : Nat)) = manyN tr (repTo ll tr P i0 0) top) := hC8
                have hCm : ((C : Int) - 1) = ((C - 1 : Nat) : Int) := by omega
                clear hC8
                go_wp2
                go_loopw [16, 110] (fun mv jv wr => ∃ (j m2 C2 : Nat), j ≤ rc.length ∧ jv = .int .i64 j ∧ mv = .int .i64 C2 ∧ Hid (C2 = manyN tr (repTo ll tr P i0 j) top) ∧ MapP wr MB m2 (toP (repTo ll tr P i0 j)) ∧ m2 ≤ m' + j ∧ Ex w2 wr) (fun _ jv _ => rc.length - (intOf jv).toNat)
                case atStart => exact ⟨0, m', C - 1, Nat.zero_le _, rfl, val_int hCm, hC9, hM9, Nat.le_refl _, hx28⟩
                case round =>
                  clear hM9 hC9 hx28 hCm
                  obtain ⟨j, m2, C2, hj, rfl, rfl, hC2, hM2, hm2j, hx2s⟩ := hrel
                  have hxws := hxa.trans hx2s
                  have hC2l : C2 ≤ 1000 := by rw [hC2.out]; have := manyN_le tr (repTo ll tr P i0 j) top; omega
                  by_cases hjl : j < rc.length
                  · obtain ⟨_, _, ev, _, _, c3⟩ := hpi0.ex hxws
                    cases ev
                    obtain ⟨cb, coff, rfl, hcb, hcell⟩ := c3 j hjl
                    have HWy : Hid _ := HWrg.out wr X _ (HTXr.out.ex hx2s) (HVp.out j hjl)
                    have HAj : Hid _ := HAl.out j hjl
                    have HRl1 : Hid _ := HRl.out j hjl
                    have HRa1 : Hid (∀ t, _ → _ → _) := fun t => HRa.out j t hjl
                    have HRs1 : Hid (∀ t, _ → _ → _ → _) := fun t => HRs.out j t hjl
                    have HWi : Hid (∀ t, wrongN tr (rc.getD j 0) = some t → wrongI tr (rc.getD j 0) = t) := fun t ht => by unfold wrongI; rw [ht]
                    have g00 := ex_cell g0 hx2s
                    clear c3 HVp HAl HRl HRa HRs HWrg HRo hpi0 HRe HAt2
                    generalize rc.getD j 0 = y at *
                    by_cases hy : y = sx
                    · have hyb : (y != sx) = false := by simp [hy]
                      have e := HRl1.out hy
                      rw [← e] at hC2 hM2
                      clear HRl1 HRa1 HRs1 HAj HWi hy e
                      generalize wrongI tr y = wi at *
                      go_wp2_with fail
                      refine Calls.mono HWy.out ?_
                      rintro e w7 ⟨rfl, hx7⟩
                      have g07 := ex_cell g00 hx7
                      go_wp2
                      go_roundw
                      case rel => exact ⟨j + 1, m2, C2, by omega, by go_num, rfl, hC2, hM2.ex hx7, by omega, hx2s.trans hx7⟩
                      case measure => simp [intOf]; omega
                    · have hyb : (y != sx) = true := bne_iff_ne.2 hy
                      obtain ⟨t, htl, htw⟩ := HAj.out hy
                      have HRa2 : Hid _ := HRa1.out t hy htw
                      have HRs2 : Hid _ := HRs1.out t hy htw
                      have HW2 := HWy.out
                      rw [HWi.out t htw] at HW2
                      have HW3 : Hid _ := HW2
                      have hwt : (Lit.int .i64 (t : Int)).wf = true := wf_nat (by omega)
                      have hlk := fun w7 (hx7 : Ex wr w7) => (hM2.ex hx7).look hwt
                      rw [toP_nat] at hlk
                      have HLk : Hid _ := hlk
                      have hmm2 : m2 ≤ 200000 := by omega
                      have htl2 : ((t : Nat) : Int) < tr.length := by omega
                      clear HRl1 HRa1 HRs1 HAj HWi HWy HW2 hlk htw
                      cases hb : repTo ll tr P i0 j t with
                      | true =>
                        have e := HRs2.out hb
                        rw [← e] at hC2 hM2
                        rw [hb] at HLk
                        clear HRa2 HRs2 hb e
                        go_wp2_with fail
                        refine Calls.mono HW3.out ?_
                        rintro e w7 ⟨rfl, hx7⟩
                        have g07 := ex_cell g00 hx7
                        have hlk7 := HLk.out w7 hx7
                        go_wp2
                        go_roundw
                        case rel => exact ⟨j + 1, m2, C2, by omega, by go_num, rfl, hC2, hM2.ex hx7, by omega, hx2s.trans hx7⟩
                        case measure => simp [intOf]; omega
                      | false =>
                        have hset := manyN_set (top := top) htl hb
                        rw [← HRa2.out, ← hC2.out] at hset
                        have HSet : Hid _ := hset
                        have HMn : Hid (∀ x, (x == (t : Int) || toP (repTo ll tr P i0 j) x) = toP (repTo ll tr P i0 (j + 1)) x) := fun x => by rw [HRa2.out, toP_set]
                        have HSt : Hid _ := HSx.out t htl
                        rw [hb] at HLk
                        clear HRa2 HRs2 hb hset hC2 HSx
                        go_wp2_with fail
                        refine Calls.mono HW3.out ?_
                        rintro e w7 ⟨rfl, hx7⟩
                        have g07 := ex_cell g00 hx7
                        have hlk7 := HLk.out w7 hx7
                        have hM7 := hM2.ex hx7
                        have hx27 := hx2s.trans hx7
                        have hst2 := HSt.out
                        have HSe : Hid (Hid (C2 = C2)) := rfl
                        clear HLk HSe
                        unfold sV at HSet HSt hst2
                        generalize (tr.getD t default).lev = slev at *
                        by_cases he : slev = top
                        · have heb : (slev == top) = true := by simp [he]
                          have hC3 : Hid (C2 + 1 = manyN tr (repTo ll tr P i0 (j + 1)) top) := by show _ = _; rw [HSet.out, if_pos he]
                          clear HSet he
                          go_wp2_with (at_mapUpdate; refine wpList_store_mapP _ rfl _ _ _ rfl MB m2 _ t rfl hM7 (by unfold maxLen; omega) rfl rfl hwt ?_; intro w9 hM9 hg9; have hx9 : Ex w2 w9 := grown_ex hx27 hg9 (by intro k hk; cases hk; exact hMB1); have g29 := ex_cell hst2 hx9)
                          have hM10 : MapP w9 MB (m2 + 1) (toP (repTo ll tr P i0 (j + 1))) := hM9.congr HMn.out
                          clear hM9 hg9 hM7 HMn hlk7 hM2 hst2 HSt
                          go_roundw
                          case rel => exact ⟨j + 1, m2 + 1, C2 + 1, by omega, by go_num, by go_num, hC3, hM10, by omega, hx9⟩
                          case measure => simp [intOf]; omega
                        · have heb : (slev == top) = false := by simp [he]
                          have hC3 : Hid (C2 = manyN tr (repTo ll tr P i0 (j + 1)) top) := by show _ = _; rw [HSet.out, if_neg he]; rfl
                          clear HSet he
                          go_wp2_with (at_mapUpdate; refine wpList_store_mapP _ rfl _ _ _ rfl MB m2 _ t rfl hM7 (by unfold maxLen; omega) rfl rfl hwt ?_; intro w9 hM9 hg9; have hx9 : Ex w2 w9 := grown_ex hx27 hg9 (by intro k hk; cases hk; exact hMB1); have g29 := ex_cell hst2 hx9)
                          have hM10 : MapP w9 MB (m2 + 1) (toP (repTo ll tr P i0 (j + 1))) := hM9.congr HMn.out
                          clear hM9 hg9 hM7 HMn hlk7 hM2 hst2 HSt
                          go_roundw
                          case rel => exact ⟨j + 1, m2 + 1, C2, by omega, by go_num, rfl, hC3, hM10, by omega, hx9⟩
                          case measure => simp [intOf]; omega
                  · obtain rfl : j = rc.length := by omega
                    rw [HRe.out] at hC2 hM2
                    have hm3 : Hid (m2 ≤ 128 + 128 * (tr.length - i0)) := by show _ ≤ _; omega
                    clear HVp HAl HRl HRa HRs HWrg HRo hpi0 HRe
                    go_wp2
                    go_roundw
                    case rel => exact ⟨i0, m2, C2, repS ll tr P i0, _, rfl, rfl, rfl, hC2, HAt2, hM2, hm3, by omega, hC2l, hx2s⟩
                    case measure => first | (simp [intOf]; done) | (simp [intOf]; omega)
            · obtain rfl : P = F := HAt.out.stop (by rw [← hC.out]; exact hc1)
              have HOS : Hid (∀ k, outTo tr P (k + 1) = outTo tr P k ++ if P k = true then [-sL tr k] else []) := outTo_succ tr P
              have HBS : Hid (∀ k, backTo tr P top (k + 1) = if P k = true ∧ sV tr k < top then max (backTo tr P top k) (sV tr k) else backTo tr P top k) := backTo_succ tr P top
              have HOL : Hid (∀ k, (outTo tr P k).length ≤ k) := outTo_len tr P
              have HVal : Hid (∀ k, k < tr.length → -1000 ≤ (tr.getD k default).lit ∧ (tr.getD k default).lit ≤ 1000) := fun k hk => by have := (litValid_iff _ _).1 (HTr.out.val k hk); unfold sL at this; omega
              have HCl : Hid (∀ wa u, IntsAt wa u (outTo tr P tr.length) → Calls Try.prog 35 #[u, .int .i64 n] wa (ClauseRet wa (orderL (outTo tr P tr.length)) (oppB (orderL (outTo tr P tr.length))) 0)) := fun wa u hu => by
                have hv : (outTo tr P tr.length).all (litValid · n) = true := List.all_eq_true.2 fun x hx => by
                  obtain ⟨k, hk, _, rfl⟩ := outTo_mem.1 hx
                  exact lit_valid_neg (HTr.out.val k hk)
                have := litClause_any u (outTo tr P tr.length) n wa hu (by have := outTo_len tr P tr.length; omega)
                unfold clauseL clauseB clauseE at this
                rw [hv] at this
                exact this
              have hcn : ¬ (1 : Int) < (C : Int) := by omega
              clear HAt hC hz hm' HRo HWrg hTX HTr
              generalize hw6 : wr = w6 at *
              clear hw6
              go_wp2
              go_loopw [6, 7, 144] (fun ov bv kv wr => ∃ (i : Nat) (bk : Int), i ≤ tr.length ∧ kv = .int .i64 i ∧ OwnI wr w6.heap.size ov (outTo tr P i) ∧ bv = .int .i64 bk ∧ Hid (bk = backTo tr P top i) ∧ Ex w6 wr) (fun _ _ kv _ => tr.length - (intOf kv).toNat)
              case atStart => exact ⟨0, 0, Nat.zero_le _, rfl, OwnI.nil _ _, rfl, rfl, Ex.refl _⟩
              case round =>
                obtain ⟨i, bk, hi, rfl, hO, rfl, hbk, hx6r⟩ := hrel
                have hx2s := hx2r.trans hx6r
                have hs6 := hx6r.size
                obtain ⟨oa, ocap, rfl, o1, o2, _⟩ := hO.ints
                unfold maxLen at o2
                by_cases hil2 : i < tr.length
                · obtain ⟨_, _, ev, _, _, s3⟩ := id HSt2.out
                  cases ev
                  obtain ⟨sb, soff, rfl, hsb, g0w, _, g2w⟩ := s3 i hil2
                  have g0 := ex_cell g0w hx2s
                  have g2 := ex_cell g2w hx2s
                  obtain ⟨v1, v2⟩ := HVal.out i hil2
                  have hol := HOL.out i
                  have hos := HOS.out i
                  have hbs := HBS.out i
                  rw [← hbk.out] at hbs
                  have hwf : (Lit.int .i64 (i : Int)).wf = true := wf_nat (by omega)
                  have hlook := (hM.ex hx6r).look hwf
                  rw [toP_nat] at hlook
                  have hil3 : ((i : Nat) : Int) < tr.length := by omega
                  have hwz : IntKind.i64.wrap (-(tr.getD i default).lit) = -(tr.getD i default).lit := IntWalk.i64_in _ (by omega)
                  unfold sL at hos
                  unfold sV at hbs
                  clear s3 HVal HOL HOS HBS HCl hbk HSt2
                  generalize (tr.getD i default).lit = sx at *
                  generalize (tr.getD i default).lev = slev at *
                  cases hP : P i with
                  | false =>
                    rw [hP] at hlook hos hbs
                    have HO2 : Hid (outTo tr P (i + 1) = outTo tr P i) := by show _ = _; rw [hos]; simp
                    have HB2 : Hid (bk = backTo tr P top (i + 1)) := by show _ = _; rw [hbs, if_neg (by simp)]
                    clear hos hbs hP
                    go_wp2
                    go_roundw
                    case rel => exact ⟨i + 1, bk, by omega, by go_num, by rw [HO2.out]; exact hO, rfl, HB2, hx6r⟩
                    case measure => simp [intOf]; omega
                  | true =>
                    rw [hP] at hlook hos hbs
                    have HO2 : Hid (outTo tr P (i + 1) = outTo tr P i ++ [-sx]) := by show _ = _; rw [hos]; simp
                    have hI := intsAt_fresh wr (-sx) 3
                    by_cases hlt2 : slev < top
                    · have HB2 : Hid (max bk slev = backTo tr P top (i + 1)) := by show _ = _; rw [hbs, if_pos ⟨rfl, hlt2⟩]
                      clear hos hbs hP
                      go_wp2_with (at_builtin; refine wpList_append_ints rfl (.tmp 150) (.tmp 157) rfl rfl rfl (hO.ex (Ex.alloc _ _)) hI ?c1 ?c2 ?_)
                      case c1 => first | (simp only [List.length_cons, List.length_nil]; omega) | omega
                      case c2 => first | (rw [alloc_size]; omega) | omega
                      intro v7 w7 hown7 hg7
                      have hx67 : Ex w6 w7 := grown_ex (hx6r.alloc' _) hg7 (ownsRow_block hO)
                      have hxr7 : Ex w2 w7 := hx2r.trans hx67
                      have g27 := ex_cell g2w hxr7
                      rw [← HO2.out] at hown7
                      clear hg7 hI hO hlook
                      go_wp2
                      go_roundw
                      case rel => exact ⟨i + 1, max bk slev, by omega, by go_num, hown7, rfl, HB2, hx67⟩
                      case measure => simp [intOf]; omega
                    · have HB2 : Hid (bk = backTo tr P top (i + 1)) := by show _ = _; rw [hbs, if_neg (fun h => hlt2 h.2)]
                      clear hos hbs hP
                      go_wp2_with (at_builtin; refine wpList_append_ints rfl (.tmp 150) (.tmp 157) rfl rfl rfl (hO.ex (Ex.alloc _ _)) hI ?c1 ?c2 ?_)
                      case c1 => first | (simp only [List.length_cons, List.length_nil]; omega) | omega
                      case c2 => first | (rw [alloc_size]; omega) | omega
                      intro v7 w7 hown7 hg7
                      have hx67 : Ex w6 w7 := grown_ex (hx6r.alloc' _) hg7 (ownsRow_block hO)
                      have hxr7 : Ex w2 w7 := hx2r.trans hx67
                      have g27 := ex_cell g2w hxr7
                      rw [← HO2.out] at hown7
                      clear hg7 hI hO hlook
                      go_wp2
                      go_roundw
                      case rel => exact ⟨i + 1, bk, by omega, by go_num, hown7, rfl, HB2, hx67⟩
                      case measure => simp [intOf]; omega
                · obtain rfl : i = tr.length := by omega
                  have HC1 : Hid _ := HCl.out wr _ hO.ints
                  have oTf := oT.ex hx2s
                  have d0 := oTf.cell 0
                  have d1 := oTf.lt
                  have hxf := hxa.trans hx2s
                  have hbk2 : Hid (bk = backTo tr P (topI tr c) tr.length) := by show _ = _; rw [hbk.out, HTopK.out]
                  clear HCl HOS HBS HOL HVal hM hO
                  generalize orderL (outTo tr P tr.length) = OL at *
                  go_wp2_with fail
                  refine Calls.mono HC1.out ?_
                  rintro e w8 ⟨v8, rfl, ho8, hx8⟩
                  go_wp2
                  refine bodyPost_ret (v := .tuple #[v8, .int .i64 bk, .int .i64 0]) (by simp [results, Try.results15, go_sem]) rfl ?_
                  exact ⟨_, by rw [← hbk2.out], ho8.base hxf.size, hxf.trans hx8⟩
        · intro x c' w6 cnt6 hwx hlx hpx hRg6 hlt6 hg6 hen
          obtain ⟨t, rfl, hSt⟩ := toP_true hpx
          have htl := hSlt.out t hSt
          have hst := cntLeft_step (top := top) htl hSt hlx
          rw [← hC.out] at hst
          have HST : Hid _ := hst
          have hx6 : Ex w2 w6 := grown_ex hx2r hg6 (by intro k hk; cases hk; exact hr2)
          have hms : w6.rangeLeft MB r < wr.rangeLeft MB r := by rw [hRg6.left_eq, hRg.left_eq]; exact hlt6
          have HMs : Hid _ := hms
          obtain ⟨_, _, ev, _, _, s3⟩ := id HSt2.out
          cases ev
          obtain ⟨sb, soff, rfl, hsb, _, _, g2⟩ := s3 t htl
          have g26 := ex_cell g2 hx6
          have htl2 : ((t : Nat) : Int) < tr.length := by omega
          have hCl : C ≤ 1000 := by rw [hC.out]; exact Nat.le_trans (cnt_le _ _) hlen
          clear s3 hst hRg hC hms hlt6 hg6 hSlt HAt hpx hwx hlx
          unfold sV at HST
          generalize (tr.getD t default).lev = slev at *
          by_cases he : slev = top
          · have heb : (slev == top) = true := by simp [he]
            have HC2 : Hid (C + 1 = cntLeft tr S0 top (fun z => left z && !z.sameKey (.int .i64 (t : Int)))) := by show _ = _; rw [HST.out, if_pos he]
            clear HST he
            go_wp2
            go_roundw
            case rel => exact ⟨_, cnt6, C + 1, hRg6, by go_num, HC2, hx6⟩
            case measure => exact HMs.out
          · have heb : (slev == top) = false := by simp [he]
            have HC2 : Hid (C = cntLeft tr S0 top (fun z => left z && !z.sameKey (.int .i64 (t : Int)))) := by show _ = _; rw [HST.out, if_neg he]; rfl
            clear HST he
            go_wp2
            go_roundw
            case rel => exact ⟨_, cnt6, C, hRg6, rfl, HC2, hx6⟩
            case measure => exact HMs.out
end Go.Proofs.Yteagoaiiacideaa
