/- The program's Redundant. No condition but the lengths. -/
import Derived.Test.YteagoaiiacideaaLearn3
import Derived.Test.YteagoaiiacideaaLrnF
import Derived.Test.YteagoaiiacideaaG4
namespace Go.Proofs.Yteagoaiiacideaa
set_option linter.unusedSimpArgs false
set_option linter.unusedVariables false
open Go.RowKit
set_option maxRecDepth 20000
/-- What a call leaves that returns a list and an error. -/
def RedRet (w : World) (L : List Int) (er : Int) (e : Ending) (w' : World) : Prop := ∃ v, e = .returned (.tuple #[v, .int .i64 er]) ∧ OwnI w' w.heap.size v L ∧ Ex w w'
theorem confS_take {tr : List St} {c : List Int} {k i : Nat} (hk : k < c.length) (hw : wrongN tr (c.getD k 0) = some i) : confS tr (c.take (k + 1)) = fun j => if j = i then true else confS tr (c.take k) j := by
  funext j
  unfold confS
  rw [List.take_succ_eq_append_getElem hk, List.any_append, ← getD_getElem (d := 0) hk]
  simp only [List.any_cons, List.any_nil, Bool.or_false, hw]
  by_cases e : j = i
  · subst e; rw [if_pos rfl]; simp
  · rw [if_neg e]
    have : (some i == some j) = false := by simp; exact fun h => e h.symm
    rw [this, Bool.or_false]
theorem redOk_no {n : Int} {ll : List (List Int)} {tr : List St} {c : List Int} {k : Nat} (hk : k < c.length) (h : litValid (c.getD k 0) n = false ∨ trueT tr (-(c.getD k 0)) = false) : redOk n ll tr c = false := by
  unfold redOk
  rw [not_all_of_getD (d := 0) (l := c) hk (by rcases h with h | h <;> rw [h] <;> simp)]
  simp
theorem redOk_yes {n : Int} {ll : List (List Int)} {tr : List St} {c : List Int} (h0 : (decide (theoryErr n ll = 0) && trailB n ll tr) = true) (h : ∀ k, k < c.length → litValid (c.getD k 0) n = true ∧ trueT tr (-(c.getD k 0)) = true) : redOk n ll tr c = true := by
  unfold redOk
  rw [Bool.and_eq_true] at h0
  rw [h0.1, h0.2, all_of_getD (d := 0) (l := c) (fun j hj => by rw [(h j hj).1, (h j hj).2]; rfl)]; rfl
theorem redOk_bad {n : Int} {ll : List (List Int)} {tr : List St} {c : List Int} (h0 : (decide (theoryErr n ll = 0) && trailB n ll tr) = false) : redOk n ll tr c = false := by
  unfold redOk
  rw [← Bool.and_assoc, h0]; rfl
theorem folTo_ge {ll : List (List Int)} {tr : List St} {I : Nat → Bool} : ∀ (i k : Nat), i ≤ k → folTo ll tr I i k = false
  | 0, _, _ => rfl
  | i + 1, k, h => by
    show (if k = i then _ else _) = _
    rw [if_neg (by omega)]
    exact folTo_ge i k (by omega)
theorem folTo_dec {ll : List (List Int)} {tr : List St} {I : Nat → Bool} {i : Nat} (h : ¬ 0 ≤ sW tr i) : folTo ll tr I (i + 1) = folTo ll tr I i := by
  funext k
  show (if k = i then _ else _) = _
  by_cases e : k = i
  · subst e
    rw [if_pos rfl, folTo_ge k k (Nat.le_refl _)]
    unfold folAt
    rw [decide_eq_false h]; rfl
  · rw [if_neg e]
/-- The value at a step after the first j literals of its reason. -/
def folIn (ll : List (List Int)) (tr : List St) (I F : Nat → Bool) (i j : Nat) : Bool := ((sR ll tr i).take j).all fun y => y == sL tr i || coverAt tr I F y
theorem folIn_succ {ll : List (List Int)} {tr : List St} {I F : Nat → Bool} {i j : Nat} (hj : j < (sR ll tr i).length) : folIn ll tr I F i (j + 1) = (folIn ll tr I F i j && ((sR ll tr i).getD j 0 == sL tr i || coverAt tr I F ((sR ll tr i).getD j 0))) := by
  unfold folIn
  rw [List.take_succ_eq_append_getElem hj, List.all_append, getD_getElem hj]; simp
theorem folIn_keep {ll : List (List Int)} {tr : List St} {I F : Nat → Bool} {i j : Nat} (hj : j < (sR ll tr i).length) (h : (sR ll tr i).getD j 0 = sL tr i ∨ coverAt tr I F ((sR ll tr i).getD j 0) = true) : (fun k => if k = i then folIn ll tr I F i j else F k) = fun k => if k = i then folIn ll tr I F i (j + 1) else F k := by
  have e : ((sR ll tr i).getD j 0 == sL tr i || coverAt tr I F ((sR ll tr i).getD j 0)) = true := by rw [Bool.or_eq_true, beq_iff_eq]; exact h
  rw [folIn_succ hj, e, Bool.and_true]
theorem folIn_drop {ll : List (List Int)} {tr : List St} {I F : Nat → Bool} {i j : Nat} (hj : j < (sR ll tr i).length) (h1 : (sR ll tr i).getD j 0 ≠ sL tr i) (h2 : coverAt tr I F ((sR ll tr i).getD j 0) = false) : (fun k => if k = i then false else if k = i then folIn ll tr I F i j else F k) = fun k => if k = i then folIn ll tr I F i (j + 1) else F k := by
  have e : ((sR ll tr i).getD j 0 == sL tr i || coverAt tr I F ((sR ll tr i).getD j 0)) = false := by rw [h2, Bool.or_false, beq_eq_false_iff_ne]; exact h1
  funext k
  rw [folIn_succ hj, e, Bool.and_false]
  by_cases g : k = i
  · rw [if_pos g, if_pos g]
  · rw [if_neg g, if_neg g, if_neg g]
theorem folIn_zero {ll : List (List Int)} {tr : List St} {I F : Nat → Bool} {i : Nat} : (fun k => if k = i then true else F k) = fun k => if k = i then folIn ll tr I F i 0 else F k := rfl
theorem folIn_end {ll : List (List Int)} {tr : List St} {I : Nat → Bool} {i : Nat} (h : 0 ≤ sW tr i) : (fun k => if k = i then folIn ll tr I (folTo ll tr I i) i (sR ll tr i).length else folTo ll tr I i k) = folTo ll tr I (i + 1) := by
  funext k
  show _ = (if k = i then _ else _)
  by_cases e : k = i
  · rw [if_pos e, if_pos e]
    unfold folIn folAt
    rw [List.take_length, decide_eq_true h]; rfl
  · rw [if_neg e, if_neg e]
set_option maxRecDepth 100000 in
set_option maxHeartbeats 8000000 in
theorem learnRedundant_any (n : Int) (lv sv cv : Value) (ll : List (List Int)) (tr : List St) (c : List Int) (w : World) (hR : RowsAt w lv ll) (hS : StepsAt w sv tr) (hc : IntsAt w cv c) (hlen : tr.length ≤ 1000) (hcl : c.length ≤ 1000) :
    Calls Try.prog 20 #[.agg #[.int .i64 n, lv], sv, cv] w (RedRet w (redL n ll tr c) (redE n ll tr c)) := by
  have HEx : Hid (∀ wa, Ex w wa → Calls Try.prog 33 #[.agg #[.int .i64 n, lv], sv] wa (ExamRet wa n lv sv tr (decide (theoryErr n ll = 0) && trailB n ll tr))) := fun wa hx => learnExamine_any n lv sv ll tr wa (hR.ex hx) (hS.ex hx) hlen
  have hS0 := hS
  have hc0 := hc
  have hR0 := hR
  obtain ⟨ra, rcap, rfl, r1, r2, r3⟩ := hR
  obtain ⟨sa, scap, rfl, s1, s2, s3⟩ := hS
  obtain ⟨pa, pcap, rfl, p1, p2, p3⟩ := hc
  unfold maxLen at r2 s2 p2
  clear r3 s3 p3
  have oT := OwnB.new w [.int .i64 n, .slice ra ll.length rcap] 24
  have hxa := Ex.alloc w (.cells #[.int .i64 n, .slice ra ll.length rcap] 24)
  cases hok : (decide (theoryErr n ll = 0) && trailB n ll tr) with
  | false =>
    rw [hok] at HEx
    have hr : redOk n ll tr c = false := redOk_bad hok
    have e1 : redL n ll tr c = [] := by unfold redL; rw [hr]; rfl
    have e2 : redE n ll tr c = 1 := by unfold redE; rw [hr]; rfl
    rw [e1, e2]
    clear hok hr e1 e2
    go_enter Try.func20, Try.ntmps20
    go_wp2_with fail
    refine (HEx.out _ hxa).mono ?_
    rintro e w2 h2
    obtain ⟨rfl, hx2⟩ := exam_noR h2
    go_wp2
    go_ret2
    exact ⟨_, rfl, OwnI.nil _ _, hxa.trans hx2⟩
  | true =>
  rw [hok] at HEx
  have hth : theoryErr n ll = 0 := by rw [Bool.and_eq_true, decide_eq_true_eq] at hok; exact hok.1
  have htb : trailB n ll tr = true := by rw [Bool.and_eq_true] at hok; exact hok.2
  have hTrl := trl_of htb
  have hOnce : Once (tr.take tr.length) := once_of (Nat.le_refl _) (trailB_iff.1 htb)
  have HOk : Hid ((decide (theoryErr n ll = 0) && trailB n ll tr) = true) := hok
  have HWrg : Hid (∀ wa X y, TrlAt wa X n (.slice ra ll.length rcap) (.slice sa tr.length scap) tr tr.length → litVar y ≠ 0 → Calls Try.prog 34 #[.pointer (some ⟨X, 0, none⟩), .int .i64 y] wa fun e w' => e = .returned (.int .i64 (wrongI tr y)) ∧ Ex wa w') := fun wa X y h hy => by
    have := learnWrong_any wa X n _ _ tr tr.length y h (Nat.le_refl _) hOnce hy hlen
    rwa [List.take_length] at this
  have HNo : Hid (∀ k, k < c.length → litValid (c.getD k 0) n = false ∨ trueT tr (-(c.getD k 0)) = false → redL n ll tr c = [] ∧ redE n ll tr c = 1) := fun k hk h => by
    have hr : redOk n ll tr c = false := redOk_no hk h
    unfold redL redE; rw [hr]; exact ⟨rfl, rfl⟩
  have HYe : Hid ((∀ k, k < c.length → litValid (c.getD k 0) n = true ∧ trueT tr (-(c.getD k 0)) = true) → redL n ll tr c = orderL (outTo tr (redS ll tr c) tr.length) ∧ redE n ll tr c = 0) := fun h => by
    have hr : redOk n ll tr c = true := redOk_yes HOk.out h
    unfold redL redE; rw [hr]; exact ⟨rfl, rfl⟩
  have HTr : Hid (Trl n ll tr) := hTrl
  have HTh : Hid (theoryErr n ll = 0) := hth
  have hmk := run_make_bools tr.length (by omega)
  clear hok hth htb hTrl hOnce HOk
  generalize redL n ll tr c = RL at *
  generalize redE n ll tr c = RE at *
  go_enter Try.func20, Try.ntmps20
  go_wp2_with fail
  refine (HEx.out _ hxa).mono ?_
  rintro e w2 h2
  obtain ⟨X, rfl, hT2, hX2, hx2⟩ := exam_yesR h2
  replace oT := oT.ex hx2
  replace hxa := hxa.trans hx2
  clear HEx hx2 h2
  have z0 := oT.lt
  go_wp2
  have oIB := (OwnB.new w2 (boolV tr.length fun _ => false) 4).ex (Ex.alloc _ (.cells #[.slice (some ⟨w2.heap.size, 0, none⟩) tr.length tr.length] 81))
  have oIP := OwnB.new (w2.alloc (.cells (boolV tr.length fun _ => false).toArray 4)) [.slice (some ⟨w2.heap.size, 0, none⟩) tr.length tr.length] 81
  have hx23 := (Ex.alloc w2 (.cells (boolV tr.length fun _ => false).toArray 4)).alloc' (.cells #[.slice (some ⟨w2.heap.size, 0, none⟩) tr.length tr.length] 81)
  rw [alloc_size] at oIP
  generalize (w2.alloc (.cells (boolV tr.length fun _ => false).toArray 4)).alloc (.cells #[.slice (some ⟨w2.heap.size, 0, none⟩) tr.length tr.length] 81) = w3 at *
  have oIB0 : OwnB w3 w2.heap.size (boolV tr.length (confS tr (c.take 0))) 4 := oIB
  have hmk2 : Hid (∀ w, (Instr.makeSlice 81 (.int .i64 tr.length) (.int .i64 tr.length)).run Try.prog w = .ok (.slice (some ⟨w.heap.size, 0, none⟩) tr.length tr.length) (w.alloc (.cells (boolV tr.length fun _ => false).toArray 4))) := hmk
  have hTX : Hid (TrlAt w2 X n (.slice ra ll.length rcap) (.slice sa tr.length scap) tr tr.length) := hT2
  have hXlt := hT2.body.lt
  clear hmk oIB hT2
  have hIBe : w2.heap.size ≤ w2.heap.size := Nat.le_refl _
  generalize hIB : w2.heap.size = IB at oIB0 oIP hx23 ⊢
  rw [hIB] at hXlt
  have hIBe : w2.heap.size ≤ IB := Nat.le_of_eq hIB
  have hIBs : IB + 1 < w3.heap.size := oIP.lt
  clear hIB
  go_loopw [35] (fun kv wr => ∃ k : Nat, k ≤ c.length ∧ kv = .int .i64 k ∧ Ex w2 wr ∧ OwnB wr IB (boolV tr.length (confS tr (c.take k))) 4 ∧ OwnB wr (IB + 1) [.slice (some ⟨IB, 0, none⟩) tr.length tr.length] 81 ∧ Hid (∀ j, j < k → litValid (c.getD j 0) n = true ∧ trueT tr (-(c.getD j 0)) = true)) (fun kv _ => c.length - (intOf kv).toNat)
  case atStart => exact ⟨0, Nat.zero_le _, rfl, hx23, oIB0, oIP, fun j hj => by omega⟩
  case round =>
    clear oIB0 oIP hx23
    obtain ⟨k, hk, rfl, hxr, oIB, oIP, HD⟩ := hrel
    have hxw := hxa.trans hxr
    have oTr := oT.ex hxr
    have c0 := oTr.cell 0
    have c1 := oTr.cell 1
    have z0r := oTr.lt
    by_cases hlt : k < c.length
    · obtain ⟨_, _, ev, _, _, c3⟩ := hc0.ex hxw
      cases ev
      obtain ⟨b, off, rfl, hb, hcell⟩ := c3 k hlt
      have hTXr : Hid (TrlAt wr X n (.slice ra ll.length rcap) (.slice sa tr.length scap) tr tr.length) := hTX.out.ex hxr
      have HVa : Hid (∀ wb, Calls Try.prog 45 #[.int .i64 (c.getD k 0), .int .i64 n] wb fun e w' => e = .returned (.bool (litValid (c.getD k 0) n)) ∧ wb = w') := fun wb => litValid_any _ n wb
      have HNk : Hid _ := HNo.out k hlt
      have HWy : Hid (litVar (c.getD k 0) ≠ 0 → ∀ wa, Ex wr wa → Calls Try.prog 34 #[.pointer (some ⟨X, 0, none⟩), .int .i64 (c.getD k 0)] wa fun e w' => e = .returned (.int .i64 (wrongI tr (c.getD k 0))) ∧ Ex wa w') := fun hy wa hx => HWrg.out wa X _ (hTXr.out.ex hx) hy
      have HNeg : Hid (wrongI tr (c.getD k 0) < 0 ↔ trueT tr (-(c.getD k 0)) = false) := wrongI_neg
      have HWs : Hid (∀ i, wrongN tr (c.getD k 0) = some i → i < tr.length ∧ wrongI tr (c.getD k 0) = i) := fun i h => ⟨(wrongN_some h).1, by unfold wrongI; rw [h]⟩
      have HCs : Hid (∀ i, wrongN tr (c.getD k 0) = some i → confS tr (c.take (k + 1)) = fun j => if j = i then true else confS tr (c.take k) j) := fun i h => confS_take hlt h
      have HSo : Hid (trueT tr (-(c.getD k 0)) = true → ∃ i, wrongN tr (c.getD k 0) = some i) := fun h => wrongN_isSome.2 h
      have HDn : Hid (litValid (c.getD k 0) n = true → trueT tr (-(c.getD k 0)) = true → ∀ j, j < k + 1 → litValid (c.getD j 0) n = true ∧ trueT tr (-(c.getD j 0)) = true) := fun h1 h2 j hj => by
        by_cases e : j = k
        · subst e; exact ⟨h1, h2⟩
        · exact HD.out j (by omega)
      clear c3 HD HNo HYe HWrg hTXr hTX hS0 hR0
      generalize c.getD k 0 = y at *
      cases hva : litValid y n with
      | false =>
        obtain ⟨e1, e2⟩ := HNk.out (.inl hva)
        subst e1 e2
        rw [hva] at HVa
        clear HNk HWy HNeg HWs HCs HSo HDn oIB oIP hva
        go_wp2_with fail
        refine (HVa.out _).mono ?_
        rintro e w6 ⟨rfl, rfl⟩
        go_wp2
        go_ret2
        exact ⟨_, rfl, OwnI.nil _ _, hxw⟩
      | true =>
        have HW1 : Hid _ := HWy.out (litVar_ne hva)
        rw [hva] at HVa
        clear HWy
        cases htt : trueT tr (-y) with
        | false =>
          obtain ⟨e1, e2⟩ := HNk.out (.inr htt)
          subst e1 e2
          have hng := HNeg.out.2 htt
          clear HNk HNeg HWs HCs HSo HDn oIB oIP hva htt
          generalize wrongI tr y = wi at *
          go_wp2_with fail
          refine (HVa.out _).mono ?_
          rintro e w6 ⟨rfl, rfl⟩
          go_wp2_with fail
          refine (HW1.out _ (Ex.refl _)).mono ?_
          rintro e w6 ⟨rfl, hx6⟩
          go_wp2
          go_ret2
          exact ⟨_, rfl, OwnI.nil _ _, hxw.trans hx6⟩
        | true =>
          obtain ⟨i, hi⟩ := HSo.out htt
          obtain ⟨hil, hwi⟩ := HWs.out i hi
          have HC2 : Hid _ := HCs.out i hi
          have HD2 : Hid _ := HDn.out hva htt
          rw [hwi] at HW1
          have hil2 : ((i : Nat) : Int) < tr.length := by omega
          clear HNk HNeg HWs HCs HSo HDn hva htt hi hwi
          go_wp2_with fail
          refine (HVa.out _).mono ?_
          rintro e w6 ⟨rfl, rfl⟩
          go_wp2_with fail
          refine (HW1.out _ (Ex.refl _)).mono ?_
          rintro e w6 ⟨rfl, hx6⟩
          replace oIB := oIB.ex hx6
          replace oIP := oIP.ex hx6
          have HW6 : Hid _ := HW1.out
          have hx26 := hxr.trans hx6
          have d0 := oIP.cell 0
          have y0 := oIP.lt
          have y1 := oIB.lt
          clear HW1 c0 c1 z0r HVa
          go_wp2
          go_region_law ((go_simp; go_at_call 34; refine (HW6.out _ (hx6.trans (Ex.refl _).drew)).mono ?_; rintro e w7 ⟨rfl, hx7⟩; have hx67 := (Ex.refl w6).drew.trans hx7; have oIB7 := oIB.ex hx67; have oIP7 := oIP.ex hx67; have e0 := oIP7.cell 0; have e1 := oIB7.cell i; rw [boolV_get hil] at e1; have e2 := oIB7.free i; have e3 := oIB7.lt; have e4 := oIP7.lt))
          all_goals (
            have oIB8 := oIB7.set i (.bool true)
            rw [boolV_set hil, ← HC2.out] at oIB8
            have oIP8 := oIP7.set_other (c := IB) i (.bool true) (by omega)
            have hx8 := (hx26.trans hx67).setCell (p := ⟨IB, i, none⟩) hIBe (.bool true)
            go_wp2
            go_roundw
            case rel => exact ⟨k + 1, by omega, by go_num, hx8, oIB8, oIP8, HD2⟩
            case measure => simp [intOf]; omega)
    · obtain rfl : k = c.length := by omega
      obtain ⟨e1, e2⟩ := HYe.out HD.out
      subst e1 e2
      rw [List.take_length] at oIB
      have hTXr : Hid (TrlAt wr X n (.slice ra ll.length rcap) (.slice sa tr.length scap) tr tr.length) := hTX.out.ex hxr
      have hmk := hmk2.out
      have hIBw : IB + 1 < wr.heap.size := oIP.lt
      have HInS : Hid (confS tr c = inS tr c) := rfl
      clear HNo HYe hTX hc0 HD hS0
      generalize hw4 : wr = w4 at *
      clear hw4
      have oIBk := oIB
      have oIPk := oIP
      clear oIB oIP
      go_wp2
      have oFB := (OwnB.new w4 (boolV tr.length fun _ => false) 4).ex (Ex.alloc _ (.cells #[.slice (some ⟨w4.heap.size, 0, none⟩) tr.length tr.length] 81))
      have oFP := OwnB.new (w4.alloc (.cells (boolV tr.length fun _ => false).toArray 4)) [.slice (some ⟨w4.heap.size, 0, none⟩) tr.length tr.length] 81
      have hx45 := (Ex.alloc w4 (.cells (boolV tr.length fun _ => false).toArray 4)).alloc' (.cells #[.slice (some ⟨w4.heap.size, 0, none⟩) tr.length tr.length] 81)
      rw [alloc_size] at oFP
      generalize (w4.alloc (.cells (boolV tr.length fun _ => false).toArray 4)).alloc (.cells #[.slice (some ⟨w4.heap.size, 0, none⟩) tr.length tr.length] 81) = w5 at *
      generalize hI : confS tr c = I at *
      have HIe : Hid (inS tr c = I) := hI
      clear HInS hI hmk2 hmk
      have oFB0 : OwnB w5 w4.heap.size (boolV tr.length (folTo ll tr I 0)) 4 := oFB
      have hFBe : w4.heap.size ≤ w4.heap.size := Nat.le_refl _
      obtain ⟨FB, hFB⟩ : ∃ FB, FB = w4.heap.size := ⟨_, rfl⟩
      rw [← hFB] at oFB0 oFP ⊢
      have hFB1 : w4.heap.size ≤ FB := by omega
      have hFB2 : FB ≤ w4.heap.size := by omega
      have oIB4 : OwnB w4 IB (boolV tr.length I) 4 := oIBk
      have oIP4 : OwnB w4 (IB + 1) [.slice (some ⟨IB, 0, none⟩) tr.length tr.length] 81 := oIPk
      clear hFB hFBe oFB oIBk oIPk
      go_loopw [62] (fun kv wr => ∃ i : Nat, i ≤ tr.length ∧ kv = .int .i64 i ∧ Ex w4 wr ∧ OwnB wr FB (boolV tr.length (folTo ll tr I i)) 4 ∧ OwnB wr (FB + 1) [.slice (some ⟨FB, 0, none⟩) tr.length tr.length] 81) (fun kv _ => tr.length - (intOf kv).toNat)
      case atStart => exact ⟨0, Nat.zero_le _, rfl, hx45, oFB0, oFP⟩
      case round =>
        clear oFB0 oFP hx45
        obtain ⟨i, hi, rfl, hx4r, oFB, oFP⟩ := hrel
        have hx2r := hxr.trans hx4r
        have hxw4 := hxw.trans hx4r
        have oIB := oIB4.ex hx4r
        have oIP := oIP4.ex hx4r
        have oTq := oTr.ex hx4r
        have hTXq : Hid (TrlAt wr X n (.slice ra ll.length rcap) (.slice sa tr.length scap) tr tr.length) := hTXr.out.ex hx4r
        have d0 := oFP.cell 0
        have y0 := oFP.lt
        clear c0 c1 z0r
        have c0 := oTq.cell 0
        have c1 := oTq.cell 1
        have z0r := oTq.lt
        by_cases hil : i < tr.length
        · obtain ⟨_, _, ev, _, _, s3⟩ := hTXq.out.steps
          cases ev
          obtain ⟨b, off, rfl, hb, g0, g1, g2⟩ := s3 i hil
          have hval := (HTr.out.val i hil)
          have oB := OwnB.new wr [.int .i64 (tr.getD i default).lit, .int .i64 (tr.getD i default).why, .int .i64 (tr.getD i default).lev] 55
          have hxB := Ex.alloc wr (.cells #[.int .i64 (tr.getD i default).lit, .int .i64 (tr.getD i default).why, .int .i64 (tr.getD i default).lev] 55)
          have b0 := oB.cell 0
          have b1 := oB.cell 1
          have zB := oB.lt
          have hFBw : FB + 1 < wr.heap.size := y0
          clear s3
          by_cases hw : 0 ≤ sW tr i
          rotate_left
          · have hst := folTo_dec (ll := ll) (I := I) hw
            have oFB2 := oFB.ex hxB
            rw [← hst] at oFB2
            have oFP2 := oFP.ex hxB
            have hx2 := hx4r.trans hxB
            have hw' : (tr.getD i default).why < 0 := by unfold sW at hw; omega
            clear hst HWrg HIe hTXr hTXq hval hw oFB oFP oIB oIP
            generalize (tr.getD i default).lit = sx at *
            generalize (tr.getD i default).why = sw at *
            generalize (tr.getD i default).lev = sl at *
            go_wp2
            go_roundw
            case rel => exact ⟨i + 1, by omega, by go_num, hx2, oFB2, oFP2⟩
            case measure => simp [intOf]; omega
          · have hne : sW tr i ≠ -1 := by omega
            obtain ⟨_, _, hwl, hmem, hall⟩ := HTr.out.res i hil hne
            obtain ⟨q, hq⟩ : ∃ q : Nat, sW tr i = q := ⟨(sW tr i).toNat, by omega⟩
            have hql : q < ll.length := by omega
            have eR : sR ll tr i = ll.getD q [] := by unfold sR; rw [hq, Int.toNat_natCast]
            obtain ⟨_, _, ev, _, _, r3⟩ := hR0
            cases ev
            obtain ⟨rb, roff, rv, rfl, hrb, hrc, hri⟩ := r3 q hql
            have hclv := (theoryErr_zero HTh.out).2.2.2 _ (by rw [getD_getElem hql]; exact List.getElem_mem hql : ll.getD q [] ∈ ll)
            have HAl : Hid (∀ j, j < (ll.getD q []).length → (ll.getD q []).getD j 0 ≠ sL tr i → ∃ t, t < i ∧ wrongN tr ((ll.getD q []).getD j 0) = some t) := fun j hj hnj => by
              obtain ⟨t, ht, et⟩ := hall _ (by rw [eR, getD_getElem hj]; exact List.getElem_mem hj) hnj
              exact ⟨t, ht, HTr.out.wrong (by omega) et⟩
            have HVr : Hid (∀ j, j < (ll.getD q []).length → litVar ((ll.getD q []).getD j 0) ≠ 0) := fun j hj => litVar_ne (hclv.2 _ (by rw [getD_getElem hj]; exact List.getElem_mem hj))
            have HKe : Hid (∀ F j, j < (ll.getD q []).length → ((ll.getD q []).getD j 0 = sL tr i ∨ coverAt tr I F ((ll.getD q []).getD j 0) = true) → (fun k => if k = i then folIn ll tr I F i j else F k) = fun k => if k = i then folIn ll tr I F i (j + 1) else F k) := fun F j hj h => by
              have := folIn_keep (ll := ll) (tr := tr) (I := I) (F := F) (i := i) (j := j) (by rw [eR]; exact hj) (by rw [eR]; exact h)
              exact this
            have HDr : Hid (∀ F j, j < (ll.getD q []).length → (ll.getD q []).getD j 0 ≠ sL tr i → coverAt tr I F ((ll.getD q []).getD j 0) = false → (fun k => if k = i then false else if k = i then folIn ll tr I F i j else F k) = fun k => if k = i then folIn ll tr I F i (j + 1) else F k) := fun F j hj h1 h2 => by
              have := folIn_drop (ll := ll) (tr := tr) (I := I) (F := F) (i := i) (j := j) (by rw [eR]; exact hj) (by rw [eR]; exact h1) (by rw [eR]; exact h2)
              exact this
            have HEn : Hid ((fun k => if k = i then folIn ll tr I (folTo ll tr I i) i (ll.getD q []).length else folTo ll tr I i k) = folTo ll tr I (i + 1)) := by
              have := folIn_end (ll := ll) (tr := tr) (I := I) (i := i) hw
              rw [eR] at this; exact this
            have hcl2 := hclv.1
            have hqc : (tr.getD i default).why = q := hq
            rw [hqc] at oB hxB b1 g1 zB b0
            obtain ⟨sx, hsx⟩ : ∃ z, z = sL tr i := ⟨_, rfl⟩
            have hsx' : (tr.getD i default).lit = sx := hsx.symm
            rw [hsx'] at oB hxB b0 g0 b1 zB
            rw [← hsx] at HAl HKe HDr
            obtain ⟨F, hF⟩ : ∃ F, F = folTo ll tr I i := ⟨_, rfl⟩
            rw [← hF] at HEn oFB
            have HF : Hid _ := hF
            have hTXr2 := hTXr
            clear hall hmem eR r3 hclv hq hsx hF hw hne hval hqc hsx' HTr hTXr hTXq HTh
            generalize ll.getD q [] = rc at *
            generalize (tr.getD i default).lev = sl at *
            obtain ⟨ca, ccap, rfl, rc1, rc2, _⟩ := id hri
            unfold maxLen at rc2
            -- follows[i] = true
            have oFB5 := oFB.ex hxB
            have oFP5 := oFP.ex hxB
            have f0 := oFB5.free i
            have f1 := oFB5.cell i
            rw [boolV_get hil] at f1
            have f2 := oFB5.lt
            have oFB6 := oFB5.set i (.bool true)
            rw [boolV_set hil] at oFB6
            have oFP6 := oFP5.set_other (c := FB) i (.bool true) (by omega)
            have oB6 := oB.set_other (c := FB) i (.bool true) (by omega)
            have hx46 := (hx4r.trans hxB).setCell (p := ⟨FB, i, none⟩) hFB1 (.bool true)
            have hiq : ((i : Nat) : Int) < tr.length := by omega
            have hqq : ((q : Nat) : Int) < ll.length := by omega
            have e0 := oB6.cell 0
            have e1 := oB6.cell 1
            have e2 := oB6.lt
            have t1 : ((wr.alloc (.cells #[.int .i64 sx, .int .i64 q, .int .i64 sl] 55)).setCell ⟨FB, i, none⟩ (.bool true)).cell? ⟨w.heap.size, 1, none⟩ = some (.slice (some ⟨rb, roff, none⟩) ll.length rcap) := by
              have := (oTq.ex hxB).set_other (c := FB) i (.bool true) (by have := oTr.lt; omega)
              exact this.cell 1
            have t2 : ((wr.alloc (.cells #[.int .i64 sx, .int .i64 q, .int .i64 sl] 55)).setCell ⟨FB, i, none⟩ (.bool true)).cell? ⟨rb, roff + q, none⟩ = some (.slice ca rc.length ccap) := ex_cell hrc (hxw.trans hx46)
            have t3 := Nat.lt_of_lt_of_le hrb (hxw.trans hx46).size
            go_wp2
            clear e0 e1 e2 t1 t2 t3 f0 f1 f2 d0 y0 c0 c1 z0r oFB5 oFP5 oB
            generalize hBn : wr.heap.size = B at *
            have hBFB : B ≠ FB := by omega
            have oFB7 : OwnB _ FB (boolV tr.length fun k => if k = i then folIn ll tr I F i 0 else F k) 4 := oFB6
            generalize (wr.alloc (.cells #[.int .i64 sx, .int .i64 q, .int .i64 sl] 55)).setCell ⟨FB, i, none⟩ (.bool true) = w6 at *
            clear oFB6
            go_loopw [80] (fun kv wr => ∃ j : Nat, j ≤ rc.length ∧ kv = .int .i64 j ∧ Ex w4 wr ∧ OwnB wr FB (boolV tr.length fun k => if k = i then folIn ll tr I F i j else F k) 4 ∧ OwnB wr (FB + 1) [.slice (some ⟨FB, 0, none⟩) tr.length tr.length] 81 ∧ OwnB wr B [.int .i64 sx, .int .i64 q, .int .i64 sl] 55) (fun kv _ => rc.length - (intOf kv).toNat)
            case atStart => exact ⟨0, Nat.zero_le _, rfl, hx46, oFB7, oFP6, oB6⟩
            case round =>
              clear oFB7 oFP6 oB6 hx46
              obtain ⟨j, hj, rfl, hx4s, oFBs, oFPs, oBs⟩ := hrel
              have s0 := oBs.cell 0
              have s1' := oBs.lt
              by_cases hjl : j < rc.length
              · obtain ⟨_, _, ev, _, _, c3⟩ := hri.ex (hxw.trans hx4s)
                cases ev
                obtain ⟨cb, coff, rfl, hcb, hcell⟩ := c3 j hjl
                have HAj : Hid _ := HAl.out j hjl
                have HKj : Hid _ := HKe.out F j hjl
                have HDj : Hid _ := HDr.out F j hjl
                have hvr := HVr.out j hjl
                have HCv : Hid (∀ t, wrongN tr (rc.getD j 0) = some t → coverAt tr I F (rc.getD j 0) = (I t || F t) ∧ wrongI tr (rc.getD j 0) = t) := fun t ht => ⟨by unfold coverAt; rw [ht], by unfold wrongI; rw [ht]⟩
                have HWj : Hid (Calls Try.prog 34 #[.pointer (some ⟨X, 0, none⟩), .int .i64 (rc.getD j 0)] wr fun e w' => e = .returned (.int .i64 (wrongI tr (rc.getD j 0))) ∧ Ex wr w') := HWrg.out wr X _ (hTXr2.out.ex hx4s) hvr
                clear c3 HAl HKe HDr HVr hri hvr
                generalize rc.getD j 0 = y at *
                by_cases hy : y = sx
                · have hyb : (y != sx) = false := by simp [hy]
                  have oFBn := oFBs
                  rw [HKj.out (.inl hy)] at oFBn
                  clear HKj HDj HCv HWj HAj hy oFBs
                  go_wp2
                  go_roundw
                  case rel => exact ⟨j + 1, by omega, by go_num, hx4s, oFBn, oFPs, oBs⟩
                  case measure => simp [intOf]; omega
                · have hyb : (y != sx) = true := bne_iff_ne.2 hy
                  obtain ⟨t, hti, htw⟩ := HAj.out hy
                  obtain ⟨hcv, hwi⟩ := HCv.out t htw
                  have htl : t < tr.length := by omega
                  have HW2 := HWj.out
                  rw [hwi] at HW2
                  have HW3 : Hid _ := HW2
                  have HCo : Hid (∀ wa, Ex wr wa → Calls Try.prog 46 #[.int .i64 t, .pointer (some ⟨IB + 1, 0, none⟩), .pointer (some ⟨FB + 1, 0, none⟩)] wa fun e w' => e = .returned (.bool (coverAt tr I F y)) ∧ wa = w') := fun wa hx => by
                    rw [hcv]
                    refine learnCovered_any wa (IB + 1) (FB + 1) IB FB tr.length t I F ((oIP4.ex (hx4s.trans hx)).cell 0) ((oFPs.ex hx).cell 0) ?_ ?_ htl hlen
                    · rw [(oIB4.ex (hx4s.trans hx)).cell, boolV_get htl]
                    · rw [(oFBs.ex hx).cell, boolV_get htl, if_neg (by omega)]
                  clear HCv HWj HAj HW2 hwi htw
                  cases hca : coverAt tr I F y with
                  | true =>
                    have oFBn := oFBs
                    rw [HKj.out (.inr hca)] at oFBn
                    rw [hca] at HCo
                    clear HKj HDj hcv hca oFBs hy
                    go_wp2_with fail
                    refine Calls.mono HW3.out ?_
                    rintro e w7 ⟨rfl, hx7⟩
                    go_wp2_with fail
                    refine (HCo.out _ hx7).mono ?_
                    rintro e w8 ⟨rfl, rfl⟩
                    go_wp2
                    go_roundw
                    case rel => exact ⟨j + 1, by omega, by go_num, hx4s.trans hx7, oFBn.ex hx7, oFPs.ex hx7, oBs.ex hx7⟩
                    case measure => simp [intOf]; omega
                  | false =>
                    have HDk : Hid _ := HDj.out hy hca
                    rw [hca] at HCo
                    clear HKj HDj hcv hca hy
                    go_wp2_with fail
                    refine Calls.mono HW3.out ?_
                    rintro e w7 ⟨rfl, hx7⟩
                    go_wp2_with fail
                    refine (HCo.out _ hx7).mono ?_
                    rintro e w8 ⟨rfl, rfl⟩
                    have oFB7 := oFBs.ex hx7
                    have oFP7 := oFPs.ex hx7
                    have oB7 := oBs.ex hx7
                    have f0 := oFB7.free i
                    have f1 := oFB7.cell i
                    rw [boolV_get hil] at f1
                    have f2 := oFB7.lt
                    have f3 := oFP7.cell 0
                    have f4 := oFP7.lt
                    have oFB8 := oFB7.set i (.bool false)
                    rw [boolV_set hil, HDk.out] at oFB8
                    have oFP8 := oFP7.set_other (c := FB) i (.bool false) (by omega)
                    have oB8 := oB7.set_other (c := FB) i (.bool false) (fun e => hBFB e.symm)
                    have hx8 := (hx4s.trans hx7).setCell (p := ⟨FB, i, none⟩) hFB1 (.bool false)
                    clear oFB7 oFP7 oB7 oFBs oFPs oBs HDk HCo HW3
                    go_wp2
                    go_roundw
                    case rel => exact ⟨j + 1, by omega, by go_num, hx8, oFB8, oFP8, oB8⟩
                    case measure => simp [intOf]; omega
              · obtain rfl : j = rc.length := by omega
                rw [HEn.out] at oFBs
                clear HAl HKe HDr HVr HEn HF hri HWrg
                go_wp2
                go_roundw
                case rel => exact ⟨i + 1, by omega, by go_num, hx4s, oFBs, oFPs⟩
                case measure => simp [intOf]; omega
        · obtain rfl : i = tr.length := by omega
          have hTXz : Hid (StepsAt wr (.slice sa tr.length scap) tr) := hTXq.out.steps
          have HRs : Hid (∀ k, redS ll tr c k = (I k && !folTo ll tr I tr.length k)) := fun k => by unfold redS; rw [HIe.out]
          have hVal : Hid (∀ k, k < tr.length → -1000 ≤ (tr.getD k default).lit ∧ (tr.getD k default).lit ≤ 1000) := fun k hk => by have := (litValid_iff _ _).1 (HTr.out.val k hk); unfold sL at this; omega
          have HOS : Hid (∀ k, outTo tr (redS ll tr c) (k + 1) = outTo tr (redS ll tr c) k ++ if redS ll tr c k = true then [-sL tr k] else []) := outTo_succ tr _
          have HOL : Hid (∀ k, (outTo tr (redS ll tr c) k).length ≤ k) := outTo_len tr _
          have HCl : Hid (∀ wa u, IntsAt wa u (outTo tr (redS ll tr c) tr.length) → Calls Try.prog 35 #[u, .int .i64 n] wa (ClauseRet wa (orderL (outTo tr (redS ll tr c) tr.length)) (oppB (orderL (outTo tr (redS ll tr c) tr.length))) 0)) := fun wa u hu => by
            have hv : (outTo tr (redS ll tr c) tr.length).all (litValid · n) = true := List.all_eq_true.2 fun x hx => by
              obtain ⟨k, hk, _, rfl⟩ := outTo_mem.1 hx
              exact lit_valid_neg (HTr.out.val k hk)
            have := litClause_any u (outTo tr (redS ll tr c) tr.length) n wa hu (by have := outTo_len tr (redS ll tr c) tr.length; omega)
            unfold clauseL clauseB clauseE at this
            rw [hv] at this
            exact this
          generalize folTo ll tr I tr.length = F at *
          generalize redS ll tr c = R at *
          clear HIe hTXr hTXq HTr HTh HWrg hR0
          generalize hw6 : wr = w6 at *
          clear hw6
          go_wp2
          go_loopw [19, 103] (fun ov kv wr => ∃ i : Nat, i ≤ tr.length ∧ kv = .int .i64 i ∧ OwnI wr w6.heap.size ov (outTo tr R i) ∧ Ex w6 wr) (fun _ kv _ => tr.length - (intOf kv).toNat)
          case atStart => exact ⟨0, Nat.zero_le _, rfl, OwnI.nil _ _, Ex.refl _⟩
          case round =>
            obtain ⟨i, hi, rfl, hO, hx6r⟩ := hrel
            have oFBr := oFB.ex hx6r
            have oFPr := oFP.ex hx6r
            have oIBr := oIB.ex hx6r
            have oIPr := oIP.ex hx6r
            have oTr6 := oTq.ex hx6r
            have hs6 := hx6r.size
            by_cases hil : i < tr.length
            · obtain ⟨_, _, ev, _, _, s3⟩ := hTXz.out.ex hx6r
              cases ev
              obtain ⟨b, off, rfl, hb, g0, g1, g2⟩ := s3 i hil
              obtain ⟨v1, v2⟩ := hVal.out i hil
              have hol := HOL.out i
              have hos := HOS.out i
              rw [HRs.out i] at hos
              have oB := OwnB.new wr [.int .i64 (tr.getD i default).lit, .int .i64 (tr.getD i default).why, .int .i64 (tr.getD i default).lev] 55
              have hxB := Ex.alloc wr (.cells #[.int .i64 (tr.getD i default).lit, .int .i64 (tr.getD i default).why, .int .i64 (tr.getD i default).lev] 55)
              have q0 : wr.cell? ⟨IB + 1, 0, none⟩ = some (.slice (some ⟨IB, 0, none⟩) tr.length tr.length) := oIPr.cell 0
              have q1 : wr.cell? ⟨IB, i, none⟩ = some (.bool (I i)) := by rw [oIBr.cell, boolV_get hil]
              have q2 : wr.cell? ⟨FB + 1, 0, none⟩ = some (.slice (some ⟨FB, 0, none⟩) tr.length tr.length) := oFPr.cell 0
              have q3 : wr.cell? ⟨FB, i, none⟩ = some (.bool (F i)) := by rw [oFBr.cell, boolV_get hil]
              have qq0 := ex_cell q0 hxB
              have qq1 := ex_cell q1 hxB
              have qq2 := ex_cell q2 hxB
              have qq3 := ex_cell q3 hxB
              have y0 := oIPr.lt
              have y1 := oIBr.lt
              have y2 := oFPr.lt
              have y3 := oFBr.lt
              have b0 := oB.cell 0
              have zB := oB.lt
              unfold sL at hos
              have hwz : IntKind.i64.wrap (-(tr.getD i default).lit) = -(tr.getD i default).lit := IntWalk.i64_in _ (by omega)
              have hil2 : ((i : Nat) : Int) < tr.length := by omega
              have hO5 := hO.ex hxB
              have hx5 := hx6r.trans hxB
              have hb6 : w6.heap.size ≤ (wr.alloc (.cells #[.int .i64 (tr.getD i default).lit, .int .i64 (tr.getD i default).why, .int .i64 (tr.getD i default).lev] 55)).heap.size := hx5.size
              clear s3 HRs hVal HOS HOL HCl oFBr oFPr oIBr oIPr hO q0 q1 q2 q3
              generalize (tr.getD i default).lit = sx at *
              generalize (tr.getD i default).why = sw at *
              generalize (tr.getD i default).lev = sl at *
              generalize hIi : I i = bi at *
              generalize hFi : F i = fi at *
              have hOS : Hid _ := hos
              clear hos hIi hFi
              obtain ⟨oa, ocap, rfl, o1, o2, _⟩ := hO5.ints
              unfold maxLen at o2
              cases bi with
              | false =>
                have hOS2 : Hid (outTo tr R (i + 1) = outTo tr R i) := by show _ = _; rw [hOS.out]; simp
                clear hOS
                go_wp2
                go_roundw
                case rel => exact ⟨i + 1, by omega, by go_num, by rw [hOS2.out]; exact hO5, hx5⟩
                case measure => simp [intOf]; omega
              | true =>
                cases fi with
                | true =>
                  have hOS2 : Hid (outTo tr R (i + 1) = outTo tr R i) := by show _ = _; rw [hOS.out]; simp
                  clear hOS
                  go_wp2
                  go_roundw
                  case rel => exact ⟨i + 1, by omega, by go_num, by rw [hOS2.out]; exact hO5, hx5⟩
                  case measure => simp [intOf]; omega
                | false =>
                  have hOS2 : Hid (outTo tr R (i + 1) = outTo tr R i ++ [-sx]) := by show _ = _; rw [hOS.out]; simp
                  clear hOS
                  have hI := intsAt_fresh (wr.alloc (.cells #[.int .i64 sx, .int .i64 sw, .int .i64 sl] 55)) (-sx) 3
                  rw [alloc_size] at hI
                  go_wp2_with (at_builtin; refine wpList_append_ints rfl (.tmp 119) (.tmp 123) rfl rfl rfl (hO5.ex (Ex.alloc _ _)) hI ?c1 ?c2 ?_)
                  case c1 => simp only [List.length_cons, List.length_nil]; omega
                  case c2 => rw [alloc_size]; omega
                  intro v7 w7 hown7 hg7
                  have hx7 : Ex w6 w7 := grown_ex (hx5.alloc' _) hg7 (ownsRow_block hO5)
                  rw [← hOS2.out] at hown7
                  clear hg7 hI hO5
                  go_wp2
                  go_roundw
                  case rel => exact ⟨i + 1, by omega, by go_num, hown7, hx7⟩
                  case measure => simp [intOf]; omega
            · obtain rfl : i = tr.length := by omega
              have HC1 : Hid _ := HCl.out wr _ hO.ints
              have d0 := oTr6.cell 0
              have d1 := oTr6.lt
              clear HCl HRs hVal HOS HOL oFBr oFPr oIBr oIPr hO
              generalize orderL (outTo tr R tr.length) = OL at *
              go_wp2_with fail
              refine Calls.mono HC1.out ?_
              rintro e w8 ⟨v8, rfl, ho8, hx8⟩
              have hxf := (hxw4.trans hx6r)
              go_wp2
              go_ret2
              exact ⟨_, rfl, ho8.base hxf.size, hxf.trans hx8⟩
end Go.Proofs.Yteagoaiiacideaa
