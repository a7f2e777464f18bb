/- The reference of learning: Redundant: it says what the program's Redundant says. No condition but the lengths. -/
import Derived.Test.YteagoaiiacideaaLrnC
import Derived.Test.YteagoaiiacideaaLearn5
namespace Go.Proofs.Yteagoaiiacideaa
set_option linter.unusedSimpArgs false
set_option linter.unusedVariables false
open Go.RowKit
set_option maxRecDepth 20000
/-- Which of the first i steps are covered. -/
def covTo (ll : List (List Int)) (tr : List St) (I : Nat → Bool) (i : Nat) : Nat → Bool := fun k => decide (k < i) && (I k || folTo ll tr I i k)
theorem covTo_zero (ll : List (List Int)) (tr : List St) (I : Nat → Bool) : covTo ll tr I 0 = fun _ => false := by funext k; unfold covTo; simp
theorem covTo_at {ll : List (List Int)} {tr : List St} {I : Nat → Bool} {i t : Nat} (h : t < i) : covTo ll tr I i t = (I t || folTo ll tr I i t) := by unfold covTo; rw [decide_eq_true h]; rfl
theorem covTo_succ (ll : List (List Int)) (tr : List St) (I : Nat → Bool) (i : Nat) : (fun k => if k = i then folTo ll tr I (i + 1) i || I i else covTo ll tr I i k) = covTo ll tr I (i + 1) := by
  funext k
  by_cases e : k = i
  · subst e
    rw [if_pos rfl, covTo_at (Nat.lt_succ_self k), Bool.or_comm]
  · rw [if_neg e]
    unfold covTo
    have e1 : folTo ll tr I (i + 1) k = folTo ll tr I i k := by show (if k = i then _ else _) = _; rw [if_neg e]
    rw [e1]
    by_cases h : k < i
    · rw [decide_eq_true h, decide_eq_true (show k < i + 1 by omega)]
    · rw [decide_eq_false h, decide_eq_false (show ¬ k < i + 1 by omega)]
def canIn (ll : List (List Int)) (tr : List St) (I F : Nat → Bool) (i j : Nat) : Bool := decide (0 ≤ sW tr i) && folIn ll tr I F i j
theorem canIn_zero (ll : List (List Int)) (tr : List St) (I F : Nat → Bool) (i : Nat) : canIn ll tr I F i 0 = decide (0 ≤ sW tr i) := by unfold canIn folIn; simp
theorem canIn_succ {ll : List (List Int)} {tr : List St} {I F : Nat → Bool} {i j : Nat} (hj : j < (sR ll tr i).length) : canIn ll tr I F i (j + 1) = (canIn ll tr I F i j && ((sR ll tr i).getD j 0 == sL tr i || coverAt tr I F ((sR ll tr i).getD j 0))) := by
  unfold canIn; rw [folIn_succ hj, Bool.and_assoc]
theorem canIn_end {ll : List (List Int)} {tr : List St} {I : Nat → Bool} {i j : Nat} (h : 0 ≤ sW tr i → j = (sR ll tr i).length) : (fun k => if k = i then canIn ll tr I (folTo ll tr I i) i j else folTo ll tr I i k) = folTo ll tr I (i + 1) := by
  funext k
  show _ = (if k = i then _ else _)
  by_cases e : k = i
  · rw [if_pos e, if_pos e]
    unfold canIn folIn folAt
    by_cases h0 : 0 ≤ sW tr i
    · rw [h h0, List.take_length]
    · rw [decide_eq_false h0]; rfl
  · rw [if_neg e, if_neg e]
theorem wrong_take {n : Int} {ll : List (List Int)} {tr : List St} (ht : Trl n ll tr) {i t : Nat} {y : Int} (hi : i ≤ tr.length) (hti : t < i) (e : sL tr t = -y) : wrongI (tr.take i) y = t :=
  wrongI_at hi hti (fun j hj ej => by have := ht.lit_inj (i := j) (j := t) (by omega) (by omega) (by rw [ej, e]); omega) e
/-- What is kept of a clause. -/
def keepAt (tr : List St) (F : Nat → Bool) (y : Int) : Bool := match wrongN tr y with | some k => !F k | none => false
def keepF (tr : List St) (F : Nat → Bool) (c : List Int) : List Int := c.filter (keepAt tr F)
theorem keepF_take {tr : List St} {F : Nat → Bool} {c : List Int} {k t : Nat} (hk : k < c.length) (hw : wrongN tr (c.getD k 0) = some t) : keepF tr F (c.take (k + 1)) = keepF tr F (c.take k) ++ if F t = true then [] else [c.getD k 0] := by
  unfold keepF
  rw [List.take_succ_eq_append_getElem hk, List.filter_append, ← getD_getElem (d := 0) hk]
  have e : keepAt tr F (c.getD k 0) = !F t := by unfold keepAt; rw [hw]
  generalize c.getD k 0 = y at *
  cases h : F t <;> rw [h] at e <;> simp [List.filter_cons, e]
theorem keepF_len (tr : List St) (F : Nat → Bool) (c : List Int) (k : Nat) : (keepF tr F (c.take k)).length ≤ c.length := by
  unfold keepF
  have := List.length_filter_le (keepAt tr F) (c.take k)
  rw [List.length_take] at this; omega
theorem keep_eq {n : Nat} {ll : List (List Int)} {tr : List St} (ht : Trl n ll tr) {c : List Int} (hc : ∀ y ∈ c, trueT tr (-y) = true) : ordF (keepF tr (folTo ll tr (inS tr c) tr.length) c) n = orderL (outTo tr (redS ll tr c) tr.length) := by
  have hm : ∀ y, y ∈ keepF tr (folTo ll tr (inS tr c) tr.length) c ↔ y ∈ outTo tr (redS ll tr c) tr.length := fun y => by
    unfold keepF
    rw [List.mem_filter, outTo_mem]
    constructor
    · rintro ⟨h1, h2⟩
      obtain ⟨k, hk⟩ := wrongN_isSome.2 (hc y h1)
      obtain ⟨hl, e⟩ := wrongN_some hk
      unfold keepAt at h2
      rw [hk] at h2
      refine ⟨k, hl, ?_, by omega⟩
      unfold redS
      rw [Bool.and_eq_true]
      exact ⟨(confS_iff ht).2 ⟨hl, by rw [show -sL tr k = y by omega]; exact h1⟩, h2⟩
    · rintro ⟨k, hk, hr, rfl⟩
      unfold redS at hr
      rw [Bool.and_eq_true] at hr
      refine ⟨((confS_iff ht).1 hr.1).2, ?_⟩
      unfold keepAt
      rw [ht.wrong hk (by omega)]
      exact hr.2
  exact ordF_order (fun x hx => by
    obtain ⟨k, hk, _, rfl⟩ := outTo_mem.1 ((hm x).1 hx)
    exact lit_valid_neg (ht.val k hk)) hm
theorem inS_contains {n : Int} {ll : List (List Int)} {tr : List St} (ht : Trl n ll tr) {c : List Int} {k : Nat} (hk : k < tr.length) : c.contains (-sL tr k) = inS tr c k := by
  rw [Bool.eq_iff_iff, List.contains_iff_mem]
  exact ⟨fun h => (confS_iff ht).2 ⟨hk, h⟩, fun h => ((confS_iff ht).1 h).2⟩
set_option maxRecDepth 100000 in
set_option maxHeartbeats 4000000 in
theorem r13Redundant_bad (n : Int) (lv sv cv : Value) (ll : List (List Int)) (tr : List St) (c : List Int) (w : World) (hR : RowsAt w lv ll) (hS : StepsAt w sv tr) (hc : IntsAt w cv c) (hlen : tr.length ≤ 1000) (hb : (decide (theoryErr n ll = 0) && trailB n ll tr) = false) :
    Calls Try.prog 21 #[.agg #[.int .i64 n, lv], sv, cv] w (RedRet w [] 1) := by
  have HCk : Hid (∀ wa, Ex w wa → Calls Try.prog 36 #[.agg #[.int .i64 n, lv]] wa fun e w' => e = .returned (.int .i64 (theoryErr n ll)) ∧ Ex wa w') := fun wa hx => r05Check_any n lv ll wa (hR.ex hx)
  have HTr : Hid (theoryErr n ll = 0 → ∀ wa, Ex w wa → Calls Try.prog 37 #[.agg #[.int .i64 n, lv], sv] wa fun e w' => e = .returned (.bool (trailB n ll tr)) ∧ Ex wa w') := fun ht wa hx => r13Trail_any n lv sv ll tr wa (hR.ex hx) (hS.ex hx) ht hlen
  obtain ⟨ra, rcap, rfl, r1, r2, r3⟩ := hR
  obtain ⟨sa, scap, rfl, s1, s2, s3⟩ := hS
  obtain ⟨pa, pcap, rfl, _, _, p3⟩ := hc
  clear r3 s3 p3
  have oT := OwnB.new w [.int .i64 n, .slice ra ll.length rcap] 24
  have hxa := Ex.alloc w (.cells #[.int .i64 n, .slice ra ll.length rcap] 24)
  by_cases ht : theoryErr n ll = 0
  rotate_left
  · have he' : (theoryErr n ll != 0) = true := by simp [ht]
    clear HTr ht hb
    generalize theoryErr n ll = ER at *
    go_enter Try.func21, Try.ntmps21
    go_wp2_with fail
    refine (HCk.out _ hxa).mono ?_
    rintro e w2 ⟨rfl, hx2⟩
    go_wp2
    go_ret2
    exact ⟨_, rfl, OwnI.nil _ _, hxa.trans hx2⟩
  have HT2 : Hid _ := HTr.out ht
  have htb : trailB n ll tr = false := by rw [decide_eq_true ht, Bool.true_and] at hb; exact hb
  rw [ht] at HCk
  rw [htb] at HT2
  clear HTr ht hb htb
  go_enter Try.func21, Try.ntmps21
  go_wp2_with fail
  refine (HCk.out _ hxa).mono ?_
  rintro e w2 ⟨rfl, hx2⟩
  have c0 := (oT.ex hx2).cell 0
  have c1 := (oT.ex hx2).cell 1
  have z0 := (oT.ex hx2).lt
  go_wp2_with fail
  refine (HT2.out _ (hxa.trans hx2)).mono ?_
  rintro e w3 ⟨rfl, hx3⟩
  go_wp2
  go_ret2
  exact ⟨_, rfl, OwnI.nil _ _, (hxa.trans hx2).trans hx3⟩
set_option maxRecDepth 100000 in
set_option maxHeartbeats 8000000 in
theorem r13Redundant_ok (n : Nat) (lv sv cv : Value) (ll : List (List Int)) (tr : List St) (c : List Int) (w : World) (hR : RowsAt w lv ll) (hS : StepsAt w sv tr) (hc : IntsAt w cv c) (hlen : tr.length ≤ 1000) (hcl : c.length ≤ 1000) (hok : (decide (theoryErr n ll = 0) && trailB n ll tr) = true) :
    Calls Try.prog 21 #[.agg #[.int .i64 n, lv], sv, cv] w (RedRet w (redL n ll tr c) (redE n ll tr c)) := by
  have ht : theoryErr n ll = 0 := by rw [Bool.and_eq_true, decide_eq_true_eq] at hok; exact hok.1
  have htb : trailB n ll tr = true := by rw [Bool.and_eq_true] at hok; exact hok.2
  have hTrl := trl_of htb
  have hn : n ≤ 128 := by have := (theoryErr_zero ht).2.1; omega
  have HCk : Hid (∀ wa, Ex w wa → Calls Try.prog 36 #[.agg #[.int .i64 n, lv]] wa fun e w' => e = .returned (.int .i64 0) ∧ Ex wa w') := fun wa hx => ht ▸ r05Check_any n lv ll wa (hR.ex hx)
  have HT2 : Hid (∀ wa, Ex w wa → Calls Try.prog 37 #[.agg #[.int .i64 n, lv], sv] wa fun e w' => e = .returned (.bool true) ∧ Ex wa w') := fun wa hx => htb ▸ r13Trail_any n lv sv ll tr wa (hR.ex hx) (hS.ex hx) ht hlen
  have HFi : Hid (∀ wa i y, Ex w wa → i ≤ tr.length → -1000 ≤ y → y ≤ 1000 → Calls Try.prog 42 #[sv, .int .i64 (i : Nat), .int .i64 y] wa fun e w' => e = .returned (.int .i64 (wrongI (tr.take i) y)) ∧ wa = w') := fun wa i y hx hi h1 h2 => r13find_any sv tr i y wa (hS.ex hx) hi h1 h2 hlen
  have HVa : Hid (∀ y wa, Calls Try.prog 47 #[.int .i64 y, .int .i64 n] wa fun e w' => e = .returned (.bool (litValid y n)) ∧ wa = w') := fun y wb => r05Valid_any y n (by omega) (by omega) wb
  have HCo : Hid (∀ wa y, Ex w wa → Calls Try.prog 48 #[cv, .int .i64 y] wa fun e w' => e = .returned (.bool (c.contains y)) ∧ wa = w') := fun wa y hx => r05Contains_any cv c y wa (hc.ex hx)
  have HOr : Hid (∀ wa u m, IntsAt wa u m → Calls Try.prog 44 #[u, .int .i64 n] wa (OrdRet wa (ordF m n))) := fun wa u m h => r13Ordered_any u m n hn wa h
  have HNo : Hid (∀ k, k < c.length → litValid (c.getD k 0) n = false ∨ trueT tr (-(c.getD k 0)) = false → redL n ll tr c = [] ∧ redE n ll tr c = 1) := fun k hk h => by
    have hr : redOk n ll tr c = false := redOk_no hk h
    unfold redL redE; rw [hr]; exact ⟨rfl, rfl⟩
  have HYe : Hid ((∀ k, k < c.length → litValid (c.getD k 0) n = true ∧ trueT tr (-(c.getD k 0)) = true) → redL n ll tr c = ordF (keepF tr (folTo ll tr (inS tr c) tr.length) c) n ∧ redE n ll tr c = 0) := fun h => by
    have hr : redOk n ll tr c = true := redOk_yes hok h
    unfold redL redE; rw [hr]
    refine ⟨?_, rfl⟩
    rw [keep_eq hTrl (fun y hy => ?_)]
    · rfl
    obtain ⟨k, hk, rfl⟩ := List.getElem_of_mem hy
    have := (h k hk).2
    rwa [getD_getElem hk] at this
  have hS0 := hS
  have hc0 := hc
  obtain ⟨ra, rcap, rfl, r1, r2, r3⟩ := hR
  obtain ⟨sa, scap, rfl, s1, s2, s3⟩ := hS
  obtain ⟨pa, pcap, rfl, p1, p2, p3⟩ := hc
  unfold maxLen at r2 s2 p2
  have HRo : Hid (∀ q, q < ll.length → ∃ b off rv, ra = some ⟨b, off, none⟩ ∧ b < w.heap.size ∧ w.cell? ⟨b, off + q, none⟩ = some rv ∧ IntsAt w rv (ll.getD q []) ∧ (ll.getD q []).length ≤ 128 ∧ ∀ k, k < (ll.getD q []).length → -1000 ≤ (ll.getD q []).getD k 0 ∧ (ll.getD q []).getD k 0 ≤ 1000) := fun q hq => by
    obtain ⟨b, off, rv, e2, hb, hcc, hi⟩ := r3 q hq
    refine ⟨b, off, rv, e2, hb, hcc, hi, ((theoryErr_zero ht).2.2.2 _ (by rw [getD_getElem hq]; exact List.getElem_mem hq)).1, fun k hk => ?_⟩
    have := (litValid_iff _ _).1 (theory_lit ht hq hk)
    omega
  have HTl : Hid (Trl n ll tr) := hTrl
  have hmk0 : Hid (∀ w, (Instr.makeSlice 81 (.int .i64 tr.length) (.int .i64 tr.length)).run Try.prog w = .ok (.slice (some ⟨w.heap.size, 0, none⟩) tr.length tr.length) (w.alloc (.cells (boolV tr.length fun _ => false).toArray 4))) := run_make_bools tr.length (by omega)
  have oT := OwnB.new w [.int .i64 n, .slice ra ll.length rcap] 24
  have hxa := Ex.alloc w (.cells #[.int .i64 n, .slice ra ll.length rcap] 24)
  clear r3 s3 p3 ht htb hok hTrl
  generalize redL n ll tr c = RL at *
  generalize redE n ll tr c = RE at *
  go_enter Try.func21, Try.ntmps21
  go_wp2_with fail
  refine (HCk.out _ hxa).mono ?_
  rintro e w2 ⟨rfl, hx2⟩
  have c0 := (oT.ex hx2).cell 0
  have c1 := (oT.ex hx2).cell 1
  have z0 := (oT.ex hx2).lt
  go_wp2_with fail
  refine (HT2.out _ (hxa.trans hx2)).mono ?_
  rintro e w3 ⟨rfl, hx3⟩
  replace oT := (oT.ex hx2).ex hx3
  have hxw3 := (hxa.trans hx2).trans hx3
  clear c0 c1 z0 hx2 hx3 HCk HT2 hxa
  go_wp2
  go_loopw [6, 7, 8] (fun rv ev kv wr => ∃ k : Nat, k ≤ c.length ∧ rv = .slice none 0 0 ∧ ev = .int .i64 0 ∧ kv = .int .i64 k ∧ Ex w3 wr ∧ Hid (∀ j, j < k → litValid (c.getD j 0) n = true ∧ trueT tr (-(c.getD j 0)) = true)) (fun _ _ kv _ => c.length - (intOf kv).toNat)
  case atStart => exact ⟨0, Nat.zero_le _, rfl, rfl, rfl, Ex.refl _, fun j hj => by omega⟩
  case round =>
    obtain ⟨k, hk, rfl, rfl, rfl, hxr, HD⟩ := hrel
    have hxw := hxw3.trans hxr
    have oTr := oT.ex hxr
    by_cases hlt : k < c.length
    · obtain ⟨_, _, ev, _, _, e3⟩ := hc0.ex hxw
      cases ev
      obtain ⟨b, off, rfl, hb, hcell⟩ := e3 k hlt
      have c0x := ext_cell (oTr.cell 0)
      have hcx := ext_cell hcell
      have HNk : Hid _ := HNo.out k hlt
      have HV1 : Hid (∀ wa, Calls Try.prog 47 #[.int .i64 (c.getD k 0), .int .i64 n] wa fun e w' => e = .returned (.bool (litValid (c.getD k 0) n)) ∧ wa = w') := fun wa => HVa.out _ wa
      have HF1 : Hid (litValid (c.getD k 0) n = true → ∀ wa, Ex wr wa → Calls Try.prog 42 #[.slice sa tr.length scap, .int .i64 tr.length, .int .i64 (c.getD k 0)] wa fun e w' => e = .returned (.int .i64 (wrongI tr (c.getD k 0))) ∧ wa = w') := fun hv wa hx => by
        have hr := (litValid_iff _ _).1 hv
        have := HFi.out wa tr.length (c.getD k 0) (hxw.trans hx) (Nat.le_refl _) (by omega) (by omega)
        rwa [List.take_length] at this
      have HNeg : Hid (wrongI tr (c.getD k 0) < 0 ↔ trueT tr (-(c.getD k 0)) = false) := wrongI_neg
      have HDn : Hid (litValid (c.getD k 0) n = true → trueT tr (-(c.getD k 0)) = true → ∀ j, j < k + 1 → litValid (c.getD j 0) n = true ∧ trueT tr (-(c.getD j 0)) = true) := fun h1 h2 j hj => by
        by_cases e : j = k
        · subst e; exact ⟨h1, h2⟩
        · exact HD.out j (by omega)
      have hkk : (k : Int) < c.length := by omega
      clear e3 HNo HYe HFi HVa HCo HOr HRo HTl hmk0 HD
      generalize c.getD k 0 = y at *
      cases hva : litValid y n with
      | false =>
        obtain ⟨e1, e2⟩ := HNk.out (.inl hva)
        subst e1 e2
        rw [hva] at HV1
        clear HF1 HNeg HDn HNk hva
        go_wp2
        refine wp_region_quiet_ext (by kernel_rfl) (by kernel_rfl) ?_
        repeat (go_big_quiet_step ((first | (go_at_call 47; exact Calls.quiet_ext_same (HV1.out _)) | fail)))
        refine wpQuiet_nil ?_
        intro w6 hx6
        go_wp2
        go_ret2
        exact ⟨_, rfl, OwnI.nil _ _, hxw.trans hx6⟩
      | true =>
        have HF2 : Hid _ := HF1.out hva
        rw [hva] at HV1
        by_cases hng : wrongI tr y < 0
        · obtain ⟨e1, e2⟩ := HNk.out (.inr (HNeg.out.1 hng))
          subst e1 e2
          have hdn : decide (wrongI tr y < 0) = true := decide_eq_true hng
          clear HF1 HNeg HDn HNk hva
          generalize wrongI tr y = wi at *
          go_wp2
          refine wp_region_quiet_ext (by kernel_rfl) (by kernel_rfl) ?_
          repeat (go_big_quiet_step ((first | (go_at_call 47; exact Calls.quiet_ext_same (HV1.out _)) | (go_at_call 42; exact Calls.quiet_ext_same (HF2.out _ (ex_ext _ _))) | fail)))
          refine wpQuiet_nil ?_
          intro w6 hx6
          go_wp2
          go_ret2
          exact ⟨_, rfl, OwnI.nil _ _, hxw.trans hx6⟩
        · have htt : trueT tr (-y) = true := by
            cases h : trueT tr (-y) with
            | true => rfl
            | false => exact absurd (HNeg.out.2 h) hng
          have HD2 : Hid _ := HDn.out hva htt
          have hdn : decide (wrongI tr y < 0) = false := decide_eq_false hng
          clear HF1 HNeg HDn HNk hva htt
          generalize wrongI tr y = wi at *
          go_wp2
          refine wp_region_quiet_ext (by kernel_rfl) (by kernel_rfl) ?_
          repeat (go_big_quiet_step ((first | (go_at_call 47; exact Calls.quiet_ext_same (HV1.out _)) | (go_at_call 42; exact Calls.quiet_ext_same (HF2.out _ (ex_ext _ _))) | fail)))
          refine wpQuiet_nil ?_
          intro w6 hx6
          go_wp2
          go_roundw
          case rel => exact ⟨k + 1, by omega, rfl, rfl, by go_num, hxr.trans hx6, HD2⟩
          case measure => simp [intOf]; omega
    · obtain rfl : k = c.length := by omega
      obtain ⟨e1, e2⟩ := HYe.out HD.out
      subst e1 e2
      have hmk := hmk0.out
      have HSo : Hid (∀ k, k < c.length → -1000 ≤ c.getD k 0 ∧ c.getD k 0 ≤ 1000 ∧ ∃ t, t < tr.length ∧ wrongN tr (c.getD k 0) = some t ∧ wrongI tr (c.getD k 0) = t) := fun k hk => by
        obtain ⟨h1, h2⟩ := HD.out k hk
        have hr := (litValid_iff _ _).1 h1
        obtain ⟨t, ht⟩ := wrongN_isSome.2 h2
        exact ⟨by omega, by omega, t, (wrongN_some ht).1, ht, by unfold wrongI; rw [ht]⟩
      have HIn : Hid (∀ k, k < tr.length → c.contains (-sL tr k) = inS tr c k) := fun k hk => inS_contains HTl.out hk
      clear HNo HYe HVa hmk0 HD
      generalize hw4 : wr = w4 at *
      clear hw4
      go_wp2
      have oCB := (OwnB.new w4 (boolV tr.length fun _ => false) 4).ex (Ex.alloc _ (.cells (boolV tr.length fun _ => false).toArray 4))
      have oNB := OwnB.new (w4.alloc (.cells (boolV tr.length fun _ => false).toArray 4)) (boolV tr.length fun _ => false) 4
      have hx45 := (Ex.alloc w4 (.cells (boolV tr.length fun _ => false).toArray 4)).alloc' (.cells (boolV tr.length fun _ => false).toArray 4)
      rw [alloc_size] at oNB
      generalize (w4.alloc (.cells (boolV tr.length fun _ => false).toArray 4)).alloc (.cells (boolV tr.length fun _ => false).toArray 4) = w5 at *
      generalize inS tr c = I at *
      have oCB0 : OwnB w5 w4.heap.size (boolV tr.length (covTo ll tr I 0)) 4 := by rw [covTo_zero]; exact oCB
      have oNB0 : OwnB w5 (w4.heap.size + 1) (boolV tr.length (folTo ll tr I 0)) 4 := oNB
      obtain ⟨CB, hCB⟩ : ∃ CB, CB = w4.heap.size := ⟨_, rfl⟩
      rw [← hCB] at oCB0 oNB0 ⊢
      have hCB1 : w4.heap.size ≤ CB := by omega
      have hCB2 : w4.heap.size ≤ CB + 1 := by omega
      have oT4 := oTr
      clear hCB oCB oNB hmk oTr
      go_loopw [11] (fun iv wr => ∃ i : Nat, i ≤ tr.length ∧ iv = .int .i64 i ∧ Ex w4 wr ∧ OwnB wr CB (boolV tr.length (covTo ll tr I i)) 4 ∧ OwnB wr (CB + 1) (boolV tr.length (folTo ll tr I i)) 4) (fun iv _ => tr.length - (intOf iv).toNat)
      case atStart => exact ⟨0, Nat.zero_le _, rfl, hx45, oCB0, oNB0⟩
      case round =>
        clear oCB0 oNB0 hx45
        obtain ⟨i, hi, rfl, hx4r, oCB, oNB⟩ := hrel
        have hxw4 := hxw.trans hx4r
        by_cases hil : i < tr.length
        · obtain ⟨_, _, ev, _, _, s3⟩ := hS0.ex hxw
          cases ev
          obtain ⟨b, off, rfl, hb, g0, g1, _⟩ := s3 i hil
          have hval := (litValid_iff _ _).1 (HTl.out.val i hil)
          have HI1 : Hid (c.contains (-(tr.getD i default).lit) = I i) := HIn.out i hil
          have HFj : Hid (∀ wa y, Ex w4 wa → -1000 ≤ y → y ≤ 1000 → Calls Try.prog 42 #[.slice (some ⟨b, off, none⟩) tr.length scap, .int .i64 (i : Nat), .int .i64 y] wa fun e w' => e = .returned (.int .i64 (wrongI (tr.take i) y)) ∧ wa = w') := fun wa y hx h1 h2 => HFi.out wa i y (hxw.trans hx) (by omega) h1 h2
          have HCk : Hid (∀ wa y, Ex w4 wa → Calls Try.prog 48 #[.slice pa c.length pcap, .int .i64 y] wa fun e w' => e = .returned (.bool (c.contains y)) ∧ wa = w') := fun wa y hx => HCo.out wa y (hxw.trans hx)
          have HCv : Hid ((fun k => if k = i then folTo ll tr I (i + 1) i || I i else covTo ll tr I i k) = covTo ll tr I (i + 1)) := covTo_succ ll tr I i
          have hii : ((i : Nat) : Int) < tr.length := by omega
          have hsL : sL tr i = (tr.getD i default).lit := rfl
          have hsW : sW tr i = (tr.getD i default).why := rfl
          rw [hsL] at hval
          have f0 := oNB.free i
          have f1 := oNB.cell i
          rw [boolV_get hil] at f1
          have f2 := oNB.lt
          have g1r := ex_cell g1 hx4r
          have hCBN : CB ≠ CB + 1 := by omega
          clear s3 HSo HIn HOr
          by_cases hw : 0 ≤ (tr.getD i default).why
          rotate_left
          · have HN0 : Hid ((fun k => if k = i then false else folTo ll tr I i k) = folTo ll tr I (i + 1)) := by
              have h1 := canIn_end (ll := ll) (tr := tr) (I := I) (i := i) (j := 0) (fun h => absurd h (by rw [hsW]; exact hw))
              rw [canIn_zero, hsW, decide_eq_false hw] at h1
              exact h1
            have hwd : decide (0 ≤ (tr.getD i default).why) = false := decide_eq_false hw
            have hwn : (tr.getD i default).why < 0 := by omega
            have oNB2 := oNB.set i (.bool false)
            rw [boolV_set hil, HN0.out] at oNB2
            have oCB2 := oCB.set_other (c := CB + 1) i (.bool false) (by omega)
            have hx2 := hx4r.setCell (p := ⟨CB + 1, i, none⟩) hCB2 (.bool false)
            have hCc : Hid (CB + 1 ≠ CB) := by show _ ≠ _; omega
            clear HN0 oCB oNB hsL hsW HFi HCo
            generalize hsw : (tr.getD i default).why = sw at *
            clear hsw
            go_wp2
            clear f0 f1 f2 g1r
            generalize wr.setCell ⟨CB + 1, i, none⟩ (.bool false) = w6 at *
            go_loopw [12] (fun kv wr => kv = .int .i64 0 ∧ Ex w4 wr ∧ OwnB wr CB (boolV tr.length (covTo ll tr I i)) 4 ∧ OwnB wr (CB + 1) (boolV tr.length (folTo ll tr I (i + 1))) 4) (fun _ _ => 0)
            case atStart => exact ⟨rfl, hx2, oCB2, oNB2⟩
            case round =>
              clear oCB2 oNB2 hx2
              obtain ⟨rfl, hx4s, oCBs, oNBs⟩ := hrel
              have x1 := ext_cell (ex_cell g1 hx4s)
              go_wp2
              refine wp_region_quiet_ext (by kernel_rfl) (by kernel_rfl) ?_
              repeat (go_big_quiet_step ((fail)))
              refine wpQuiet_nil ?_
              intro w7 hx7
              have oCB7 := oCBs.ex hx7
              have oNB7 := oNBs.ex hx7
              have hx47 := hx4s.trans hx7
              clear x1 oCBs oNBs
              have r0 := oNB7.cell i
              rw [boolV_get hil] at r0
              have r1 := oCB7.free i
              have r5 := oCB7.cell i
              rw [boolV_get hil] at r5
              have r2 := oCB7.lt
              have r3 := oNB7.lt
              have r4 := ex_cell g0 hx47
              cases ha : folTo ll tr I (i + 1) i with
              | true =>
                have oCB9 := oCB7.set i (.bool true)
                rw [boolV_set hil] at oCB9
                have hcv := HCv.out
                rw [ha, Bool.true_or] at hcv
                rw [hcv] at oCB9
                have oNB9 := oNB7.set_other (c := CB) i (.bool true) (by omega)
                have hx9 := (hx47).setCell (p := ⟨CB, i, none⟩) hCB1 (.bool true)
                rw [ha] at r0
                clear HCv hcv HI1 HCk HFj hx7
                go_wp2
                go_roundw
                case rel => exact ⟨i + 1, by omega, by go_num, hx9, oCB9, oNB9⟩
                case measure => simp [intOf]; omega
              | false =>
                have HC1 : Hid _ := HCk.out _ (-(tr.getD i default).lit) hx47
                rw [HI1.out] at HC1
                have hwz : IntKind.i64.wrap (-(tr.getD i default).lit) = -(tr.getD i default).lit := IntWalk.i64_in _ (by omega)
                have oCB9 := oCB7.set i (.bool (I i))
                rw [boolV_set hil] at oCB9
                have hcv := HCv.out
                rw [ha, Bool.false_or] at hcv
                rw [hcv] at oCB9
                have oNB9 := oNB7.set_other (c := CB) i (.bool (I i)) (by omega)
                have hx9 := (hx47).setCell (p := ⟨CB, i, none⟩) hCB1 (.bool (I i))
                rw [ha] at r0
                clear HCv hcv HI1 HCk HFj hx7
                generalize (tr.getD i default).lit = sx at *
                generalize I i = bi at *
                go_wp2_with fail
                refine Calls.mono HC1.out ?_
                rintro e w8 ⟨rfl, rfl⟩
                go_wp2
                go_roundw
                case rel => exact ⟨i + 1, by omega, by go_num, hx9, oCB9, oNB9⟩
                case measure => simp [intOf]; omega
          · obtain ⟨q, hq⟩ : ∃ q : Nat, (tr.getD i default).why = q := ⟨((tr.getD i default).why).toNat, by omega⟩
            obtain ⟨_, _, hwl, hmem, hall⟩ := HTl.out.res i hil (by rw [hsW]; omega)
            have hql : q < ll.length := by rw [hsW] at hwl; omega
            have eR : sR ll tr i = ll.getD q [] := by unfold sR; rw [hsW, hq, Int.toNat_natCast]
            obtain ⟨rb, roff, rv, rfl, hrb, hrc, hri, hrl, hrr⟩ := HRo.out q hql
            have HAl : Hid (∀ j, j < (ll.getD q []).length → (ll.getD q []).getD j 0 ≠ (tr.getD i default).lit → ∃ t, t < i ∧ wrongI (tr.take i) ((ll.getD q []).getD j 0) = t ∧ covTo ll tr I i t = coverAt tr I (folTo ll tr I i) ((ll.getD q []).getD j 0)) := fun j hj hnj => by
              obtain ⟨t, ht, et⟩ := hall _ (by rw [eR, getD_getElem hj]; exact List.getElem_mem hj) hnj
              refine ⟨t, ht, wrong_take HTl.out (by omega) ht et, ?_⟩
              rw [covTo_at ht]
              unfold coverAt
              rw [HTl.out.wrong (by omega) et]
            have HSu : Hid (∀ j, j < (ll.getD q []).length → canIn ll tr I (folTo ll tr I i) i (j + 1) = (canIn ll tr I (folTo ll tr I i) i j && ((ll.getD q []).getD j 0 == (tr.getD i default).lit || coverAt tr I (folTo ll tr I i) ((ll.getD q []).getD j 0)))) := fun j hj => by
              have := canIn_succ (ll := ll) (tr := tr) (I := I) (F := folTo ll tr I i) (i := i) (j := j) (by rw [eR]; exact hj)
              rw [eR, hsL] at this; exact this
            have HEn : Hid ((fun k => if k = i then canIn ll tr I (folTo ll tr I i) i (ll.getD q []).length else folTo ll tr I i k) = folTo ll tr I (i + 1)) := canIn_end (fun _ => by rw [eR])
            have HZe : Hid (canIn ll tr I (folTo ll tr I i) i 0 = true) := by show _ = _; rw [canIn_zero, hsW]; exact decide_eq_true hw
            have HRr : Hid _ := hrr
            have hqc : ((q : Nat) : Int) < ll.length := by omega
            have hq0 : decide ((0 : Int) ≤ ((q : Nat) : Int)) = true := decide_eq_true (by omega)
            rw [hq] at g1r g1
            have oNB2 := oNB.set i (.bool true)
            have hze : (fun k => if k = i then true else folTo ll tr I i k) = fun k => if k = i then canIn ll tr I (folTo ll tr I i) i 0 else folTo ll tr I i k := by rw [HZe.out]
            rw [boolV_set hil, hze] at oNB2
            clear hze
            have oCB2 := oCB.set_other (c := CB + 1) i (.bool true) (by omega)
            have hx2 := hx4r.setCell (p := ⟨CB + 1, i, none⟩) hCB2 (.bool true)
            have h1 := oT4.cell 1
            have h2 := ex_cell hrc hxw
            clear HZe hrr oCB oNB hsL hsW HFi HCo hall hmem eR hwl hw hq HRo
            generalize hF : folTo ll tr I i = F at *
            clear hF
            generalize ll.getD q [] = rc at *
            obtain ⟨ca, ccap, rfl, rc1, rc2, _⟩ := id hri
            unfold maxLen at rc2
            go_wp2
            clear f0 f1 f2 g1r
            generalize wr.setCell ⟨CB + 1, i, none⟩ (.bool true) = w6 at *
            go_loopw [12] (fun kv wr => ∃ j : Nat, j ≤ rc.length ∧ kv = .int .i64 j ∧ Ex w4 wr ∧ OwnB wr CB (boolV tr.length (covTo ll tr I i)) 4 ∧ OwnB wr (CB + 1) (boolV tr.length fun k => if k = i then canIn ll tr I F i j else F k) 4) (fun kv _ => rc.length - (intOf kv).toNat)
            case atStart => exact ⟨0, Nat.zero_le _, rfl, hx2, oCB2, oNB2⟩
            case round =>
              clear oCB2 oNB2 hx2
              obtain ⟨j, hj, rfl, hx4s, oCBs, oNBs⟩ := hrel
              have x1 := ext_cell (ex_cell g1 hx4s)
              have x2 := ext_cell (ex_cell h1 hx4s)
              have x3 := ext_cell (ex_cell h2 hx4s)
              by_cases hjl : j < rc.length
              · obtain ⟨_, _, ev, _, _, e3⟩ := hri.ex (hxw.trans hx4s)
                cases ev
                obtain ⟨cb, coff, rfl, hcb, hcell⟩ := e3 j hjl
                have hjj : ((j : Nat) : Int) < rc.length := by omega
                have hjd : decide (((j : Nat) : Int) < (rc.length : Int)) = true := decide_eq_true hjj
                have hAl := HAl.out j hjl
                have hSu := HSu.out j hjl
                have hyr := HRr.out j hjl
                have x4 := ext_cell hcell
                clear e3 HAl HRr HSu HEn HCv HI1 HCk hri
                generalize rc.getD j 0 = y at *
                have HAl : Hid _ := hAl
                have HSu : Hid _ := hSu
                clear hAl hSu
                go_wp2
                refine wp_region_quiet_ext (by kernel_rfl) (by kernel_rfl) ?_
                repeat (go_big_quiet_step ((fail)))
                refine wpQuiet_nil ?_
                intro w7 hx7
                have hx47 := hx4s.trans hx7
                have x1b := ext_cell (ex_cell g1 hx47)
                have x2b := ext_cell (ex_cell h1 hx47)
                have x3b := ext_cell (ex_cell h2 hx47)
                have x4b := ext_cell (ex_cell hcell hx7)
                clear x1 x2 x3 x4
                go_wp2
                refine wp_region_quiet_ext (by kernel_rfl) (by kernel_rfl) ?_
                repeat (go_big_quiet_step ((fail)))
                refine wpQuiet_nil ?_
                intro w8 hx8
                have hx48 := hx47.trans hx8
                have hx78 := hx7.trans hx8
                have oCB8 := oCBs.ex hx78
                have oNB8 := oNBs.ex hx78
                have s0 := oNB8.free i
                have s1' := oNB8.cell i
                rw [boolV_get hil, if_pos rfl] at s1'
                have s2' := oNB8.lt
                have s3 := ex_cell g0 hx48
                clear x1b x2b x3b x4b oCBs oNBs hx4s hx7 hx47 hx78
                cases ha : canIn ll tr I F i j with
                | false =>
                  have hnx : Hid (canIn ll tr I F i (j + 1) = false) := by show _ = _; rw [HSu.out, ha]; rfl
                  have oNB9 := oNB8.set i (.bool false)
                  have hee : (fun k => if k = i then false else if k = i then canIn ll tr I F i j else F k) = fun k => if k = i then canIn ll tr I F i (j + 1) else F k := by funext k; rw [hnx.out]; split <;> rfl
                  rw [boolV_set hil, hee] at oNB9
                  have oCB9 := oCB8.set_other (c := CB + 1) i (.bool false) (by omega)
                  have hx9 := hx48.setCell (p := ⟨CB + 1, i, none⟩) hCB2 (.bool false)
                  rw [ha] at s1'
                  clear hee hnx HAl HSu HFj oNB8 oCB8
                  go_wp2
                  go_roundw
                  case rel => exact ⟨j + 1, by omega, by go_num, hx9, oCB9, oNB9⟩
                  case measure => simp [intOf]; omega
                | true =>
                  rw [ha] at s1'
                  by_cases hy : y = (tr.getD i default).lit
                  · have hnx : Hid (canIn ll tr I F i (j + 1) = true) := by show _ = _; rw [HSu.out, ha, beq_iff_eq.2 hy]; rfl
                    have hyd : decide (y = (tr.getD i default).lit) = true := decide_eq_true hy
                    have hyb : (y == (tr.getD i default).lit) = true := beq_iff_eq.2 hy
                    have oNB9 := oNB8.set i (.bool true)
                    have hee : (fun k => if k = i then true else if k = i then canIn ll tr I F i j else F k) = fun k => if k = i then canIn ll tr I F i (j + 1) else F k := by funext k; rw [hnx.out]; split <;> rfl
                    rw [boolV_set hil, hee] at oNB9
                    have oCB9 := oCB8.set_other (c := CB + 1) i (.bool true) (by omega)
                    have hx9 := hx48.setCell (p := ⟨CB + 1, i, none⟩) hCB2 (.bool true)
                    clear hee hnx HAl HSu HFj oNB8 oCB8
                    generalize (tr.getD i default).lit = sx at *
                    go_wp2
                    go_roundw
                    case rel => exact ⟨j + 1, by omega, by go_num, hx9, oCB9, oNB9⟩
                    case measure => simp [intOf]; omega
                  · obtain ⟨t, hti, htw, htc⟩ := HAl.out hy
                    have hnx : Hid (canIn ll tr I F i (j + 1) = coverAt tr I F y) := by show _ = _; rw [HSu.out, ha, beq_eq_false_iff_ne.2 hy]; rfl
                    have hyd : decide (y = (tr.getD i default).lit) = false := decide_eq_false hy
                    have hyb : (y == (tr.getD i default).lit) = false := beq_eq_false_iff_ne.2 hy
                    have htl : t < tr.length := by omega
                    have htt : ((t : Nat) : Int) < tr.length := by omega
                    have u0 := oCB8.cell t
                    rw [boolV_get htl, htc] at u0
                    have u1 := oCB8.lt
                    have HF1 : Hid _ := HFj.out w8 y hx48 hyr.1 hyr.2
                    rw [htw] at HF1
                    have oNB9 := oNB8.set i (.bool (coverAt tr I F y))
                    have hee : (fun k => if k = i then coverAt tr I F y else if k = i then canIn ll tr I F i j else F k) = fun k => if k = i then canIn ll tr I F i (j + 1) else F k := by funext k; rw [hnx.out]; split <;> rfl
                    rw [boolV_set hil, hee] at oNB9
                    have oCB9 := oCB8.set_other (c := CB + 1) i (.bool (coverAt tr I F y)) (by omega)
                    have hx9 := hx48.setCell (p := ⟨CB + 1, i, none⟩) hCB2 (.bool (coverAt tr I F y))
                    clear hee hnx HAl HSu HFj oNB8 oCB8 htw htc
                    generalize (tr.getD i default).lit = sx at *
                    generalize coverAt tr I F y = cv at *
                    go_wp2_with fail
                    refine Calls.mono HF1.out ?_
                    rintro e w9 ⟨rfl, rfl⟩
                    go_wp2
                    go_roundw
                    case rel => exact ⟨j + 1, by omega, by go_num, hx9, oCB9, oNB9⟩
                    case measure => simp [intOf]; omega
              · obtain rfl : j = rc.length := by omega
                have hjd : decide (((rc.length : Nat) : Int) < (rc.length : Int)) = false := decide_eq_false (by omega)
                rw [HEn.out] at oNBs
                clear HAl HRr HSu HEn hri
                go_wp2
                refine wp_region_quiet_ext (by kernel_rfl) (by kernel_rfl) ?_
                repeat (go_big_quiet_step ((fail)))
                refine wpQuiet_nil ?_
                intro w7 hx7
                have oCB7 := oCBs.ex hx7
                have oNB7 := oNBs.ex hx7
                have hx47 := hx4s.trans hx7
                clear x1 x2 x3 oCBs oNBs
                have r0 := oNB7.cell i
                rw [boolV_get hil] at r0
                have r1 := oCB7.free i
                have r5 := oCB7.cell i
                rw [boolV_get hil] at r5
                have r2 := oCB7.lt
                have r3 := oNB7.lt
                have r4 := ex_cell g0 hx47
                cases ha : folTo ll tr I (i + 1) i with
                | true =>
                  have oCB9 := oCB7.set i (.bool true)
                  rw [boolV_set hil] at oCB9
                  have hcv := HCv.out
                  rw [ha, Bool.true_or] at hcv
                  rw [hcv] at oCB9
                  have oNB9 := oNB7.set_other (c := CB) i (.bool true) (by omega)
                  have hx9 := (hx47).setCell (p := ⟨CB, i, none⟩) hCB1 (.bool true)
                  rw [ha] at r0
                  clear HCv hcv HI1 HCk HFj hx7
                  go_wp2
                  go_roundw
                  case rel => exact ⟨i + 1, by omega, by go_num, hx9, oCB9, oNB9⟩
                  case measure => simp [intOf]; omega
                | false =>
                  have HC1 : Hid _ := HCk.out _ (-(tr.getD i default).lit) hx47
                  rw [HI1.out] at HC1
                  have hwz : IntKind.i64.wrap (-(tr.getD i default).lit) = -(tr.getD i default).lit := IntWalk.i64_in _ (by omega)
                  have oCB9 := oCB7.set i (.bool (I i))
                  rw [boolV_set hil] at oCB9
                  have hcv := HCv.out
                  rw [ha, Bool.false_or] at hcv
                  rw [hcv] at oCB9
                  have oNB9 := oNB7.set_other (c := CB) i (.bool (I i)) (by omega)
                  have hx9 := (hx47).setCell (p := ⟨CB, i, none⟩) hCB1 (.bool (I i))
                  rw [ha] at r0
                  clear HCv hcv HI1 HCk HFj hx7
                  generalize (tr.getD i default).lit = sx at *
                  generalize I i = bi at *
                  go_wp2_with fail
                  refine Calls.mono HC1.out ?_
                  rintro e w8 ⟨rfl, rfl⟩
                  go_wp2
                  go_roundw
                  case rel => exact ⟨i + 1, by omega, by go_num, hx9, oCB9, oNB9⟩
                  case measure => simp [intOf]; omega
        · obtain rfl : i = tr.length := by omega
          have hFS : Hid (∀ k, (keepF tr (folTo ll tr I tr.length) (c.take k)).length ≤ c.length) := keepF_len tr _ c
          have hKT : Hid (∀ k t, k < c.length → wrongN tr (c.getD k 0) = some t → keepF tr (folTo ll tr I tr.length) (c.take (k + 1)) = keepF tr (folTo ll tr I tr.length) (c.take k) ++ if folTo ll tr I tr.length t = true then [] else [c.getD k 0]) := fun k t hk h => keepF_take hk h
          clear HIn HCo HRo oCB
          generalize folTo ll tr I tr.length = F at *
          have oT6 := oT4.ex hx4r
          generalize hw6 : wr = w6 at *
          clear hw6
          go_wp2
          go_loopw [14, 15] (fun ov kv wr => ∃ k : Nat, k ≤ c.length ∧ kv = .int .i64 k ∧ OwnI wr w6.heap.size ov (keepF tr F (c.take k)) ∧ Ex w6 wr) (fun _ kv _ => c.length - (intOf kv).toNat)
          case atStart => exact ⟨0, Nat.zero_le _, rfl, OwnI.nil _ _, Ex.refl _⟩
          case round =>
            obtain ⟨k, hk, rfl, hO, hx6r⟩ := hrel
            have hxwr := hxw4.trans hx6r
            have oNBr := oNB.ex hx6r
            have hs6 := hx6r.size
            by_cases hlt : k < c.length
            · obtain ⟨_, _, ev, _, _, e3⟩ := hc0.ex hxwr
              cases ev
              obtain ⟨b, off, rfl, hb, hcell⟩ := e3 k hlt
              obtain ⟨y1, y2, t, htl, htw, htq⟩ := HSo.out k hlt
              have hkt := hKT.out k t hlt htw
              have hol := hFS.out k
              have HF1 : Hid _ := HFi.out wr tr.length (c.getD k 0) hxwr (Nat.le_refl _) y1 y2
              rw [List.take_length, htq] at HF1
              have u0 := oNBr.cell t
              rw [boolV_get htl] at u0
              have u1 := oNBr.lt
              have htt : ((t : Nat) : Int) < tr.length := by omega
              have hkk : ((k : Nat) : Int) < c.length := by omega
              clear e3 HSo hFS hKT HFi HOr oNBr oNB htw htq
              generalize c.getD k 0 = y at *
              generalize hFt : F t = ft at *
              obtain ⟨N, hN⟩ : ∃ N, N = keepF tr F (c.take k) := ⟨_, rfl⟩
              rw [← hN] at hkt hol hO
              have hKT2 : Hid _ := hkt
              clear hkt hFt hN
              obtain ⟨oa, ocap, rfl, o1, o2, _⟩ := hO.ints
              unfold maxLen at o2
              cases ft with
              | true =>
                have hKT3 : Hid (keepF tr F (c.take (k + 1)) = N) := by show _ = _; rw [hKT2.out]; simp
                clear hKT2
                go_wp2_with fail
                refine Calls.mono HF1.out ?_
                rintro e w7 ⟨rfl, rfl⟩
                go_wp2
                go_roundw
                case rel => exact ⟨k + 1, by omega, by go_num, by rw [hKT3.out]; exact hO, hx6r⟩
                case measure => simp [intOf]; omega
              | false =>
                have hKT3 : Hid (keepF tr F (c.take (k + 1)) = N ++ [y]) := by show _ = _; rw [hKT2.out]; simp
                have hI := intsAt_fresh wr y 3
                clear hKT2
                go_wp2_with fail
                refine Calls.mono HF1.out ?_
                rintro e w7 ⟨rfl, rfl⟩
                go_wp2_with (at_builtin; refine wpList_append_ints rfl (.tmp 165) (.tmp 170) rfl rfl rfl (hO.ex (Ex.alloc _ _)) hI ?c1 ?c2 ?_)
                case c1 => first | (simp only [List.length_cons, List.length_nil]; omega) | omega
                case c2 => first | (rw [alloc_size]; omega) | omega
                intro v9 w9 hown9 hg9
                have hx69 : Ex w6 w9 := grown_ex (hx6r.alloc' _) hg9 (ownsRow_block hO)
                clear hg9 hI hO
                go_wp2
                go_roundw
                case rel => exact ⟨k + 1, by omega, by go_num, by rw [hKT3.out]; exact hown9, hx69⟩
                case measure => simp [intOf]; omega
            · obtain rfl : k = c.length := by omega
              rw [List.take_length] at hO
              have HO2 : Hid _ := HOr.out wr _ _ hO.ints
              have oT7 := oT6.ex hx6r
              have d0 := oT7.cell 0
              have d1 := oT7.lt
              clear HOr HSo hFS hKT HFi oNBr oNB
              generalize keepF tr F c = K at *
              go_wp2_with fail
              refine Calls.mono HO2.out ?_
              rintro e w8 ⟨v8, rfl, ho8, hx8⟩
              go_wp2
              go_ret2
              exact ⟨_, rfl, ho8.base hxwr.size, hxwr.trans hx8⟩
end Go.Proofs.Yteagoaiiacideaa
