/- The reference of learning: First: it says what the program's First says. No condition but the length of the steps. -/
import Derived.Test.YteagoaiiacideaaLrnG
import Derived.Test.YteagoaiiacideaaLearn6
namespace Go.Proofs.Yteagoaiiacideaa
set_option linter.unusedSimpArgs false
set_option linter.unusedVariables false
open Go.RowKit
set_option maxRecDepth 20000
set_option maxRecDepth 100000 in
set_option maxHeartbeats 4000000 in
theorem r13First_bad (n : Int) (lv sv : Value) (ll : List (List Int)) (tr : List St) (cf : Int) (w : World) (hR : RowsAt w lv ll) (hS : StepsAt w sv tr) (hlen : tr.length ≤ 1000) (hb : firstOk n ll tr cf = false) :
    Calls Try.prog 16 #[.agg #[.int .i64 n, lv], sv, .int .i64 cf] w (FirstRet w [] 0 1) := by
  have HCk : Hid (∀ wa, Ex w wa → Calls Try.prog 36 #[.agg #[.int .i64 n, lv]] wa fun e w' => e = .returned (.int .i64 (theoryErr n ll)) ∧ Ex wa w') := fun wa hx => r05Check_any n lv ll wa (hR.ex hx)
  have HTr : Hid (theoryErr n ll = 0 → ∀ wa, Ex w wa → Calls Try.prog 37 #[.agg #[.int .i64 n, lv], sv] wa fun e w' => e = .returned (.bool (trailB n ll tr)) ∧ Ex wa w') := fun ht wa hx => r13Trail_any n lv sv ll tr wa (hR.ex hx) (hS.ex hx) ht hlen
  have hS0 := hS
  have hR0 := hR
  obtain ⟨ra, rcap, rfl, r1, r2, r3⟩ := hR
  obtain ⟨sa, scap, rfl, s1, s2, s3⟩ := hS
  unfold maxLen at r2 s2
  clear r3 s3
  have oT := OwnB.new w [.int .i64 n, .slice ra ll.length rcap] 24
  have hxa := Ex.alloc w (.cells #[.int .i64 n, .slice ra ll.length rcap] 24)
  by_cases ht : theoryErr n ll = 0
  rotate_left
  · have he' : (theoryErr n ll != 0) = true := by simp [ht]
    clear HTr ht hb
    generalize theoryErr n ll = ER at *
    go_enter Try.func16, Try.ntmps16
    go_wp2_with fail
    refine (HCk.out _ hxa).mono ?_
    rintro e w2 ⟨rfl, hx2⟩
    go_wp2
    go_ret3
    exact ⟨_, rfl, OwnI.nil _ _, hxa.trans hx2⟩
  have HT2 : Hid _ := HTr.out ht
  rw [ht] at HCk
  cases htb : trailB n ll tr with
  | false =>
    rw [htb] at HT2
    clear HTr ht hb htb
    go_enter Try.func16, Try.ntmps16
    go_wp2_with fail
    refine (HCk.out _ hxa).mono ?_
    rintro e w2 ⟨rfl, hx2⟩
    have c0 := (oT.ex hx2).cell 0
    have c1 := (oT.ex hx2).cell 1
    have z0 := (oT.ex hx2).lt
    go_wp2_with fail
    refine (HT2.out _ (hxa.trans hx2)).mono ?_
    rintro e w3 ⟨rfl, hx3⟩
    go_wp2
    go_ret3
    exact ⟨_, rfl, OwnI.nil _ _, (hxa.trans hx2).trans hx3⟩
  | true =>
  rw [htb] at HT2
  by_cases hc0 : cf < 0
  · clear HTr ht hb htb
    go_enter Try.func16, Try.ntmps16
    go_wp2_with fail
    refine (HCk.out _ hxa).mono ?_
    rintro e w2 ⟨rfl, hx2⟩
    have c0 := (oT.ex hx2).cell 0
    have c1 := (oT.ex hx2).cell 1
    have z0 := (oT.ex hx2).lt
    go_wp2_with fail
    refine (HT2.out _ (hxa.trans hx2)).mono ?_
    rintro e w3 ⟨rfl, hx3⟩
    go_wp2
    go_ret3
    exact ⟨_, rfl, OwnI.nil _ _, (hxa.trans hx2).trans hx3⟩
  by_cases hc1 : (ll.length : Int) ≤ cf
  · clear HTr ht hb htb
    go_enter Try.func16, Try.ntmps16
    go_wp2_with fail
    refine (HCk.out _ hxa).mono ?_
    rintro e w2 ⟨rfl, hx2⟩
    have c0 := (oT.ex hx2).cell 0
    have c1 := (oT.ex hx2).cell 1
    have z0 := (oT.ex hx2).lt
    go_wp2_with fail
    refine (HT2.out _ (hxa.trans hx2)).mono ?_
    rintro e w3 ⟨rfl, hx3⟩
    have c03 := ex_cell c0 hx3
    have c13 := ex_cell c1 hx3
    have z03 := Nat.lt_of_lt_of_le z0 hx3.size
    go_wp2
    go_ret3
    exact ⟨_, rfl, OwnI.nil _ _, (hxa.trans hx2).trans hx3⟩
  obtain ⟨q, rfl⟩ : ∃ q : Nat, cf = q := ⟨cf.toNat, by omega⟩
  have hq : q < ll.length := by omega
  obtain ⟨_, _, ev, _, _, r3⟩ := id hR0
  cases ev
  obtain ⟨rb, roff, rv, rfl, hrb, hrc, hri⟩ := r3 q hq
  have hcv := (theoryErr_zero ht).2.2.2 _ (by rw [getD_getElem hq]; exact List.getElem_mem hq : ll.getD q [] ∈ ll)
  have hcz : ∀ y ∈ ll.getD q [], y ≠ 0 := fun y hy => ((litValid_iff _ _).1 (hcv.2 y hy)).1
  have hconf : confB tr (ll.getD q []) = false := by
    unfold firstOk at hb
    rw [ht, htb, decide_eq_true (show (0 : Int) ≤ q by omega), decide_eq_true (show (q : Int) < ll.length by omega), Int.toNat_natCast] at hb
    simpa using hb
  have HAf : Hid (∀ wa, Ex w wa → Calls Try.prog 38 #[.slice sa tr.length scap, .int .i64 tr.length, rv, .int .i64 0] wa fun e w' => e = .returned (.bool false) ∧ wa = w') := fun wa hx => by
    have := r13allFalse_any (.slice sa tr.length scap) rv tr (ll.getD q []) tr.length 0 wa (hS0.ex hx) (hri.ex hx) (Nat.le_refl _) (fun y hy => by have := (litValid_iff _ _).1 (hcv.2 y hy); omega) hlen
    rwa [confB_eq hcz, hconf] at this
  have hd0 : decide ((q : Int) < 0) = false := decide_eq_false (by omega)
  have hd1 : decide (ll.length ≤ q) = false := decide_eq_false (by omega)
  have hqq : (q : Int) < ll.length := by omega
  obtain ⟨ca, ccap, rfl, _, _, _⟩ := id hri
  clear HTr ht hb htb hcv hcz hconf r3 hri hR0
  generalize ll.getD q [] = c at *
  go_enter Try.func16, Try.ntmps16
  go_wp2_with fail
  refine (HCk.out _ hxa).mono ?_
  rintro e w2 ⟨rfl, hx2⟩
  have c0 := (oT.ex hx2).cell 0
  have c1 := (oT.ex hx2).cell 1
  have z0 := (oT.ex hx2).lt
  go_wp2_with fail
  refine (HT2.out _ (hxa.trans hx2)).mono ?_
  rintro e w3 ⟨rfl, hx3⟩
  have c03 := ex_cell c0 hx3
  have c13 := ex_cell c1 hx3
  have z03 := Nat.lt_of_lt_of_le z0 hx3.size
  have hxw3 := (hxa.trans hx2).trans hx3
  have t3 := ex_cell hrc hxw3
  have t4 := Nat.lt_of_lt_of_le hrb hxw3.size
  clear c0 c1 z0
  go_wp2_with fail
  refine (HAf.out _ hxw3).mono ?_
  rintro e w4 ⟨rfl, rfl⟩
  go_wp2
  go_ret3
  exact ⟨_, rfl, OwnI.nil _ _, hxw3⟩
set_option maxRecDepth 100000 in
set_option maxHeartbeats 8000000 in
theorem r13First_ok (n : Nat) (lv sv : Value) (ll : List (List Int)) (tr : List St) (q : Nat) (w : World) (hR : RowsAt w lv ll) (hS : StepsAt w sv tr) (hlen : tr.length ≤ 1000) (hok : firstOk n ll tr q = true) :
    Calls Try.prog 16 #[.agg #[.int .i64 n, lv], sv, .int .i64 q] w (FirstRet w (firstL n ll tr q) (firstK n ll tr q) 0) := by
  obtain ⟨ht, htb, _, hq', hfalse⟩ := firstOk_iff.1 hok
  rw [Int.toNat_natCast] at hfalse
  have hq : q < ll.length := by omega
  have hn : n ≤ 128 := by have := (theoryErr_zero ht).2.1; omega
  have hTrl := trl_of htb
  have HCk : Hid (∀ wa, Ex w wa → Calls Try.prog 36 #[.agg #[.int .i64 n, lv]] wa fun e w' => e = .returned (.int .i64 0) ∧ Ex wa w') := fun wa hx => ht ▸ r05Check_any n lv ll wa (hR.ex hx)
  have HT2 : Hid (∀ wa, Ex w wa → Calls Try.prog 37 #[.agg #[.int .i64 n, lv], sv] wa fun e w' => e = .returned (.bool true) ∧ Ex wa w') := fun wa hx => htb ▸ r13Trail_any n lv sv ll tr wa (hR.ex hx) (hS.ex hx) ht hlen
  have HAd : Hid (∀ wa base u (m : List Int) (x : Int), OwnI wa base u m → base ≤ wa.heap.size → m.length ≤ 10000 → Calls Try.prog 39 #[u, .int .i64 x] wa (AddRet wa base u m x)) := fun wa base u m x h hb hm => r13add_any base u m x wa h hb (by omega)
  have HFi : Hid (∀ wa y, Ex w wa → -1000 ≤ y → y ≤ 1000 → Calls Try.prog 42 #[sv, .int .i64 tr.length, .int .i64 y] wa fun e w' => e = .returned (.int .i64 (wrongI tr y)) ∧ wa = w') := fun wa y hx h1 h2 => by
    have := r13find_any sv tr tr.length y wa (hS.ex hx) (Nat.le_refl _) h1 h2 hlen
    rwa [List.take_length] at this
  have HLe : Hid (∀ wa y, Ex w wa → trueT tr (-y) = true → -1000 ≤ y → y ≤ 1000 → Calls Try.prog 43 #[sv, .int .i64 y] wa fun e w' => e = .returned (.int .i64 (levelOf tr y)) ∧ wa = w') := fun wa y hx h0 h1 h2 => r13level_any sv tr y wa (hS.ex hx) h0 h1 h2 hlen
  have HGr : Hid (∀ wa u m, Ex w wa → IntsAt wa u m → (∀ y ∈ m, trueT tr (-y) = true) → (∀ y ∈ m, -1000 ≤ y ∧ y ≤ 1000) → Calls Try.prog 40 #[sv, u] wa fun e w' => e = .returned (.int .i64 (topI tr m)) ∧ wa = w') := fun wa u m hx hm h0 h1 => r13greatest_any sv u tr m wa (hS.ex hx) hm h0 h1 hlen
  have HOf : Hid (∀ wa u m d, Ex w wa → IntsAt wa u m → (∀ y ∈ m, trueT tr (-y) = true) → (∀ y ∈ m, -1000 ≤ y ∧ y ≤ 1000) → m.length ≤ 1000 → Calls Try.prog 41 #[sv, u, .int .i64 d] wa (OrdRet wa (m.filter fun y => levelOf tr y == d))) := fun wa u m d hx hm h0 h1 h2 => r13of_any sv u tr m d wa (hS.ex hx) hm h0 h1 hlen (by omega)
  have HOr : Hid (∀ wa u m, IntsAt wa u m → Calls Try.prog 44 #[u, .int .i64 n] wa (OrdRet wa (ordF m n))) := fun wa u m h => r13Ordered_any u m n hn wa h
  have hS0 := hS
  have hR0 := hR
  obtain ⟨ra, rcap, rfl, r1, r2, r3⟩ := hR
  obtain ⟨sa, scap, rfl, s1, s2, s3⟩ := hS
  unfold maxLen at r2 s2
  have HRo : Hid (∀ q, q < ll.length → ∃ b off rv, ra = some ⟨b, off, none⟩ ∧ b < w.heap.size ∧ w.cell? ⟨b, off + q, none⟩ = some rv ∧ IntsAt w rv (ll.getD q []) ∧ (ll.getD q []).length ≤ 128) := fun q hq => by
    obtain ⟨b, off, rv, e2, hb, hc, hi⟩ := r3 q hq
    exact ⟨b, off, rv, e2, hb, hc, hi, ((theoryErr_zero ht).2.2.2 _ (by rw [getD_getElem hq]; exact List.getElem_mem hq)).1⟩
  have hcv := (theoryErr_zero ht).2.2.2 _ (by rw [getD_getElem hq]; exact List.getElem_mem hq : ll.getD q [] ∈ ll)
  have HCr : Hid (∀ y ∈ ll.getD q [], -1000 ≤ y ∧ y ≤ 1000) := fun y hy => by have := (litValid_iff _ _).1 (hcv.2 y hy); omega
  have HCf : Hid (∀ y ∈ ll.getD q [], trueT tr (-y) = true) := hfalse
  obtain ⟨rb, roff, rv, rfl, hrb, hrc, hri, hcl⟩ := HRo.out q hq
  have HAf : Hid (∀ wa, Ex w wa → Calls Try.prog 38 #[.slice sa tr.length scap, .int .i64 tr.length, rv, .int .i64 0] wa fun e w' => e = .returned (.bool true) ∧ wa = w') := fun wa hx => by
    have := r13allFalse_any (.slice sa tr.length scap) rv tr (ll.getD q []) tr.length 0 wa (hS0.ex hx) (hri.ex hx) (Nat.le_refl _) (HCr.out) hlen
    have hconf : confB tr (ll.getD q []) = true := List.all_eq_true.2 hfalse
    rwa [confB_eq (fun y hy => ((litValid_iff _ _).1 (hcv.2 y hy)).1), hconf] at this
  have HLo : Hid (¬ 0 < topI tr (ll.getD q []) → firstL n ll tr q = [] ∧ firstK n ll tr q = -1) := fun h => by
    have := first_low (n := n) (ll := ll) (tr := tr) (cf := (q : Int)) hok (by unfold firstTop; rw [Int.toNat_natCast]; exact h)
    exact ⟨this.1, this.2.1⟩
  have HGo : Hid (0 < topI tr (ll.getD q []) → ∃ F, OnPick n ll tr (topI tr (ll.getD q [])) F tr.length (addsL [] (ll.getD q [])) ∧ ∀ C, RepC tr C F → ordF C n = firstL n ll tr q ∧ backL tr C (topI tr (ll.getD q [])) = firstK n ll tr q) := fun h => by
    have hft : firstTop ll tr (q : Int) = topI tr (ll.getD q []) := by unfold firstTop; rw [Int.toNat_natCast]
    obtain ⟨g1, g2, _⟩ := first_good (n := n) (ll := ll) (tr := tr) (cf := (q : Int)) hok (by rw [hft]; exact h)
    refine ⟨finalS ll tr q, ?_, fun C hC => ⟨?_, ?_⟩⟩
    · have := onpick_start hTrl hfalse (Int.le_of_lt h)
      unfold finalS
      rw [hft, Int.toNat_natCast]
      exact this
    · rw [g1]; exact first_eq hTrl hC
    · rw [g2, hft]; exact back_eq hTrl hC _
  have HTop : Hid (topI tr (addsL [] (ll.getD q [])) = topI tr (ll.getD q [])) := top_adds
  have HTl : Hid (Trl n ll tr) := hTrl
  have oT := OwnB.new w [.int .i64 n, .slice (some ⟨rb, roff, none⟩) ll.length rcap] 24
  have hxa := Ex.alloc w (.cells #[.int .i64 n, .slice (some ⟨rb, roff, none⟩) ll.length rcap] 24)
  have hd0 : decide ((q : Int) < 0) = false := decide_eq_false (by omega)
  have hd1 : decide (ll.length ≤ q) = false := decide_eq_false (by omega)
  have hqq : (q : Int) < ll.length := by omega
  obtain ⟨ca, ccap, rfl, k1, k2, _⟩ := id hri
  unfold maxLen at k2
  clear ht htb hq' hfalse hcv hTrl r3 s3 hok hR0
  generalize firstL n ll tr q = RL at *
  generalize firstK n ll tr q = RK at *
  generalize ll.getD q [] = c at *
  go_enter Try.func16, Try.ntmps16
  go_wp2_with fail
  refine (HCk.out _ hxa).mono ?_
  rintro e w2 ⟨rfl, hx2⟩
  have c0 := (oT.ex hx2).cell 0
  have c1 := (oT.ex hx2).cell 1
  have z0 := (oT.ex hx2).lt
  go_wp2_with fail
  refine (HT2.out _ (hxa.trans hx2)).mono ?_
  rintro e w3 ⟨rfl, hx3⟩
  replace oT := (oT.ex hx2).ex hx3
  clear c0 c1 z0
  have c03 := oT.cell 0
  have c13 := oT.cell 1
  have z03 := oT.lt
  have hxw3 := (hxa.trans hx2).trans hx3
  have t3 := ex_cell hrc hxw3
  have t4 := Nat.lt_of_lt_of_le hrb hxw3.size
  clear hx2 hx3 HCk HT2 hxa
  go_wp2_with fail
  refine (HAf.out _ hxw3).mono ?_
  rintro e w4 ⟨rfl, rfl⟩
  clear HAf
  go_wp2
  go_loopw [9, 10] (fun cv iv wr => ∃ (k : Nat) (m : List Int), k ≤ c.length ∧ iv = .int .i64 k ∧ OwnI wr w3.heap.size cv m ∧ Hid (m = addsL [] (c.take k)) ∧ Ex w3 wr) (fun _ iv _ => c.length - (intOf iv).toNat)
  case atStart => exact ⟨0, [], Nat.zero_le _, rfl, OwnI.nil _ _, rfl, Ex.refl _⟩
  case round =>
    obtain ⟨k, m, hk, rfl, hO, HM, hxr⟩ := hrel
    have hxw := hxw3.trans hxr
    have hs := hxr.size
    have d1 := ex_cell c13 hxr
    have d2 := Nat.lt_of_lt_of_le z03 hxr.size
    have d3 := ex_cell t3 hxr
    have d4 := Nat.lt_of_lt_of_le t4 hxr.size
    have hml : m.length ≤ 128 := by rw [HM.out]; have := addsL_len (c.take k) []; rw [List.length_take, List.length_nil] at this; omega
    obtain ⟨ma, mcap, rfl, m1, m2, _⟩ := hO.ints
    unfold maxLen at m2
    by_cases hlt : k < c.length
    · obtain ⟨_, _, ev, _, _, e3⟩ := hri.ex hxw
      cases ev
      obtain ⟨cb, coff, rfl, hcb, hcell⟩ := e3 k hlt
      have HA1 : Hid _ := HAd.out wr w3.heap.size _ m (c.getD k 0) hO hs (by omega)
      have HM2 : Hid (addL m (c.getD k 0) = addsL [] (c.take (k + 1))) := by show _ = _; rw [adds_take hlt, HM.out]
      have hkk : (k : Int) < c.length := by omega
      clear e3 HM HLo HGo HTop HCr HCf HAd
      generalize c.getD k 0 = y at *
      go_wp2_with fail
      refine Calls.mono HA1.out ?_
      rintro e w5 ⟨v5, rfl, ho5, hg5⟩
      have hx5 : Ex w3 w5 := grown_ex hxr hg5 (ownsRow_block hO)
      go_wp2
      go_roundw
      case rel => exact ⟨k + 1, addL m y, by omega, by go_num, ho5, HM2, hx5⟩
      case measure => simp [intOf]; omega
    · obtain rfl : k = c.length := by omega
      have hm2 : m = addsL [] c := by rw [HM.out, List.take_length]
      have HmF : Hid (∀ y ∈ m, trueT tr (-y) = true) := fun y hy => by rw [hm2] at hy; exact HCf.out y (by simpa using addsL_mem.1 hy)
      have HmR : Hid (∀ y ∈ m, -1000 ≤ y ∧ y ≤ 1000) := fun y hy => by rw [hm2] at hy; exact HCr.out y (by simpa using addsL_mem.1 hy)
      have HG1 := HGr.out wr _ m hxw hO.ints HmF.out HmR.out
      rw [hm2, HTop.out, ← hm2] at HG1
      have HG2 : Hid _ := HG1
      have hmE : Hid (m = addsL [] c) := hm2
      clear HM HCr HCf HG1 hm2 HGr HTop
      by_cases htp : 0 < topI tr c
      rotate_left
      · obtain ⟨e1, e2⟩ := HLo.out (by omega)
        subst e1 e2
        clear HLo HGo HTl
        generalize topI tr c = top at *
        go_wp2_with fail
        refine Calls.mono HG2.out ?_
        rintro e w5 ⟨rfl, rfl⟩
        go_wp2
        go_ret3
        exact ⟨_, rfl, OwnI.nil _ _, hxw⟩
      obtain ⟨F, hOn, hFin⟩ := HGo.out htp
      have HOn : Hid (OnPick n ll tr (topI tr c) F tr.length m) := by show OnPick _ _ _ _ _ _ _; rw [hmE.out]; exact hOn
      have HFin : Hid _ := hFin
      clear HLo HGo hOn hFin hmE
      generalize topI tr c = top at *
      go_wp2_with fail
      refine Calls.mono HG2.out ?_
      rintro e w5 ⟨rfl, rfl⟩
      clear HG2
      go_wp2
      clear c13 c03 z03 t3 t4 HmF HmR d1 d2 d3 d4
      go_loopw [9] (fun cv wr => ∃ (i : Nat) (C : List Int), OwnI wr w3.heap.size cv C ∧ Hid (OnPick n ll tr top F i C) ∧ Ex w3 wr) (fun cv wr => (lastI tr (readI wr cv) + 1).toNat)
      case atStart => exact ⟨tr.length, m, hO, HOn, hxr⟩
      case round =>
        clear hO HOn
        obtain ⟨i, C, hO, HOn, hx3o⟩ := hrel
        have HCF : Hid (∀ y ∈ C, trueT tr (-y) = true) := onpick_false HOn.out
        have HCR : Hid (∀ y ∈ C, -1000 ≤ y ∧ y ≤ 1000) := onpick_val HTl.out HOn.out
        have hCL : C.length ≤ 1000 := Nat.le_trans (onpick_len HOn.out) hlen
        have hrd := readI_of hO.ints
        have HRd : Hid _ := hrd
        clear hrd
        generalize hwo : wr = wo at *
        clear hwo
        have hxwo := hxw3.trans hx3o
        have HO1 : Hid _ := HOf.out wo _ C top hxwo hO.ints HCF.out HCR.out hCL
        obtain ⟨ca', ccap', rfl, cc1, cc2, _⟩ := hO.ints
        unfold maxLen at cc2
        have hIC := hO.ints
        by_cases hm : 1 < (C.filter fun y => levelOf tr y == top).length
        · obtain ⟨m', p, hlast, hml', hwp, hpl, hOn2, hlt2⟩ := step_list HTl.out HOn.out hm
          have HLast : Hid (lastI tr C = m') := hlast
          have HLastK : Hid (lastI tr C = m') := hlast
          have HOn2 : Hid _ := hOn2
          have HLt2 : Hid _ := hlt2
          obtain ⟨pb, poff, pv, ep, hpb, hpc, hpi, hpcl⟩ := HRo.out p hpl
          cases ep
          obtain ⟨_, _, ev, _, _, s3⟩ := id hS0
          cases ev
          obtain ⟨sb, soff, rfl, hsb, g0, g1, _⟩ := s3 m' hml'
          have hwp' : (tr.getD m' default).why = p := hwp
          rw [hwp'] at g1
          obtain ⟨sx, hsx⟩ : ∃ x, x = sL tr m' := ⟨_, rfl⟩
          have hsx' : (tr.getD m' default).lit = sx := hsx.symm
          have hsr : -1000 ≤ sx ∧ sx ≤ 1000 := by have := (litValid_iff _ _).1 (HTl.out.val m' hml'); omega
          have hwsx : IntKind.i64.wrap (-sx) = -sx := IntWalk.i64_in _ (by omega)
          rw [hsx'] at g0
          rw [← hsx] at HOn2 HLt2
          have hm2 : ((1 : Nat) : Int) < ((C.filter fun y => levelOf tr y == top).length : Int) := by omega
          clear hlast hOn2 hlt2 s3 hsx hsx' hwp hwp' HOn HOr HLe HFin hS0 HRo
          generalize ll.getD p [] = rc at *
          obtain ⟨ra', rcap', rfl, rq1, rq2, _⟩ := id hpi
          unfold maxLen at rq2
          generalize (C.filter fun y => levelOf tr y == top) = OL at *
          have hdm : decide (1 < OL.length) = true := decide_eq_true hm
          have hdm2 : decide ((1 : Int) < (OL.length : Int)) = true := decide_eq_true (by omega)
          go_wp2_with fail
          refine Calls.mono HO1.out ?_
          rintro e w6 ⟨v6, rfl, ho6, hx6⟩
          obtain ⟨o6, oc6, rfl, _, _, _⟩ := ho6.ints
          clear HO1 ho6
          have hx36 := hx3o.trans hx6
          have hIC6 := hIC.ex hx6
          have hm3 : 1 < OL.length := hm
          go_wp2
          go_loopw [12, 13] (fun lv kv wr => ∃ (k : Nat) (z : Int), k ≤ C.length ∧ kv = .int .i64 k ∧ lv = .int .i64 z ∧ Hid (z = lastI tr (C.take k)) ∧ Ex w6 wr) (fun _ kv _ => C.length - (intOf kv).toNat)
          case atStart => exact ⟨0, -1, Nat.zero_le _, rfl, rfl, rfl, Ex.refl _⟩
          case round =>
            obtain ⟨k, z, hk, rfl, rfl, hz, hx6r⟩ := hrel
            have hxwr := hxw3.trans (hx36.trans hx6r)
            by_cases hlt : k < C.length
            · obtain ⟨_, _, ev, _, _, e3⟩ := hIC6.ex hx6r
              cases ev
              obtain ⟨cb, coff, rfl, hcb, hcell⟩ := e3 k hlt
              have hyr := HCR.out (C.getD k 0) (by rw [getD_getElem hlt]; exact List.getElem_mem hlt)
              have HF1 : Hid _ := HFi.out wr (C.getD k 0) hxwr hyr.1 hyr.2
              have HZ2 : Hid (max z (wrongI tr (C.getD k 0)) = lastI tr (C.take (k + 1))) := by show _ = _; rw [lastI_take hlt, hz.out]
              have hkk : (k : Int) < C.length := by omega
              clear e3 hz HFi HCR HCF HOf HAd HLast hyr
              generalize wrongI tr (C.getD k 0) = wi at *
              generalize C.getD k 0 = y at *
              go_wp2_with fail
              refine Calls.mono HF1.out ?_
              rintro e w7 ⟨rfl, rfl⟩
              go_wp2
              go_roundw
              case rel => exact ⟨k + 1, max z wi, by omega, by go_num, rfl, HZ2, hx6r⟩
              case measure => simp [intOf]; omega
            · obtain rfl : k = C.length := by omega
              obtain rfl : z = m' := by rw [hz.out, List.take_length, HLast.out]
              clear hz HFi HLast HCF HOf
              have hx37 := hx36.trans hx6r
              have hIC7 := hIC6.ex hx6r
              generalize hw7 : wr = w7 at *
              clear hw7
              go_wp2
              go_loopw [14, 15] (fun nv kv wr => ∃ (k : Nat) (N : List Int), k ≤ C.length ∧ kv = .int .i64 k ∧ OwnI wr w7.heap.size nv N ∧ Hid (N = (C.take k).filter fun y => y != -sx) ∧ Ex w7 wr) (fun _ kv _ => C.length - (intOf kv).toNat)
              case atStart => exact ⟨0, [], Nat.zero_le _, rfl, OwnI.nil _ _, rfl, Ex.refl _⟩
              case round =>
                obtain ⟨k, N, hk, rfl, hN, HN, hx7r⟩ := hrel
                have hxwr2 := hxw3.trans (hx37.trans hx7r)
                have hs7 := hx7r.size
                have hNl : N.length ≤ 1000 := by rw [HN.out]; have := filter_len_le C k (-sx); omega
                obtain ⟨na, ncap, rfl, n1, n2, _⟩ := hN.ints
                unfold maxLen at n2
                by_cases hlt : k < C.length
                · obtain ⟨_, _, ev, _, _, e3⟩ := hIC7.ex hx7r
                  cases ev
                  obtain ⟨cb, coff, rfl, hcb, hcell⟩ := e3 k hlt
                  have hft := filter_take hlt (-sx)
                  rw [← HN.out] at hft
                  have HFt : Hid _ := hft
                  have g0r := ex_cell g0 hxwr2
                  have hcx := ext_cell hcell
                  have g0x := ext_cell g0r
                  have hkk : (k : Int) < C.length := by omega
                  have hmm : ((m' : Nat) : Int) < tr.length := by omega
                  clear e3 hft HN HCR HAd
                  generalize C.getD k 0 = y at *
                  by_cases he : y = -sx
                  · have heb : (y != -sx) = false := by simp [he]
                    have HF2 : Hid ((C.take (k + 1)).filter (fun y => y != -sx) = N) := by show _ = _; rw [HFt.out, if_pos he, List.append_nil]
                    clear HFt he
                    go_wp2
                    refine wp_region_quiet_ext (by kernel_rfl) (by kernel_rfl) ?_
                    repeat (go_big_quiet_step ((fail)))
                    refine wpQuiet_nil ?_
                    intro w8 hx8
                    go_wp2
                    go_roundw
                    case rel => exact ⟨k + 1, N, by omega, by go_num, hN.ex hx8, HF2.out.symm, hx7r.trans hx8⟩
                    case measure => simp [intOf]; omega
                  · have heb : (y != -sx) = true := bne_iff_ne.2 he
                    have HF2 : Hid ((C.take (k + 1)).filter (fun y => y != -sx) = N ++ [y]) := by show _ = _; rw [HFt.out, if_neg he]
                    clear HFt he
                    go_wp2
                    refine wp_region_quiet_ext (by kernel_rfl) (by kernel_rfl) ?_
                    repeat (go_big_quiet_step ((fail)))
                    refine wpQuiet_nil ?_
                    intro w8 hx8
                    have hcell8 := ex_cell hcell hx8
                    have hcb8 := Nat.lt_of_lt_of_le hcb hx8.size
                    have hs8 := (hx7r.trans hx8).size
                    have hI := intsAt_fresh w8 y 3
                    go_wp2_with (at_builtin; refine wpList_append_ints rfl (.tmp 116) (.tmp 121) rfl rfl rfl ((hN.ex hx8).ex (Ex.alloc _ _)) hI ?c1 ?c2 ?_)
                    case c1 => first | (simp only [List.length_cons, List.length_nil]; omega) | omega
                    case c2 => first | (rw [alloc_size]; omega) | omega
                    intro v9 w9 hown9 hg9
                    have hx79 : Ex w7 w9 := grown_ex ((hx7r.trans hx8).alloc' _) hg9 (ownsRow_block hN)
                    clear hg9 hI hN
                    go_wp2
                    go_roundw
                    case rel => exact ⟨k + 1, N ++ [y], by omega, by go_num, hown9, HF2.out.symm, hx79⟩
                    case measure => simp [intOf]; omega
                · obtain rfl : k = C.length := by omega
                  have HN2 : Hid (N = C.filter fun y => y != -sx) := by show _ = _; rw [HN.out, List.take_length]
                  clear HN HCR
                  have d1 := ext_cell (ex_cell (oT.cell 1) (hx37.trans hx7r))
                  have d2 := ext_cell (ex_cell g1 hxwr2)
                  have d3 := ext_cell (ex_cell hpc hxwr2)
                  have hmm : ((m' : Nat) : Int) < tr.length := by omega
                  have hpp : ((p : Nat) : Int) < ll.length := by omega
                  go_wp2
                  refine wp_region_quiet_ext (by kernel_rfl) (by kernel_rfl) ?_
                  repeat (go_big_quiet_step ((fail)))
                  refine wpQuiet_nil ?_
                  intro w8 hx8
                  have hx78 := hx7r.trans hx8
                  have hN8 := hN.ex hx8
                  clear d1 d2 d3 hN hx8 hx7r hxwr2
                  go_wp2
                  go_loopw [14, 17] (fun nv jv wr => ∃ (j : Nat) (M : List Int), j ≤ rc.length ∧ jv = .int .i64 j ∧ OwnI wr w7.heap.size nv M ∧ Hid (M = addsL N ((rc.take j).filter fun y => y != sx)) ∧ Ex w7 wr) (fun _ jv _ => rc.length - (intOf jv).toNat)
                  case atStart => exact ⟨0, N, Nat.zero_le _, rfl, hN8, rfl, hx78⟩
                  case round =>
                    clear hN8 hx78
                    obtain ⟨j, M, hj, rfl, hM, HM, hx7s⟩ := hrel
                    have hxws := hxw3.trans (hx37.trans hx7s)
                    have hs7 := hx7s.size
                    have hMl : M.length ≤ 2000 := by rw [HM.out]; have := addsL_len ((rc.take j).filter fun y => y != sx) N; have := filter_len_le rc j sx; omega
                    obtain ⟨ma', mcap', rfl, n1', n2', _⟩ := hM.ints
                    unfold maxLen at n2'
                    by_cases hjl : j < rc.length
                    · obtain ⟨_, _, ev, _, _, e3⟩ := hpi.ex hxws
                      cases ev
                      obtain ⟨cb, coff, rfl, hcb, hcell⟩ := e3 j hjl
                      have hft := addsL_take (b := N) hjl sx
                      rw [← HM.out] at hft
                      have HFt : Hid _ := hft
                      have hcx := ext_cell hcell
                      have g0x := ext_cell (ex_cell g0 hxws)
                      have hjj : (j : Int) < rc.length := by omega
                      have HA1 : Hid (∀ wa, Ex wr wa → Calls Try.prog 39 #[.slice ma' M.length mcap', .int .i64 (rc.getD j 0)] wa (AddRet wa w7.heap.size (.slice ma' M.length mcap') M (rc.getD j 0))) := fun wa hx => HAd.out wa w7.heap.size _ M _ (hM.ex hx) (Nat.le_trans hs7 hx.size) (by omega)
                      clear e3 hft HM HAd
                      generalize rc.getD j 0 = y at *
                      by_cases he : y = sx
                      · have heb : (y != sx) = false := by simp [he]
                        have HF2 : Hid (addsL N ((rc.take (j + 1)).filter fun y => y != sx) = M) := by show _ = _; rw [HFt.out, if_pos he]
                        clear HFt he
                        go_wp2
                        refine wp_region_quiet_ext (by kernel_rfl) (by kernel_rfl) ?_
                        repeat (go_big_quiet_step ((fail)))
                        refine wpQuiet_nil ?_
                        intro w8 hx8
                        go_wp2
                        go_roundw
                        case rel => exact ⟨j + 1, M, by omega, by go_num, hM.ex hx8, HF2.out.symm, hx7s.trans hx8⟩
                        case measure => simp [intOf]; omega
                      · have heb : (y != sx) = true := bne_iff_ne.2 he
                        have HF2 : Hid (addsL N ((rc.take (j + 1)).filter fun y => y != sx) = addL M y) := by show _ = _; rw [HFt.out, if_neg he]
                        clear HFt he
                        go_wp2
                        refine wp_region_quiet_ext (by kernel_rfl) (by kernel_rfl) ?_
                        repeat (go_big_quiet_step ((fail)))
                        refine wpQuiet_nil ?_
                        intro w8 hx8
                        have hcell8 := ex_cell hcell hx8
                        have hcb8 := Nat.lt_of_lt_of_le hcb hx8.size
                        go_wp2_with fail
                        refine (HA1.out _ hx8).mono ?_
                        rintro e w9 ⟨v9, rfl, ho9, hg9⟩
                        have hx79 : Ex w7 w9 := grown_ex (hx7s.trans hx8) hg9 (ownsRow_block hM)
                        go_wp2
                        go_roundw
                        case rel => exact ⟨j + 1, addL M y, by omega, by go_num, ho9, HF2.out.symm, hx79⟩
                        case measure => simp [intOf]; omega
                    · obtain rfl : j = rc.length := by omega
                      have hM2 : M = addsL (C.filter fun y => y != -sx) (rc.filter fun y => y != sx) := by rw [HM.out, HN2.out, List.take_length]
                      have HOn3 : Hid (OnPick n ll tr top F m' M) := by show OnPick _ _ _ _ _ _ _; rw [hM2]; exact HOn2.out
                      have HLt3 : Hid (lastI tr M < m') := by show _ < _; rw [hM2]; exact HLt2.out
                      have hM3 := hM.base hx37.size
                      have hrdM := readI_of hM.ints
                      have HRdM : Hid _ := hrdM
                      have hge : -1 ≤ lastI tr M := (foldl_max _ _ _).1
                      have hx3s := hx37.trans hx7s
                      clear HM HN2 hM2 HOn2 HLt2 hrdM HAd hM
                      go_wp2
                      go_roundw
                      case rel => exact ⟨m', M, hM3, HOn3, hx3s⟩
                      case measure =>
                        rw [HRdM.out, HRd.out, HLastK.out]
                        have := HLt3.out
                        omega
        · have hrep := onpick_end HTl.out HOn.out (by omega)
          obtain ⟨f1, f2⟩ := HFin.out C hrep
          have HF1 : Hid (ordF C n = RL) := f1
          have HF2 : Hid (backL tr C top = RK) := f2
          clear f1 f2 hrep HOn HFin HRd HFi HAd HTl HRo
          generalize hOL : (C.filter fun y => levelOf tr y == top) = OL at *
          clear hOL
          have hdm : decide (1 < OL.length) = false := decide_eq_false hm
          have hdm2 : decide ((1 : Int) < (OL.length : Int)) = false := decide_eq_false (by omega)
          go_wp2_with fail
          refine Calls.mono HO1.out ?_
          rintro e w6 ⟨v6, rfl, ho6, hx6⟩
          obtain ⟨o6, oc6, rfl, _, _, _⟩ := ho6.ints
          clear HO1 ho6 HOf
          have hx36 := hx3o.trans hx6
          have hIC6 := hIC.ex hx6
          go_wp2
          go_loopw [18, 19] (fun bv kv wr => ∃ (k : Nat) (z : Int), k ≤ C.length ∧ kv = .int .i64 k ∧ bv = .int .i64 z ∧ Hid (z = backL tr (C.take k) top) ∧ Ex w6 wr) (fun _ kv _ => C.length - (intOf kv).toNat)
          case atStart => exact ⟨0, 0, Nat.zero_le _, rfl, rfl, rfl, Ex.refl _⟩
          case round =>
            obtain ⟨k, z, hk, rfl, rfl, hz, hx6r⟩ := hrel
            have hx3r := hx36.trans hx6r
            have hxwr := hxw3.trans hx3r
            by_cases hlt : k < C.length
            · obtain ⟨_, _, ev, _, _, e3⟩ := hIC6.ex hx6r
              cases ev
              obtain ⟨cb, coff, rfl, hcb, hcell⟩ := e3 k hlt
              have hym : C.getD k 0 ∈ C := by rw [getD_getElem hlt]; exact List.getElem_mem hlt
              have hyr := HCR.out _ hym
              have HL1 : Hid _ := HLe.out wr (C.getD k 0) hxwr (HCF.out _ hym) hyr.1 hyr.2
              have hbt := backL_take (tr := tr) hlt top
              rw [← hz.out] at hbt
              have HBt : Hid _ := hbt
              have hkk : (k : Int) < C.length := by omega
              clear e3 hz HCR HCF hym hyr HLe hbt HF1 HF2 HOr
              generalize levelOf tr (C.getD k 0) = lv at *
              generalize C.getD k 0 = y at *
              by_cases hlt2 : lv < top
              · have HZ2 : Hid (max z lv = backL tr (C.take (k + 1)) top) := by show _ = _; rw [HBt.out, if_pos hlt2]
                clear HBt
                go_wp2_with fail
                refine Calls.mono HL1.out ?_
                rintro e w7 ⟨rfl, rfl⟩
                go_wp2_with fail
                refine Calls.mono HL1.out ?_
                rintro e w7 ⟨rfl, rfl⟩
                go_wp2
                go_roundw
                case rel => exact ⟨k + 1, max z lv, by omega, by go_num, rfl, HZ2, hx6r⟩
                case measure => simp [intOf]; omega
              · have HZ2 : Hid (z = backL tr (C.take (k + 1)) top) := by show _ = _; rw [HBt.out, if_neg hlt2]
                clear HBt
                go_wp2_with fail
                refine Calls.mono HL1.out ?_
                rintro e w7 ⟨rfl, rfl⟩
                go_wp2
                go_roundw
                case rel => exact ⟨k + 1, z, by omega, by go_num, rfl, HZ2, hx6r⟩
                case measure => simp [intOf]; omega
            · obtain rfl : k = C.length := by omega
              have hz2 : Hid (z = RK) := by show _ = _; rw [hz.out, List.take_length, HF2.out]
              have HO2 := HOr.out wr _ C (hIC6.ex hx6r)
              rw [HF1.out] at HO2
              have HO3 : Hid _ := HO2
              have d0 := ex_cell (oT.cell 0) hx3r
              have d1 := Nat.lt_of_lt_of_le oT.lt hx3r.size
              clear hz HF1 HF2 HO2 HOr HLe HCR HCF
              go_wp2_with fail
              refine Calls.mono HO3.out ?_
              rintro e w8 ⟨v8, rfl, ho8, hx8⟩
              go_wp2
              refine bodyPost_ret (v := .tuple #[v8, .int .i64 z, .int .i64 0]) (by simp [results, Try.results16, go_sem]) rfl ?_
              exact ⟨_, by rw [hz2.out], ho8.base hxwr.size, hxwr.trans hx8⟩
end Go.Proofs.Yteagoaiiacideaa
