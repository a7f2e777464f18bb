/- The reference of learning: Trail: whether steps are a trail. No condition but that the theory is valid. -/
import Derived.Test.YteagoaiiacideaaLrnB
import Derived.Test.YteagoaiiacideaaLearn3
namespace Go.Proofs.Yteagoaiiacideaa
set_option linter.unusedSimpArgs false
set_option linter.unusedVariables false
open Go.RowKit
set_option maxRecDepth 20000
set_option maxRecDepth 100000 in
set_option maxHeartbeats 4000000 in
theorem r13Trail_any (n : Int) (lv sv : Value) (ll : List (List Int)) (tr : List St) (w : World) (hR : RowsAt w lv ll) (hS : StepsAt w sv tr) (ht : theoryErr n ll = 0) (hlen : tr.length ≤ 1000) :
    Calls Try.prog 37 #[.agg #[.int .i64 n, lv], sv] w fun e w' => e = .returned (.bool (trailB n ll tr)) ∧ Ex w w' := by
  have hn := theoryErr_zero ht
  have HAf : Hid (∀ wa i q cv b, Ex w wa → i ≤ tr.length → q < ll.length → IntsAt wa cv (ll.getD q []) → Calls Try.prog 38 #[sv, .int .i64 (i : Nat), cv, .int .i64 b] wa fun e w' => e = .returned (.bool (allFB (tr.take i) (ll.getD q []) b)) ∧ wa = w') := fun wa i q cv b hx hi hq hc =>
    r13allFalse_any sv cv tr _ i b wa (hS.ex hx) hc hi (fun y hy => by
      have := (litValid_iff _ _).1 ((hn.2.2.2 _ (by rw [getD_getElem hq]; exact List.getElem_mem hq)).2 y hy); omega) hlen
  have HOc : Hid (∀ wa i y, Ex w wa → i ≤ tr.length → litValid y n = true → Calls Try.prog 66 #[sv, .int .i64 (i : Nat), .int .i64 y] wa fun e w' => e = .returned (.bool (!openT (tr.take i) y)) ∧ wa = w') := fun wa i y hx hi hy =>
    r13occurs_any sv tr i y wa (hS.ex hx) hi (by have := (litValid_iff _ _).1 hy; omega) (by have := (litValid_iff _ _).1 hy; omega) hlen
  have HRo : Hid (∀ q, q < ll.length → ∀ wa, Ex w wa → ∃ ra cap b off rv, lv = .slice ra ll.length cap ∧ ra = some ⟨b, off, none⟩ ∧ b < w.heap.size ∧ wa.cell? ⟨b, off + q, none⟩ = some rv ∧ IntsAt wa rv (ll.getD q [])) := fun q hq wa hx => by
    obtain ⟨ra, cap, e, _, _, r3⟩ := hR
    obtain ⟨b, off, rv, e2, hb, hc, hi⟩ := r3 q hq
    exact ⟨ra, cap, b, off, rv, e, e2, hb, ex_cell hc hx, hi.ex hx⟩
  have hS0 := hS
  obtain ⟨ra, rcap, rfl, r1, r2, r3⟩ := hR
  obtain ⟨sa, scap, rfl, s1, s2, s3⟩ := hS
  unfold maxLen at r2 s2
  clear r3 s3
  have oT := OwnB.new w [.int .i64 n, .slice ra ll.length rcap] 24
  have hxa := Ex.alloc w (.cells #[.int .i64 n, .slice ra ll.length rcap] 24)
  have HTN : Hid (∀ i, i < tr.length → stepAt n ll tr i = false → trailB n ll tr = false) := fun i hi h => trailB_no hi h
  have HTY : Hid ((∀ i, i < tr.length → stepAt n ll tr i = true) → trailB n ll tr = true) := fun h => trailB_iff.2 h
  have n0 := hn.1
  have n1 := hn.2.1
  clear ht hn
  generalize trailB n ll tr = TB at *
  go_enter Try.func37, Try.ntmps37
  go_wp2
  generalize w.alloc (.cells #[.int .i64 n, .slice ra ll.length rcap] 24) = wa at *
  go_loopw [5, 6] (fun lw kv wr => ∃ i : Nat, i ≤ tr.length ∧ kv = .int .i64 i ∧ lw = .int .i64 (levAt tr i) ∧ Ex wa wr ∧ Hid (∀ j, j < i → stepAt n ll tr j = true)) (fun _ kv _ => tr.length - (intOf kv).toNat)
  case atStart => exact ⟨0, Nat.zero_le _, rfl, rfl, Ex.refl _, fun j hj => by omega⟩
  case round =>
    obtain ⟨i, hi, rfl, rfl, hxr, HD⟩ := hrel
    by_cases hlt : i < tr.length
    · have hxw := hxa.trans hxr
      have oTr := oT.ex hxr
      obtain ⟨_, _, hv, _, _, s3⟩ := hS0.ex hxw
      cases hv
      obtain ⟨b, off, rfl, hb, g0, g1, g2⟩ := s3 i hlt
      clear s3
      obtain ⟨sx, hsx⟩ : ∃ z, z = (tr.getD i default).lit := ⟨_, rfl⟩
      obtain ⟨sw, hsw⟩ : ∃ z, z = (tr.getD i default).why := ⟨_, rfl⟩
      obtain ⟨sl, hsl⟩ : ∃ z, z = (tr.getD i default).lev := ⟨_, rfl⟩
      have hst : stepAt n ll tr i = (litValid sx n && openT (tr.take i) sx && (if sw = -1 then decide (levAt tr i < sl) else decide (sl = levAt tr i) && (decide (0 ≤ sw) && (decide (sw < ll.length) && reasonB (tr.take i) (ll.getD sw.toNat []) sx)))) := by rw [hsx, hsw, hsl]; rfl
      rw [← hsx] at g0
      rw [← hsw] at g1
      rw [← hsl] at g2
      have HSL : Hid (sl = sV tr i) := hsl
      have HNO : Hid (stepAt n ll tr i = false → TB = false) := HTN.out i hlt
      have HYE : Hid (stepAt n ll tr i = true → ∀ j, j < i + 1 → stepAt n ll tr j = true) := fun h j hj => by
        by_cases e : j = i
        · subst e; exact h
        · exact HD.out j (by omega)
      have oB := OwnB.new wr [.int .i64 sx, .int .i64 sw, .int .i64 sl] 79
      have hxB := Ex.alloc wr (.cells #[.int .i64 sx, .int .i64 sw, .int .i64 sl] 79)
      have hxw5 : Ex w _ := hxw.trans hxB
      have hx5 : Ex wa _ := hxr.trans hxB
      have oT5 := oTr.ex hxB
      have HVa : Hid (∀ wb, Calls Try.prog 47 #[.int .i64 sx, .int .i64 n] wb fun e w' => e = .returned (.bool (litValid sx n)) ∧ wb = w') := fun wb => r05Valid_any sx n n0 n1 wb
      have HOc1 : Hid (litValid sx n = true → ∀ wb, Ex w wb → Calls Try.prog 66 #[.slice (some ⟨b, off, none⟩) tr.length scap, .int .i64 i, .int .i64 sx] wb fun e w' => e = .returned (.bool (!openT (tr.take i) sx)) ∧ wb = w') := fun h wb hx => HOc.out wb i sx hx hi h
      have HAf1 : Hid (∀ wb q cv, Ex w wb → q < ll.length → IntsAt wb cv (ll.getD q []) → Calls Try.prog 38 #[.slice (some ⟨b, off, none⟩) tr.length scap, .int .i64 i, cv, .int .i64 sx] wb fun e w' => e = .returned (.bool (allFB (tr.take i) (ll.getD q []) sx)) ∧ wb = w') := fun wb q cv hx hq hc => HAf.out wb i q cv sx hx hi hq hc
      clear HTN HTY hsx hsw hsl HD HAf HOc hS0 oT oTr
      generalize hpre : tr.take i = pre at *
      clear hpre
      generalize levAt tr i = L at *
      generalize stepAt n ll tr i = SA at *
      have HST : Hid _ := hst
      clear hst
      have t0 := oT5.cell 0
      have t1 := oT5.cell 1
      have b0 := oB.cell 0
      have b1 := oB.cell 1
      have b2 := oB.cell 2
      have z0 := oT5.lt
      have z1 := oB.lt
      cases hva : litValid sx n with
      | false =>
        have hTB : TB = false := HNO.out (by rw [HST.out, hva]; rfl)
        subst hTB
        rw [hva] at HVa
        clear HNO HYE HST HSL hva HOc1 HAf1 HRo
        go_wp2_with fail
        refine (HVa.out _).mono ?_
        rintro e w2 ⟨rfl, rfl⟩
        go_wp2
        go_ret
        exact ⟨rfl, hxw5⟩
      | true =>
      have HOc2 : Hid _ := HOc1.out hva
      have HS1 : Hid (SA = (openT pre sx && (if sw = -1 then decide (L < sl) else decide (sl = L) && (decide (0 ≤ sw) && (decide (sw < ll.length) && reasonB pre (ll.getD sw.toNat []) sx))))) := by show _ = _; rw [HST.out, hva]; rfl
      rw [hva] at HVa
      clear HST HOc1 hva
      cases hop : openT pre sx with
      | false =>
        have hTB : TB = false := HNO.out (by rw [HS1.out, hop]; rfl)
        subst hTB
        rw [hop] at HOc2
        clear HNO HYE HS1 HSL hop HAf1 HRo
        go_wp2_with fail
        refine (HVa.out _).mono ?_
        rintro e w2 ⟨rfl, rfl⟩
        go_wp2_with fail
        refine (HOc2.out _ hxw5).mono ?_
        rintro e w2 ⟨rfl, rfl⟩
        go_wp2
        go_ret
        exact ⟨rfl, hxw5⟩
      | true =>
      have HS2 : Hid (SA = if sw = -1 then decide (L < sl) else decide (sl = L) && (decide (0 ≤ sw) && (decide (sw < ll.length) && reasonB pre (ll.getD sw.toNat []) sx))) := by show _ = _; rw [HS1.out, hop]; rfl
      rw [hop] at HOc2
      clear HS1 hop
      go_wp2_with fail
      refine (HVa.out _).mono ?_
      rintro e w2 ⟨rfl, rfl⟩
      go_wp2_with fail
      refine (HOc2.out _ hxw5).mono ?_
      rintro e w2 ⟨rfl, rfl⟩
      clear HVa HOc2
      generalize wr.alloc (.cells #[.int .i64 sx, .int .i64 sw, .int .i64 sl] 79) = w5 at *
      generalize wr.heap.size = B at *
      by_cases hw : sw = -1
      · have HS3 : Hid (SA = decide (L < sl)) := by show _ = _; rw [HS2.out, if_pos hw]
        have hwb : (sw == -1) = true := by simp [hw]
        have hwc : (sw != -1) = false := by simp [hw]
        clear HS2 HAf1 HRo
        by_cases hL : L < sl
        · have HD' : Hid _ := HYE.out (by rw [HS3.out]; exact decide_eq_true hL)
          clear HS3
          clear HNO HYE
          go_wp2
          go_roundw
          case rel => exact ⟨i + 1, by omega, by go_num, by rw [levAt_succ]; exact val_int HSL.out, hx5, HD'⟩
          case measure => simp [intOf]; omega
        · have hTB : TB = false := HNO.out (by rw [HS3.out]; exact decide_eq_false hL)
          subst hTB
          clear HNO HYE HS3 HSL
          go_wp2
          go_ret
          exact ⟨rfl, hxw5⟩
      · have HS3 : Hid (SA = (decide (sl = L) && (decide (0 ≤ sw) && (decide (sw < ll.length) && reasonB pre (ll.getD sw.toNat []) sx)))) := by show _ = _; rw [HS2.out, if_neg hw]
        have hwb : (sw == -1) = false := by simp [hw]
        have hwc : (sw != -1) = true := by simp [hw]
        clear HS2
        by_cases hL : sl = L
        rotate_left
        · have hTB : TB = false := HNO.out (by rw [HS3.out, decide_eq_false hL]; rfl)
          subst hTB
          have hlb : (sl != L) = true := by simp [hL]
          clear HNO HYE HS3 HSL HAf1 HRo
          go_wp2
          go_ret
          exact ⟨rfl, hxw5⟩
        have hlb : (sl != L) = false := by simp [hL]
        have HS4 : Hid (SA = (decide (0 ≤ sw) && (decide (sw < ll.length) && reasonB pre (ll.getD sw.toNat []) sx))) := by show _ = _; rw [HS3.out, decide_eq_true hL]; rfl
        clear HS3 hL
        have t0x := ext_cell t0
        have t1x := ext_cell t1
        have b0x := ext_cell b0
        have b1x := ext_cell b1
        have b2x := ext_cell b2
        by_cases hw0 : 0 ≤ sw
        rotate_left
        · have hTB : TB = false := HNO.out (by rw [HS4.out, decide_eq_false hw0]; rfl)
          subst hTB
          clear HNO HYE HS4 HSL HAf1 HRo
          have hd0 : decide (sw < 0) = true := decide_eq_true (by omega)
          go_wp2
          refine wp_region_quiet_ext (by kernel_rfl) (by kernel_rfl) ?_
          repeat (go_big_quiet_step ((fail)))
          refine wpQuiet_nil ?_
          intro w6 hx6
          go_wp2
          go_ret
          exact ⟨rfl, hxw5.trans hx6⟩
        by_cases hw1 : sw < ll.length
        rotate_left
        · have hTB : TB = false := HNO.out (by rw [HS4.out, decide_eq_false hw1, Bool.false_and, Bool.and_false])
          subst hTB
          clear HNO HYE HS4 HSL HAf1 HRo
          have hd0 : decide (sw < 0) = false := decide_eq_false (by omega)
          have hd1 : decide ((ll.length : Int) ≤ sw) = true := decide_eq_true (by omega)
          go_wp2
          refine wp_region_quiet_ext (by kernel_rfl) (by kernel_rfl) ?_
          repeat (go_big_quiet_step ((fail)))
          refine wpQuiet_nil ?_
          intro w6 hx6
          go_wp2
          go_ret
          exact ⟨rfl, hxw5.trans hx6⟩
        obtain ⟨q, rfl⟩ : ∃ q : Nat, sw = q := ⟨sw.toNat, by omega⟩
        have hq : q < ll.length := by omega
        obtain ⟨ra', cap', rb, roff, rv, e1, rfl, hrb, hrc, hri⟩ := HRo.out q hq w5 hxw5
        cases e1
        have HS5 : Hid (SA = ((ll.getD q []).contains sx && allFB pre (ll.getD q []) sx)) := by show _ = _; rw [HS4.out, decide_eq_true hw0, decide_eq_true hw1, Int.toNat_natCast]; rfl
        have HCo : Hid (∀ x, Calls Try.prog 48 #[rv, .int .i64 sx] (World.ext w5 x) fun e w' => e = .returned (.bool ((ll.getD q []).contains sx)) ∧ World.ext w5 x = w') := fun x => r05Contains_any rv _ sx _ (hri.ex (ex_ext _ _))
        have HAf2 : Hid (∀ x, Calls Try.prog 38 #[.slice (some ⟨b, off, none⟩) tr.length scap, .int .i64 i, rv, .int .i64 sx] (World.ext w5 x) fun e w' => e = .returned (.bool (allFB pre (ll.getD q []) sx)) ∧ World.ext w5 x = w') := fun x => HAf1.out _ q rv (hxw5.trans (ex_ext _ _)) hq (hri.ex (ex_ext _ _))
        obtain ⟨ca, ccap, rfl, _, _, _⟩ := id hri
        have hrx := ext_cell hrc
        have hd0 : decide ((q : Int) < 0) = false := decide_eq_false (by omega)
        have hd1 : decide ((ll.length : Int) ≤ (q : Int)) = false := decide_eq_false (by omega)
        have hd2 : decide (ll.length ≤ q) = false := decide_eq_false (by omega)
        have zr : rb < w5.heap.size := Nat.lt_of_lt_of_le hrb hxw5.size
        clear HS4 HAf1 HRo
        generalize ll.getD q [] = c at *
        generalize c.contains sx = CB at *
        generalize allFB pre c sx = AB at *
        cases CB with
        | false =>
          have hTB : TB = false := HNO.out (by rw [HS5.out]; rfl)
          subst hTB
          clear HNO HYE HS5 HSL HAf2
          go_wp2
          refine wp_region_quiet_ext (by kernel_rfl) (by kernel_rfl) ?_
          repeat (go_big_quiet_step ((first | (go_at_call 48; exact Calls.quiet_ext_same (HCo.out _)) | fail)))
          refine wpQuiet_nil ?_
          intro w6 hx6
          go_wp2
          go_ret
          exact ⟨rfl, hxw5.trans hx6⟩
        | true =>
          cases AB with
          | false =>
            have hTB : TB = false := HNO.out (by rw [HS5.out]; rfl)
            subst hTB
            clear HNO HYE HS5 HSL
            go_wp2
            refine wp_region_quiet_ext (by kernel_rfl) (by kernel_rfl) ?_
            repeat (go_big_quiet_step ((first | (go_at_call 48; exact Calls.quiet_ext_same (HCo.out _)) | (go_at_call 38; exact Calls.quiet_ext_same (HAf2.out _)) | fail)))
            refine wpQuiet_nil ?_
            intro w6 hx6
            go_wp2
            go_ret
            exact ⟨rfl, hxw5.trans hx6⟩
          | true =>
            have HD' : Hid _ := HYE.out (by rw [HS5.out]; rfl)
            clear HS5 HNO HYE
            go_wp2
            refine wp_region_quiet_ext (by kernel_rfl) (by kernel_rfl) ?_
            repeat (go_big_quiet_step ((first | (go_at_call 48; exact Calls.quiet_ext_same (HCo.out _)) | (go_at_call 38; exact Calls.quiet_ext_same (HAf2.out _)) | fail)))
            refine wpQuiet_nil ?_
            intro w6 hx6
            go_wp2
            go_roundw
            case rel => exact ⟨i + 1, by omega, by go_num, by rw [levAt_succ]; exact val_int HSL.out, hx5.trans hx6, HD'⟩
            case measure => simp [intOf]; omega
    · obtain rfl : i = tr.length := by omega
      have hTB : TB = true := HTY.out fun j hj => HD.out j hj
      subst hTB
      clear HTN HTY HD HAf HOc
      go_wp2
      go_ret
      exact ⟨rfl, hxa.trans hxr⟩
end Go.Proofs.Yteagoaiiacideaa
