/- The program's examine: whether steps are a trail. No condition. -/
import Derived.Test.YteagoaiiacideaaLearn2
namespace Go.Proofs.Yteagoaiiacideaa
set_option linter.unusedSimpArgs false
set_option linter.unusedVariables false
open Go.RowKit
set_option maxRecDepth 20000
theorem atI_open {pre : List St} {x : Int} (hx : litVar x ≠ 0) : atI pre (litVar x) < 0 ↔ openT pre x = true := by
  rw [atI_neg, openT_iff, ← Bool.not_eq_true, ← Bool.not_eq_true, trueT_iff, trueT_iff]
  constructor
  · intro h
    exact ⟨fun ⟨s, hs, e⟩ => h s hs (by rw [e]), fun ⟨s, hs, e⟩ => h s hs (by rw [e, litVar_neg])⟩
  · rintro ⟨h1, h2⟩ s hs e
    rcases litVar_two (by rw [e]; exact hx) e with g | g
    · exact h1 ⟨s, hs, g⟩
    · exact h2 ⟨s, hs, g⟩
theorem once_of {n : Int} {ll : List (List Int)} {tr : List St} {i : Nat} (hi : i ≤ tr.length) (h : ∀ j, j < i → stepAt n ll tr j = true) : Once (tr.take i) := fun a b hab hb => by
  rw [List.length_take] at hb
  have e : ∀ k, k < i → sL (tr.take i) k = sL tr k := fun k h1 => by
    unfold sL
    rw [getD_getElem (by rw [List.length_take]; omega), getD_getElem (by omega), List.getElem_take]
  rw [e a (by omega), e b (by omega)]
  have hs := h b (by omega)
  unfold stepAt stepOk at hs
  rw [Bool.and_eq_true, Bool.and_eq_true] at hs
  have ho := openT_iff.1 hs.1.2
  have hv := litVar_ne hs.1.1
  intro g
  rcases litVar_two hv g with g | g
  · have := (trueT_take (by omega : b ≤ tr.length) (x := (tr.getD b default).lit)).2 ⟨a, hab, g.symm⟩
    rw [ho.1] at this; cases this
  · have := (trueT_take (by omega : b ≤ tr.length) (x := -(tr.getD b default).lit)).2 ⟨a, hab, by unfold sL at *; omega⟩
    rw [ho.2] at this; cases this
theorem trailB_no {n : Int} {ll : List (List Int)} {tr : List St} {i : Nat} (hi : i < tr.length) (h : stepAt n ll tr i = false) : trailB n ll tr = false := by
  rw [← Bool.not_eq_true, trailB_iff]
  intro g
  rw [g i hi] at h; cases h
def fillV (n : Int) (lv sv : Value) (k : Nat) : List Value := .int .i64 n :: lv :: sv :: (List.range 129).map fun v => .int .i64 (if v < k then -1 else 0)
theorem fillV_set (n : Int) (lv sv : Value) {k : Nat} (hk : k < 129) : (fillV n lv sv k).set (3 + k) (.int .i64 (-1)) = fillV n lv sv (k + 1) := by
  rw [show 3 + k = k + 1 + 1 + 1 by omega]
  simp only [fillV, List.set_cons_succ]
  congr 3
  apply List.ext_getElem?
  intro j
  by_cases hj : j = k
  · subst hj
    rw [List.getElem?_set_self (by simpa using hk), List.getElem?_map, List.getElem?_range hk]
    simp
  · rw [List.getElem?_set_ne (fun e => hj e.symm)]
    by_cases hl : j < 129
    · rw [List.getElem?_map, List.getElem?_map, List.getElem?_range hl]
      simp only [Option.map_some, Option.some.injEq, Value.int.injEq, true_and]
      by_cases h1 : j < k
      · rw [if_pos h1, if_pos (by omega)]
      · rw [if_neg h1, if_neg (by omega)]
    · rw [List.getElem?_eq_none (by simp; omega), List.getElem?_eq_none (by simp; omega)]
theorem fillV_get (n : Int) (lv sv : Value) {k : Nat} (hk : k < 129) : (fillV n lv sv k)[3 + k]? = some (.int .i64 0) := by
  rw [show 3 + k = k + 1 + 1 + 1 by omega]
  simp only [fillV, List.getElem?_cons_succ]
  rw [List.getElem?_map, List.getElem?_range hk]
  simp
theorem fillV_end (n : Int) (lv sv : Value) : fillV n lv sv 129 = trlV n lv sv [] := by
  unfold fillV trlV atV
  congr 3
theorem Try.zeroTrail : Try.zeroCells101 = (fillV 0 (.slice none 0 0) (.slice none 0 0) 0).toArray := by kernel_rfl
/-- What examine hands back. -/
def ExamRet (w : World) (n : Int) (lv sv : Value) (tr : List St) (ok : Bool) (e : Ending) (w' : World) : Prop :=
  if ok = true then ∃ X, e = .returned (.tuple #[.pointer (some ⟨X, 0, none⟩), .bool true]) ∧ TrlAt w' X n lv sv tr tr.length ∧ w.heap.size ≤ X ∧ Ex w w' else e = .returned (.tuple #[.pointer none, .bool false]) ∧ Ex w w'
theorem exam_no {w w' : World} {n : Int} {lv sv : Value} {tr : List St} (hx : Ex w w') : ExamRet w n lv sv tr false (.returned (.tuple #[.pointer none, .bool false])) w' := by unfold ExamRet; rw [if_neg (by simp)]; exact ⟨rfl, hx⟩
theorem exam_yes {w w' : World} {n : Int} {lv sv : Value} {tr : List St} {X : Nat} (h : TrlAt w' X n lv sv tr tr.length) (hb : w.heap.size ≤ X) (hx : Ex w w') : ExamRet w n lv sv tr true (.returned (.tuple #[.pointer (some ⟨X, 0, none⟩), .bool true])) w' := by unfold ExamRet; rw [if_pos rfl]; exact ⟨X, rfl, h, hb, hx⟩
theorem exam_noR {w w' : World} {n : Int} {lv sv : Value} {tr : List St} {e : Ending} (h : ExamRet w n lv sv tr false e w') : e = .returned (.tuple #[.pointer none, .bool false]) ∧ Ex w w' := by unfold ExamRet at h; rw [if_neg (by simp)] at h; exact h
theorem exam_yesR {w w' : World} {n : Int} {lv sv : Value} {tr : List St} {e : Ending} (h : ExamRet w n lv sv tr true e w') : ∃ X, e = .returned (.tuple #[.pointer (some ⟨X, 0, none⟩), .bool true]) ∧ TrlAt w' X n lv sv tr tr.length ∧ w.heap.size ≤ X ∧ Ex w w' := by unfold ExamRet at h; rw [if_pos rfl] at h; exact h
set_option maxRecDepth 100000 in
set_option maxHeartbeats 4000000 in
theorem learnExamine_any (n : Int) (lv sv : Value) (ll : List (List Int)) (tr : List St) (w : World) (hR : RowsAt w lv ll) (hS : StepsAt w sv tr) (hlen : tr.length ≤ 1000) :
    Calls Try.prog 33 #[.agg #[.int .i64 n, lv], sv] w (ExamRet w n lv sv tr (decide (theoryErr n ll = 0) && trailB n ll tr)) := by
  have HCk : Hid (∀ wa, Ex w wa → Calls Try.prog 49 #[.agg #[.int .i64 n, lv]] wa fun e w' => e = .returned (.int .i64 (theoryErr n ll)) ∧ Ex wa w') := fun wa hx => theoryCheck_any n lv ll wa (hR.ex hx)
  have HRs : Hid (theoryErr n ll = 0 → ∀ wa X i (s : St), Ex w wa → OwnB wa X (trlV n lv sv (tr.take i)) 101 → i ≤ tr.length → (∀ j, j < i → stepAt n ll tr j = true) → 0 ≤ s.why → s.why < ll.length →
      Calls Try.prog 62 #[.pointer (some ⟨X, 0, none⟩), .agg #[.int .i64 s.lit, .int .i64 s.why, .int .i64 s.lev]] wa fun e w' => e = .returned (.bool (reasonB (tr.take i) (ll.getD s.why.toNat []) s.lit)) ∧ Ex wa w') :=
    fun ht wa X i s hx hB hi hst h0 h1 => learnReason_any wa X n lv sv ll tr i s (hR.ex hx) ht ⟨hB, hS.ex hx⟩ hi (once_of hi hst) hlen h0 h1
  have hS0 := hS
  obtain ⟨ra, rcap, rfl, r1, r2, r3⟩ := hR
  obtain ⟨sa, scap, rfl, s1, s2, s3⟩ := hS
  unfold maxLen at r2 s2
  clear r3 s3
  have oT := OwnB.new w [.int .i64 n, .slice ra ll.length rcap] 24
  have hxa := Ex.alloc w (.cells #[.int .i64 n, .slice ra ll.length rcap] 24)
  by_cases ht : theoryErr n ll = 0
  rotate_left
  · have he' : (theoryErr n ll != 0) = true := by simp [ht]
    rw [decide_eq_false ht, Bool.false_and]
    show Calls _ _ _ _ fun e w' => e = .returned (.tuple #[.pointer none, .bool false]) ∧ Ex w w'
    clear HRs ht
    generalize theoryErr n ll = ER at *
    go_enter Try.func33, Try.ntmps33
    go_wp2_with fail
    refine (HCk.out _ hxa).mono ?_
    rintro e w2 ⟨rfl, hx2⟩
    go_wp2
    go_ret2
    exact ⟨rfl, hxa.trans hx2⟩
  rw [ht] at HCk
  rw [decide_eq_true ht, Bool.true_and]
  have HRs2 : Hid _ := HRs.out ht
  clear HRs ht
  have HTN : Hid (∀ i, i < tr.length → stepAt n ll tr i = false → trailB n ll tr = false) := fun i hi h => trailB_no hi h
  have HTY : Hid ((∀ i, i < tr.length → stepAt n ll tr i = true) → trailB n ll tr = true) := fun h => trailB_iff.2 h
  generalize trailB n ll tr = TB at *
  go_enter Try.func33, Try.ntmps33
  go_wp2_with fail
  refine (HCk.out _ hxa).mono ?_
  rintro e w2 ⟨rfl, hx2⟩
  replace oT := oT.ex hx2
  replace hxa := hxa.trans hx2
  clear HCk hx2
  have c0 := oT.cell 0
  have c1 := oT.cell 1
  have z0 := oT.lt
  go_wp2_with fail
  have eX : ((Try.zeroCells101.setIfInBounds 0 (.int .i64 n)).setIfInBounds 1 (.slice ra ll.length rcap)).setIfInBounds 2 (.slice sa tr.length scap) = (fillV n (.slice ra ll.length rcap) (.slice sa tr.length scap) 0).toArray := by
    rw [Try.zeroTrail, List.setIfInBounds_toArray, List.setIfInBounds_toArray, List.setIfInBounds_toArray]; rfl
  have oX := OwnB.new w2 (fillV n (.slice ra ll.length rcap) (.slice sa tr.length scap) 0) 101
  have hxX := Ex.alloc w2 (.cells (fillV n (.slice ra ll.length rcap) (.slice sa tr.length scap) 0).toArray 101)
  rw [← eX] at oX hxX
  generalize ((Try.zeroCells101.setIfInBounds 0 (.int .i64 n)).setIfInBounds 1 (.slice ra ll.length rcap)).setIfInBounds 2 (.slice sa tr.length scap) = ZC at *
  clear eX c0 c1
  replace oT := oT.ex hxX
  replace hxa := hxa.trans hxX
  have hX0 : w.heap.size < w2.heap.size := z0
  generalize w2.alloc (.cells ZC 101) = w3 at *
  generalize w2.heap.size = X at *
  generalize Value.agg ZC = ZV at *
  clear hxX z0
  go_loopw [18] (fun kv wr => ∃ k : Nat, k ≤ 129 ∧ kv = .int .i64 k ∧ Ex w wr ∧ OwnB wr X (fillV n (.slice ra ll.length rcap) (.slice sa tr.length scap) k) 101 ∧ OwnB wr w.heap.size [.int .i64 n, .slice ra ll.length rcap] 24) (fun kv _ => 129 - (intOf kv).toNat)
  case atStart => exact ⟨0, by decide, rfl, hxa, oX, oT⟩
  case round =>
    obtain ⟨k, hk, rfl, hxr, oXr, oTr⟩ := hrel
    by_cases hlt : k < 129
    · have d0 := oXr.cell (3 + k)
      rw [fillV_get _ _ _ hlt] at d0
      have f0 := oXr.free (3 + k)
      have y0 := oXr.lt
      have oX2 := oXr.set (3 + k) (.int .i64 (-1))
      rw [fillV_set _ _ _ hlt] at oX2
      have oT2 := oTr.set_other (c := X) (3 + k) (.int .i64 (-1)) (by omega)
      have hx2 := hxr.setCell (p := ⟨X, 3 + k, none⟩) (Nat.le_of_lt hX0) (.int .i64 (-1))
      clear oX oT oXr oTr HRs2 HTN HTY hS0
      go_wp2
      go_roundw
      case rel => exact ⟨k + 1, by omega, by go_num, hx2, oX2, oT2⟩
      case measure => simp [intOf]; omega
    · have hk9 : Hid (k = 129) := by show _ = _; omega
      rw [hk9.out, fillV_end] at oXr
      have oX1 : OwnB wr X (trlV n (.slice ra ll.length rcap) (.slice sa tr.length scap) (tr.take 0)) 101 := oXr
      clear oX oT oXr
      go_wp2
      have hxw : Ex w wr := hxr
      clear hxr hxa
      generalize hw4 : wr = w4 at *
      clear hw4
      go_loopw [8, 29] (fun lw kv wr => ∃ i : Nat, i ≤ tr.length ∧ kv = .int .i64 i ∧ lw = .int .i64 (levAt tr i) ∧ Ex w wr ∧ OwnB wr X (trlV n (.slice ra ll.length rcap) (.slice sa tr.length scap) (tr.take i)) 101 ∧ OwnB wr w.heap.size [.int .i64 n, .slice ra ll.length rcap] 24 ∧ Hid (∀ j, j < i → stepAt n ll tr j = true)) (fun _ kv _ => tr.length - (intOf kv).toNat)
      case atStart => exact ⟨0, Nat.zero_le _, rfl, rfl, hxw, oX1, oTr, fun j hj => by omega⟩
      case round =>
        clear hxw oX1 oTr
        obtain ⟨i, hi, rfl, rfl, hxr, oXr, oTr, HD⟩ := hrel
        by_cases hlt : i < tr.length
        · obtain ⟨_, _, hv, _, _, s3⟩ := hS0.ex hxr
          cases hv
          obtain ⟨b, off, rfl, hb, g0, g1, g2⟩ := s3 i hlt
          clear s3
          obtain ⟨sx, hsx⟩ : ∃ z, z = (tr.getD i default).lit := ⟨_, rfl⟩
          obtain ⟨sw, hsw⟩ : ∃ z, z = (tr.getD i default).why := ⟨_, rfl⟩
          obtain ⟨sl, hsl⟩ : ∃ z, z = (tr.getD i default).lev := ⟨_, rfl⟩
          have hst : stepAt n ll tr i = (litValid sx n && openT (tr.take i) sx && (if sw = -1 then decide (levAt tr i < sl) else decide (sl = levAt tr i) && (decide (0 ≤ sw) && (decide (sw < ll.length) && reasonB (tr.take i) (ll.getD sw.toNat []) sx)))) := by rw [hsx, hsw, hsl]; rfl
          rw [← hsx] at g0
          rw [← hsw] at g1
          rw [← hsl] at g2
          have HSL : Hid (sl = sV tr i) := hsl
          have HNO : Hid (stepAt n ll tr i = false → TB = false) := HTN.out i hlt
          have HYE : Hid (stepAt n ll tr i = true → ∀ j, j < i + 1 → stepAt n ll tr j = true) := fun h j hj => by
            by_cases e : j = i
            · subst e; exact h
            · exact HD.out j (by omega)
          have HSE : Hid (tr.take (i + 1) = tr.take i ++ [⟨sx, sw, sl⟩]) := by
            show _ = _
            rw [List.take_succ_eq_append_getElem hlt, ← getD_getElem (d := default) hlt, hsx, hsw, hsl]
          have HPL : Hid ((tr.take i).length = i) := by show _ = _; rw [List.length_take]; omega
          have HRr : Hid (∀ wa, Ex wr wa → 0 ≤ sw → sw < ll.length → Calls Try.prog 62 #[.pointer (some ⟨X, 0, none⟩), .agg #[.int .i64 sx, .int .i64 sw, .int .i64 sl]] wa fun e w' => e = .returned (.bool (reasonB (tr.take i) (ll.getD sw.toNat []) sx)) ∧ Ex wa w') := fun wa hx q0 q1 => HRs2.out wa X i ⟨sx, sw, sl⟩ (hxr.trans hx) (oXr.ex hx) hi HD.out q0 q1
          have HVa : Hid (∀ wa, Calls Try.prog 45 #[.int .i64 sx, .int .i64 n] wa fun e w' => e = .returned (.bool (litValid sx n)) ∧ wa = w') := fun wa => litValid_any sx n wa
          clear HTN HTY HRs2 hsx hsw hsl HD
          generalize hpre : tr.take i = pre at *
          clear hpre
          generalize levAt tr i = L at *
          generalize stepAt n ll tr i = SA at *
          have HST : Hid _ := hst
          clear hst
          have oB := OwnB.new wr [.int .i64 sx, .int .i64 sw, .int .i64 sl] 55
          have hxB := Ex.alloc wr (.cells #[.int .i64 sx, .int .i64 sw, .int .i64 sl] 55)
          have hBX : X < wr.heap.size := oXr.lt
          have hx5 : Ex w _ := hxr.trans hxB
          have oX5 := oXr.ex hxB
          have oT5 := oTr.ex hxB
          have t0 := ext_cell (oT5.cell 0)
          have t1 := ext_cell (oT5.cell 1)
          have b0 := ext_cell (oB.cell 0)
          have b1 := ext_cell (oB.cell 1)
          have b2 := ext_cell (oB.cell 2)
          cases hva : litValid sx n with
          | false =>
            have hTB : TB = false := HNO.out (by rw [HST.out, hva]; rfl)
            subst hTB
            rw [hva] at HVa
            clear HNO HYE HST HSE HRr oXr oTr oX5 HSL hva
            go_wp2_with fail
            generalize wr.alloc (.cells #[.int .i64 sx, .int .i64 sw, .int .i64 sl] 55) = w5 at *
            generalize wr.heap.size = B at *
            refine wp_region_quiet_ext (by kernel_rfl) (by kernel_rfl) ?_
            repeat (go_big_quiet_step ((first | (go_at_call 45; exact Calls.quiet_ext_same (HVa.out _)) | fail)))
            refine wpQuiet_nil ?_
            intro w6 hx6
            go_wp2
            go_ret2
            exact exam_no (hx5.trans hx6)
          | true =>
          have hr := litVar_range sx
          have hvn := litVar_ne hva
          have HAo : Hid (atI pre (litVar sx) < 0 ↔ openT pre sx = true) := atI_open hvn
          have HVr : Hid (∀ wa, Calls Try.prog 61 #[.int .i64 sx] wa fun e w' => e = .returned (.int .i64 (litVar sx)) ∧ wa = w') := fun wa => litVar_any sx wa
          have x0 := ext_cell (by have := oX5.cell (3 + (litVar sx).toNat); rw [trlV_at _ _ _ _ hr.1 hr.2] at this; exact this)
          have hatr := atI_range pre (litVar sx)
          have HAt : Hid ((trlV n (.slice ra ll.length rcap) (.slice (some ⟨b, off, none⟩) tr.length scap) pre)[3 + (litVar sx).toNat]? = some (.int .i64 (atI pre (litVar sx)))) := trlV_at _ _ _ _ hr.1 hr.2
          have HSet : Hid (atI pre (litVar sx) < 0 → (trlV n (.slice ra ll.length rcap) (.slice (some ⟨b, off, none⟩) tr.length scap) pre).set (3 + (litVar sx).toNat) (.int .i64 i) = trlV n (.slice ra ll.length rcap) (.slice (some ⟨b, off, none⟩) tr.length scap) (tr.take (i + 1))) := fun h => by
            have := trlV_set n (.slice ra ll.length rcap) (.slice (some ⟨b, off, none⟩) tr.length scap) (pre := pre) (s := ⟨sx, sw, sl⟩) h
            rw [HSE.out, ← this, HPL.out]
          rw [hva] at HVa
          have HS1 : Hid (SA = (openT pre sx && (if sw = -1 then decide (L < sl) else decide (sl = L) && (decide (0 ≤ sw) && (decide (sw < ll.length) && reasonB pre (ll.getD sw.toNat []) sx))))) := by show _ = _; rw [HST.out, hva]; rfl
          clear HST hva HSE HPL hvn
          generalize litVar sx = v at *
          have q0 : (0 : Int) ≤ v := hr.1
          have q1 : v < 129 := by omega
          have hvn : ((v.toNat : Nat) : Int) = v := by omega
          generalize hvN : v.toNat = vN at *
          subst hvn
          clear hvN
          generalize atI pre ((vN : Nat) : Int) = A at *
          by_cases hA : A < 0
          rotate_left
          · have hop : openT pre sx = false := by
              cases h : openT pre sx with
              | false => rfl
              | true => exact absurd (HAo.out.2 h) hA
            have hTB : TB = false := HNO.out (by rw [HS1.out, hop]; rfl)
            subst hTB
            clear HNO HYE HS1 HRr oXr oTr oX5 HSL hop HSet HAo
            go_wp2_with fail
            generalize wr.alloc (.cells #[.int .i64 sx, .int .i64 sw, .int .i64 sl] 55) = w5 at *
            generalize wr.heap.size = B at *
            refine wp_region_quiet_ext (by kernel_rfl) (by kernel_rfl) ?_
            repeat (go_big_quiet_step ((first | (go_at_call 45; exact Calls.quiet_ext_same (HVa.out _)) | (go_at_call 61; exact Calls.quiet_ext_same (HVr.out _)) | fail)))
            refine wpQuiet_nil ?_
            intro w6 hx6
            go_wp2
            go_ret2
            exact exam_no (hx5.trans hx6)
          have HS2 : Hid (SA = if sw = -1 then decide (L < sl) else decide (sl = L) && (decide (0 ≤ sw) && (decide (sw < ll.length) && reasonB pre (ll.getD sw.toNat []) sx))) := by show _ = _; rw [HS1.out, HAo.out.1 hA]; rfl
          have HSet2 : Hid _ := HSet.out hA
          clear HS1 HSet HAo
          go_wp2_with fail
          generalize wr.alloc (.cells #[.int .i64 sx, .int .i64 sw, .int .i64 sl] 55) = w5 at *
          generalize wr.heap.size = B at *
          refine wp_region_quiet_ext (by kernel_rfl) (by kernel_rfl) ?_
          repeat (go_big_quiet_step ((first | (go_at_call 45; exact Calls.quiet_ext_same (HVa.out _)) | (go_at_call 61; exact Calls.quiet_ext_same (HVr.out _)) | fail)))
          refine wpQuiet_nil ?_
          intro w6 hx6
          have hx56 : Ex wr w6 := hxB.trans hx6
          replace hx5 := hx5.trans hx6
          replace oB := oB.ex hx6
          replace oX5 := oX5.ex hx6
          replace oT5 := oT5.ex hx6
          clear t0 t1 b0 b1 b2 x0 hx6 hxB
          have t0 := oT5.cell 0
          have t1 := oT5.cell 1
          have b0 := oB.cell 0
          have b1 := oB.cell 1
          have b2 := oB.cell 2
          have z0 := oT5.lt
          have z1 := oB.lt
          by_cases hw : sw = -1
          · have HS3 : Hid (SA = decide (L < sl)) := by show _ = _; rw [HS2.out, if_pos hw]
            have hwb : (sw == -1) = true := by simp [hw]
            clear HS2
            by_cases hL : L < sl
            · have HD' : Hid _ := HYE.out (by rw [HS3.out]; exact decide_eq_true hL)
              have x0 := by have := oX5.cell (3 + vN); rw [HAt.out] at this; exact this
              have f0 := oX5.free (3 + vN)
              have y0 := oX5.lt
              have oX8 := oX5.set (3 + vN) (.int .i64 i)
              rw [HSet2.out] at oX8
              have oT8 := oT5.set_other (c := X) (3 + vN) (.int .i64 i) (by omega)
              have hx8 := hx5.setCell (p := ⟨X, 3 + vN, none⟩) (Nat.le_of_lt hX0) (.int .i64 i)
              clear HSet2 HS3 oX5 oT5
              clear HNO HYE HRr HVa oXr oTr
              go_wp2
              go_region_law ((go_simp; go_at_call 61; refine (HVr.out _).mono ?_; rintro e w' ⟨rfl, rfl⟩))
              all_goals (
                go_wp2
                go_roundw
                case rel => exact ⟨i + 1, by omega, by go_num, by rw [levAt_succ]; exact val_int HSL.out, hx8.trans (Ex.refl _).drew, oX8.ex (Ex.refl _).drew, oT8.ex (Ex.refl _).drew, HD'⟩
                case measure => simp [intOf]; omega)

            · have hTB : TB = false := HNO.out (by rw [HS3.out]; exact decide_eq_false hL)
              subst hTB
              clear HNO HYE HS3 HRr oXr oTr oX5 HSL HSet2
              go_wp2
              go_ret2
              exact exam_no hx5
          · have HS3 : Hid (SA = (decide (sl = L) && (decide (0 ≤ sw) && (decide (sw < ll.length) && reasonB pre (ll.getD sw.toNat []) sx)))) := by show _ = _; rw [HS2.out, if_neg hw]
            have hwb : (sw == -1) = false := by simp [hw]
            clear HS2
            by_cases hL : sl = L
            rotate_left
            · have hTB : TB = false := HNO.out (by rw [HS3.out, decide_eq_false hL]; rfl)
              subst hTB
              have hlb : (sl != L) = true := by simp [hL]
              clear HNO HYE HS3 HRr oXr oTr oX5 HSL HSet2
              go_wp2
              go_ret2
              exact exam_no hx5
            have hlb : (sl != L) = false := by simp [hL]
            have HS4 : Hid (SA = (decide (0 ≤ sw) && (decide (sw < ll.length) && reasonB pre (ll.getD sw.toNat []) sx))) := by show _ = _; rw [HS3.out, decide_eq_true hL]; rfl
            clear HS3 hL
            by_cases hw0 : 0 ≤ sw
            rotate_left
            · have hTB : TB = false := HNO.out (by rw [HS4.out, decide_eq_false hw0]; rfl)
              subst hTB
              clear HNO HYE HS4 HRr oXr oTr oX5 HSL HSet2
              go_wp2
              go_ret2
              exact exam_no hx5
            by_cases hw1 : sw < ll.length
            rotate_left
            · have hTB : TB = false := HNO.out (by rw [HS4.out, decide_eq_false hw1, Bool.false_and, Bool.and_false])
              subst hTB
              clear HNO HYE HS4 HRr oXr oTr oX5 HSL HSet2
              go_wp2
              go_ret2
              exact exam_no hx5
            have HS5 : Hid (SA = reasonB pre (ll.getD sw.toNat []) sx) := by show _ = _; rw [HS4.out, decide_eq_true hw0, decide_eq_true hw1]; rfl
            have HRx : Hid _ := HRr.out w6 hx56 hw0 hw1
            clear HS4 HRr
            generalize reasonB pre (ll.getD sw.toNat []) sx = RB at *
            go_wp2_with fail
            refine Calls.mono HRx.out ?_
            rintro e w7 ⟨rfl, hx7⟩
            replace hx5 := hx5.trans hx7
            replace oB := oB.ex hx7
            replace oX5 := oX5.ex hx7
            replace oT5 := oT5.ex hx7
            clear t0 t1 b0 b1 b2 z0 z1 HRx hx7
            have b0 := oB.cell 0
            have b2 := oB.cell 2
            have z1 := oB.lt
            cases RB with
            | false =>
              have hTB : TB = false := HNO.out HS5.out
              subst hTB
              clear HNO HYE HS5 oXr oTr oX5 HSL HSet2
              go_wp2
              go_ret2
              exact exam_no hx5
            | true =>
              have HD' : Hid _ := HYE.out HS5.out
              have x0 := by have := oX5.cell (3 + vN); rw [HAt.out] at this; exact this
              have f0 := oX5.free (3 + vN)
              have y0 := oX5.lt
              have oX8 := oX5.set (3 + vN) (.int .i64 i)
              rw [HSet2.out] at oX8
              have oT8 := oT5.set_other (c := X) (3 + vN) (.int .i64 i) (by omega)
              have hx8 := hx5.setCell (p := ⟨X, 3 + vN, none⟩) (Nat.le_of_lt hX0) (.int .i64 i)
              have HRr : True := trivial
              have HST : True := trivial
              clear HSet2 HS5 oX5 oT5
              clear HNO HST HYE HRr HVa oXr oTr
              go_wp2
              go_region_law ((go_simp; go_at_call 61; refine (HVr.out _).mono ?_; rintro e w' ⟨rfl, rfl⟩))
              all_goals (
                go_wp2
                go_roundw
                case rel => exact ⟨i + 1, by omega, by go_num, by rw [levAt_succ]; exact val_int HSL.out, hx8.trans (Ex.refl _).drew, oX8.ex (Ex.refl _).drew, oT8.ex (Ex.refl _).drew, HD'⟩
                case measure => simp [intOf]; omega)
        · obtain rfl : i = tr.length := by omega
          have hTB : TB = true := HTY.out fun j hj => HD.out j hj
          subst hTB
          have hT : TrlAt wr X n (.slice ra ll.length rcap) (.slice sa tr.length scap) tr tr.length := ⟨oXr, hS0.ex hxr⟩
          clear HTN HTY HD HRs2 oXr oTr hS0
          go_wp2
          go_ret2
          exact exam_yes hT (Nat.le_of_lt hX0) hxr
end Go.Proofs.Yteagoaiiacideaa
