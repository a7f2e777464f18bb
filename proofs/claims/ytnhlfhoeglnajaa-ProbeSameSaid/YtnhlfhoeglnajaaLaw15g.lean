/- Chapter 15: ProbeSame: the walk. No condition. -/
import Derived.Test.YtnhlfhoeglnajaaLaw15b
import Derived.Test.YtnhlfhoeglnajaaWholeP
namespace Go.Proofs.Ytnhlfhoeglnajaa
set_option linter.unusedSimpArgs false
set_option linter.unusedVariables false
open Go.RowKit
set_option maxRecDepth 20000
set_option maxRecDepth 100000 in
set_option maxHeartbeats 4000000 in
theorem ProbeSame_any (n : Int) (lv : Value) (x y : Nat) (ll : List (List Int)) (w : World) (hR : RowsAt w lv ll) (hx : x < 18446744073709551616) (hy : y < 18446744073709551616) :
    Calls Try.prog 11 #[.agg #[.int .i64 n, lv], .agg #[.int .u64 x, .int .u64 y]] w fun e w' => e = .returned (.bool true) ∧ Ex w w' := by
  have HSm : Hid (∀ wa, Ex w wa → Calls Try.prog 13 #[.agg #[.int .i64 n, lv]] wa (SmallRet wa n ll)) := fun wa h => small15_any n lv ll wa (hR.ex h)
  obtain ⟨a1, ha1⟩ : ∃ a1, a1 = (allV (min n 128).toNat).1 := ⟨_, rfl⟩
  obtain ⟨a2, ha2⟩ : ∃ a2, a2 = (allV (min n 128).toNat).2 := ⟨_, rfl⟩
  have l1 : a1 < 18446744073709551616 := ha1 ▸ (allV_lt _).1
  have l2 : a2 < 18446744073709551616 := ha2 ▸ (allV_lt _).2
  have HAl : Hid (∀ wa, Calls Try.prog 16 #[.int .i64 n] wa fun e w' => e = .returned (.agg #[.int .u64 a1, .int .u64 a2]) ∧ Ex wa w') := fun wa => by rw [ha1, ha2]; exact varsAll_wide n wa
  have HCu : Hid (∀ wa, Calls Try.prog 15 #[.agg #[.int .u64 x, .int .u64 y], .agg #[.int .u64 a1, .int .u64 a2]] wa fun e w' => e = .returned (.agg #[.int .u64 ((x &&& a1 : Nat)), .int .u64 ((y &&& a2 : Nat))]) ∧ Ex wa w') := fun wa => varsCut_any x y a1 a2 hx hy l1 l2 wa
  obtain ⟨X, hX⟩ : ∃ X, X = x &&& a1 := ⟨_, rfl⟩
  obtain ⟨Y, hY⟩ : ∃ Y, Y = y &&& a2 := ⟨_, rfl⟩
  have hX1 : X < 18446744073709551616 := hX ▸ and_lt l1
  have hY1 : Y < 18446744073709551616 := hY ▸ and_lt l2
  rw [← hX, ← hY] at HCu
  clear hX hY ha1 ha2 l1 l2 hx hy
  have HEv : Hid (∀ wa, Ex w wa → Calls Try.prog 19 #[.agg #[.int .i64 n, lv], .agg #[.int .u64 X, .int .u64 Y]] wa fun e w' => e = .returned (.bool (evalB n ll X Y)) ∧ Ex wa w') := fun wa h => by
    rw [← evalT_eq hX1 hY1]; exact theoryEval_any n lv ll X Y hX1 hY1 wa (hR.ex h)
  have HAll : Hid (∀ wa u m, IntsAt wa u m → Calls Try.prog 20 #[.agg #[.int .u64 X, .int .u64 Y], u] wa fun e w' => e = .returned (.bool (m.all (holdsB X Y))) ∧ Ex wa w') := fun wa u m h => litAll_any X Y hX1 hY1 u m wa h
  have HHs : Hid (∀ (v : Int) wa, Calls Try.prog 35 #[.agg #[.int .u64 X, .int .u64 Y], .int .i64 v] wa fun e w' => e = .returned (.bool (hasB X Y v)) ∧ Ex wa w') := fun v wa => varsHas_any X Y hX1 hY1 v wa
  have HHo : Hid (∀ (v : Int) wa, Calls Try.prog 34 #[.agg #[.int .u64 X, .int .u64 Y], .int .i64 v] wa fun e w' => e = .returned (.bool (holdsB X Y v)) ∧ Ex wa w') := fun v wa => litHolds_any X Y hX1 hY1 v wa
  have HCk : Hid (∀ wa, Ex w wa → Calls Try.prog 33 #[.agg #[.int .i64 n, lv]] wa fun e w' => e = .returned (.int .i64 (theoryErr n ll)) ∧ Ex wa w') := fun wa h => theoryCheck_any n lv ll wa (hR.ex h)
  have HEq0 : Hid (theoryErr n ll ≠ 0 → ∀ wa, Ex w wa → Calls Try.prog 28 #[.agg #[.int .i64 n, lv]] wa (EqRet wa [] (theoryErr n ll))) := fun he wa h => Equal_bad n lv ll wa (hR.ex h) he
  have HEq1 : Hid (∀ N : Nat, n = N → theoryErr n ll = 0 → ∀ wa, Ex w wa → Calls Try.prog 28 #[.agg #[.int .i64 n, lv]] wa (EqRet wa (eqL N ll N) 0)) := fun N hN he wa h => by
    subst hN
    exact Equal_ok N lv ll wa (hR.ex h) he
  obtain ⟨ra, rcap, rfl, r1, r2, r3⟩ := hR
  clear r3
  have oT := (OwnB.new w [.int .i64 n, .slice ra ll.length rcap] 24).ex (Ex.alloc _ (.cells #[.int .u64 x, .int .u64 y] 28))
  have oS := OwnB.new (w.alloc (.cells #[.int .i64 n, .slice ra ll.length rcap] 24)) [.int .u64 x, .int .u64 y] 28
  have hxa := (Ex.alloc w (.cells #[.int .i64 n, .slice ra ll.length rcap] 24)).alloc' (.cells #[.int .u64 x, .int .u64 y] 28)
  rw [alloc_size] at oS
  go_enter Try.func11, Try.ntmps11
  go_wp2_with fail
  generalize (w.alloc (.cells #[.int .i64 n, .slice ra ll.length rcap] 24)).alloc (.cells #[.int .u64 x, .int .u64 y] 28) = wa at *
  refine (HSm.out _ hxa).mono ?_
  rintro e w2 ⟨b, rfl, hb, hx2⟩
  replace hxa := hxa.trans hx2
  replace oT := oT.ex hx2
  replace oS := oS.ex hx2
  clear hx2 HSm hb
  cases b with
  | false =>
    go_wp2_with (refine (works15_any _).mono ?_; rintro e w' ⟨rfl, hx⟩)
    go_ret
    exact ⟨rfl, hxa.trans hx⟩
  | true =>
  have c0 := oT.cell 0
  have s0 := oS.cell 0
  have s1 := oS.cell 1
  have f0 := oS.free 0
  have f1 := oS.free 1
  have z0 := oT.lt
  have z1 := oS.lt
  have hneT : w.heap.size ≠ w.heap.size + 1 := by omega
  go_wp2
  have hSB : Hid (w.heap.size + 1 = w.heap.size + 1) := rfl
  apply wp_mono (Q := AfterQ _ fun w' => OwnB w' w.heap.size [.int .i64 n, .slice ra ll.length rcap] 24 ∧ OwnB w' (w.heap.size + 1) [.int .u64 X, .int .u64 Y] 28 ∧ Ex w w')
  case h =>
    go_region_law (first | (go_simp; go_at_call 16; refine (HAl.out _).mono ?_; rintro e w3 ⟨rfl, hx3⟩; have oS3 := (show OwnB w2.drew _ _ _ from oS).ex hx3; have s03 := oS3.cell 0; have s13 := oS3.cell 1; have f03 := oS3.free 0; have f13 := oS3.free 1; have z13 := oS3.lt; have c03 := ex_cell (show w2.drew.cell? _ = _ from c0) hx3) | (go_simp; go_at_call 15; refine (HCu.out _).mono ?_; rintro e w4 ⟨rfl, hx4⟩; have oS4 := oS3.ex hx4; have s04 := oS4.cell 0; have s14 := oS4.cell 1; have f04 := oS4.free 0; have f14 := oS4.free 1; have z14 := oS4.lt; have c04 := ex_cell c03 hx4))
    all_goals exact ⟨rfl, ((((show OwnB w2.drew _ _ _ from oT).ex hx3).ex hx4).set_other (c := w.heap.size + 1) 0 (.int .u64 X) hneT.symm).set_other (c := w.heap.size + 1) 1 (.int .u64 Y) hneT.symm, (oS4.set 0 (.int .u64 X)).set 1 (.int .u64 Y), ((((hxa.trans ((Ex.refl w2).drew)).trans hx3).trans hx4).setCell (by show w.heap.size ≤ w.heap.size + 1; omega) _).setCell (by show w.heap.size ≤ w.heap.size + 1; omega) _⟩
  refine AfterQ.out ?_
  rintro w5 ⟨oT5, oS5, hx5⟩
  clear s0 s1 f0 f1 z0 z1 c0 oT oS HAl HCu hSB
  generalize w.heap.size + 1 = SB at *
  have c0 := oT5.cell 0
  have c1 := oT5.cell 1
  have z0 := oT5.lt
  by_cases hte : theoryErr n ll = 0
  rotate_left
  · have hteb : (theoryErr n ll != 0) = true := by simp [hte]
    have HE : Hid _ := HEq0.out hte w5 hx5
    clear HEq0 HEq1 HEv hte HHs HHo
    generalize theoryErr n ll = TE at *
    have hl0 : ((([] : List Int).length : Nat) : Int) = 0 := rfl
    go_wp2_with fail
    refine Calls.mono HE.out ?_
    rintro e w6 ⟨v6, rfl, ho6, hx6⟩
    have hI6 := ho6.ints
    obtain ⟨p6, q6, rfl, _, _, _⟩ := hI6
    clear ho6 c0 c1 z0 HE
    have c0 := (oT5.ex hx6).cell 0
    have c1 := (oT5.ex hx6).cell 1
    have z0 := (oT5.ex hx6).lt
    go_wp2_with fail
    refine (HCk.out _ (hx5.trans hx6)).mono ?_
    rintro e w7 ⟨rfl, hx7⟩
    go_wp2_with (refine (works15_any _).mono ?_; rintro e w' ⟨rfl, hx⟩)
    go_ret
    exact ⟨rfl, ((hx5.trans hx6).trans hx7).trans hx⟩
  have hn0 := (theoryErr_zero hte).1
  have hn1 := (theoryErr_zero hte).2.1
  obtain ⟨N, hN⟩ : ∃ N : Nat, N = n.toNat := ⟨_, rfl⟩
  have hnN : n = (N : Int) := by omega
  subst hnN
  have HE : Hid _ := HEq1.out N rfl hte w5 hx5
  clear HEq0 HEq1 hN hte HCk
  have hN128 : N ≤ 128 := by omega
  have HSm : Hid (∀ i, i < N → ∃ u : Nat, litVar ((eqL N ll N).getD i 0) = (u : Int) + 1 ∧ u ≤ i ∧ (eqL N ll N).getD u 0 = (u : Int) + 1 ∧ (evalB N ll X Y = true → holdsB X Y ((eqL N ll N).getD i 0) = hasB X Y ((i : Int) + 1))) := fun i hi => by
    obtain ⟨u, u1, u2, u3, u4⟩ := same15 (ll := ll) (x := X) (y := Y) hN128 hi
    have e : ∀ k, k < N → (eqL N ll N).getD k 0 = eqV N ll ((k : Int) + 1) := fun k hk => by rw [getD_getElem (by rw [eqL_len]; exact hk)]; simp [eqL]
    refine ⟨u, ?_⟩
    rw [e i hi, e u (by omega)]
    exact ⟨u1, u2, u3, u4⟩
  have hll : Hid ((eqL N ll N).length = N) := eqL_len _ _ _
  generalize eqL N ll N = L at *
  go_wp2_with fail
  refine Calls.mono HE.out ?_
  rintro e w6 ⟨v6, rfl, ho6, hx6⟩
  have hI6 := ho6.ints
  obtain ⟨p6, q6, rfl, i1, i2, i3⟩ := hI6
  clear i3
  unfold maxLen at i2
  have hI6 := ho6.ints
  clear ho6 c0 c1 z0 HE
  have oT6 := oT5.ex hx6
  have oS6 := oS5.ex hx6
  have c0 := oT6.cell 0
  have c1 := oT6.cell 1
  have z0 := oT6.lt
  have s0 := oS6.cell 0
  have s1 := oS6.cell 1
  have z1 := oS6.lt
  have hne : ((L.length : Int) != (N : Int)) = false := by simp [hll.out]
  have HE2 : Hid _ := HEv.out w6 (hx5.trans hx6)
  clear HEv
  generalize evalB N ll X Y = EV at *
  go_wp2_with fail
  refine Calls.mono HE2.out ?_
  rintro e w7 ⟨rfl, hx7⟩
  have hI7 := hI6.ex hx7
  have oS7 := oS6.ex hx7
  have hx57 := (hx5.trans hx6).trans hx7
  clear HE2 c0 c1 z0 s0 s1 z1 hI6 oT5 oS5 oT6 oS6 hne
  go_wp2
  go_loopw [49] (fun iw wr => ∃ i : Nat, i ≤ L.length ∧ iw = .int .i64 i ∧ Ex w7 wr) (fun iw _ => L.length - (intOf iw).toNat)
  case atStart => exact ⟨0, Nat.zero_le _, rfl, Ex.refl _⟩
  case round =>
    obtain ⟨i, hi, rfl, hxr⟩ := hrel
    by_cases hlt : i < L.length
    · obtain ⟨u, u1, u2, u3, u4⟩ := HSm.out i (by have := hll.out; omega)
      have hIr := hI7.ex hxr
      obtain ⟨_, _, hv, _, _, h3⟩ := hIr
      cases hv
      obtain ⟨b, off, hbe, hb, hc⟩ := h3 i hlt
      obtain ⟨b2, off2, hbe2, hb2, hc2⟩ := h3 u (by have := hll.out; omega)
      clear h3
      rw [hbe] at hbe2
      cases hbe2
      subst hbe
      rw [u3] at hc2
      have oSr := oS7.ex hxr
      have s0 := oSr.cell 0
      have s1 := oSr.cell 1
      have z1 := oSr.lt
      have hcx := ext_cell hc
      have hcx2 := ext_cell hc2
      have s0x := ext_cell s0
      have s1x := ext_cell s1
      have HV : Hid (Calls Try.prog 22 #[.int .i64 (L.getD i 0)] wr fun e w' => e = .returned (.int .i64 ((u : Int) + 1)) ∧ wr = w') := by
        have := litVar_any (L.getD i 0) wr
        rwa [u1] at this
      have q1 : (i : Int) < (L.length : Int) := by omega
      have q2 : (u : Int) < (L.length : Int) := by omega
      have q3 : (0 : Int) ≤ (u : Int) := by omega
      have q4 : (0 : Int) ≤ (i : Int) := by omega
      have q5 : (u : Int) + 1 - 1 = (u : Int) := by omega
      have q6 : ¬ ((u : Int) + 1 < 1) := by omega
      have q7 : ¬ ((i : Int) + 1 < (u : Int) + 1) := by omega
      have q8 : (((u : Int) + 1 != (u : Int) + 1)) = false := by simp
      have d1 : decide ((u : Int) + 1 < 1) = false := by simp; omega
      have d2 : decide ((i : Int) + 1 < (u : Int) + 1) = false := by simp; omega
      have d3 : decide ((i : Int) < (u : Int)) = false := by simp; omega
      have d5 : decide (i < u) = false := by simp; omega
      have d6 : ¬ (i < u) := by omega
      have HU4 : Hid _ := u4
      clear u1 u3 u4 HSm
      generalize L.getD i 0 = z at *
      cases EV with
      | false =>
        clear HU4
        go_wp2_with fail
        refine Calls.mono HV.out ?_
        rintro e w8 ⟨rfl, rfl⟩
        clear HV
        go_wp2
        refine wp_region_quiet_ext (by kernel_rfl) (by kernel_rfl) ?_
        repeat (go_big_quiet_step ((fail)))
        refine wpQuiet_nil ?_
        intro w9 hx9
        go_wp2
        go_roundw
        case rel => exact ⟨i + 1, by omega, by go_num, hxr.trans hx9⟩
        case measure => simp [intOf]; omega
      | true =>
        have hh := HU4.out (by trivial)
        have HO : Hid (∀ wa, Calls Try.prog 34 #[.agg #[.int .u64 X, .int .u64 Y], .int .i64 z] wa fun e w' => e = .returned (.bool (hasB X Y ((i : Int) + 1))) ∧ Ex wa w') := fun wa => by
          have := HHo.out z wa
          rwa [hh] at this
        have HS2 : Hid (∀ wa, Calls Try.prog 35 #[.agg #[.int .u64 X, .int .u64 Y], .int .i64 ((i : Int) + 1)] wa fun e w' => e = .returned (.bool (hasB X Y ((i : Int) + 1))) ∧ Ex wa w') := fun wa => HHs.out _ wa
        clear HU4 hh HHo HHs
        generalize hasB X Y ((i : Int) + 1) = B at *
        have q9 : (B != B) = false := by cases B <;> rfl
        go_wp2_with fail
        refine Calls.mono HV.out ?_
        rintro e w8 ⟨rfl, rfl⟩
        clear HV
        go_wp2
        refine wp_region_quiet_ext (by kernel_rfl) (by kernel_rfl) ?_
        repeat (go_big_quiet_step ((first | (go_at_call 34; exact Calls.quiet_ext (HO.out _)) | (go_at_call 35; exact Calls.quiet_ext (HS2.out _)) | fail)))
        refine wpQuiet_nil ?_
        intro w9 hx9
        go_wp2
        go_roundw
        case rel => exact ⟨i + 1, by omega, by go_num, hxr.trans hx9⟩
        case measure => simp [intOf]; omega
    · clear HSm
      go_wp2_with (refine (works15_any _).mono ?_; rintro e w' ⟨rfl, hx⟩)
      go_ret
      exact ⟨rfl, (hx57.trans hxr).trans hx⟩
end Go.Proofs.Ytnhlfhoeglnajaa
