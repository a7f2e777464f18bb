/- Chapter 15: ProbeBones: the walk. No condition. -/
import Derived.Test.YtnhlfhoeglnajaaLaw15b
import Derived.Test.YtnhlfhoeglnajaaBonesP
namespace Go.Proofs.Ytnhlfhoeglnajaa
set_option linter.unusedSimpArgs false
set_option linter.unusedVariables false
open Go.RowKit
set_option maxRecDepth 20000
set_option maxRecDepth 100000 in
set_option maxHeartbeats 4000000 in
theorem ProbeBones_any (n : Int) (lv : Value) (x y : Nat) (ll : List (List Int)) (w : World) (hR : RowsAt w lv ll) (hx : x < 18446744073709551616) (hy : y < 18446744073709551616) :
    Calls Try.prog 4 #[.agg #[.int .i64 n, lv], .agg #[.int .u64 x, .int .u64 y]] w fun e w' => e = .returned (.bool true) ∧ Ex w w' := by
  have HSm : Hid (∀ wa, Ex w wa → Calls Try.prog 13 #[.agg #[.int .i64 n, lv]] wa (SmallRet wa n ll)) := fun wa h => small15_any n lv ll wa (hR.ex h)
  obtain ⟨a1, ha1⟩ : ∃ a1, a1 = (allV (min n 128).toNat).1 := ⟨_, rfl⟩
  obtain ⟨a2, ha2⟩ : ∃ a2, a2 = (allV (min n 128).toNat).2 := ⟨_, rfl⟩
  have l1 : a1 < 18446744073709551616 := ha1 ▸ (allV_lt _).1
  have l2 : a2 < 18446744073709551616 := ha2 ▸ (allV_lt _).2
  have HAl : Hid (∀ wa, Calls Try.prog 16 #[.int .i64 n] wa fun e w' => e = .returned (.agg #[.int .u64 a1, .int .u64 a2]) ∧ Ex wa w') := fun wa => by rw [ha1, ha2]; exact varsAll_wide n wa
  have HCu : Hid (∀ wa, Calls Try.prog 15 #[.agg #[.int .u64 x, .int .u64 y], .agg #[.int .u64 a1, .int .u64 a2]] wa fun e w' => e = .returned (.agg #[.int .u64 ((x &&& a1 : Nat)), .int .u64 ((y &&& a2 : Nat))]) ∧ Ex wa w') := fun wa => varsCut_any x y a1 a2 hx hy l1 l2 wa
  obtain ⟨X, hX⟩ : ∃ X, X = x &&& a1 := ⟨_, rfl⟩
  obtain ⟨Y, hY⟩ : ∃ Y, Y = y &&& a2 := ⟨_, rfl⟩
  have hX1 : X < 18446744073709551616 := hX ▸ and_lt l1
  have hY1 : Y < 18446744073709551616 := hY ▸ and_lt l2
  rw [← hX, ← hY] at HCu
  clear hX hY ha1 ha2 l1 l2 hx hy
  have HEv : Hid (∀ wa, Ex w wa → Calls Try.prog 19 #[.agg #[.int .i64 n, lv], .agg #[.int .u64 X, .int .u64 Y]] wa fun e w' => e = .returned (.bool (evalB n ll X Y)) ∧ Ex wa w') := fun wa h => by
    rw [← evalT_eq hX1 hY1]; exact theoryEval_any n lv ll X Y hX1 hY1 wa (hR.ex h)
  have HAll : Hid (∀ wa u m, IntsAt wa u m → Calls Try.prog 20 #[.agg #[.int .u64 X, .int .u64 Y], u] wa fun e w' => e = .returned (.bool (m.all (holdsB X Y))) ∧ Ex wa w') := fun wa u m h => litAll_any X Y hX1 hY1 u m wa h
  have hR0 := hR
  have HBo : Hid (∀ wa, Ex w wa → Calls Try.prog 21 #[.agg #[.int .i64 n, lv]] wa (BoneRet wa (boneO n ll) (boneB n ll) (theoryErr n ll))) := fun wa h => Backbone_any n lv ll wa (hR.ex h)
  have HTr : Hid (evalB n ll X Y = true → boneB n ll = true ∧ (boneO n ll).all (holdsB X Y) = true) := bone_true hX1 hY1
  have HNo : Hid (boneB n ll = false → boneO n ll = []) := boneO_no
  have HEr : Hid (boneB n ll = true → theoryErr n ll = 0) := fun h => by unfold boneB at h; rw [Bool.and_eq_true, decide_eq_true_eq] at h; exact h.1
  have HVa : Hid (∀ i, i + 1 < (boneO n ll).length → litVar ((boneO n ll).getD i 0) < litVar ((boneO n ll).getD (i + 1) 0)) := fun i h => boneO_var n ll h
  obtain ⟨ra, rcap, rfl, r1, r2, r3⟩ := hR
  generalize boneO n ll = BO at *
  generalize boneB n ll = BB at *
  generalize theoryErr n ll = TE at *
  generalize evalB n ll X Y = EV at *
  clear r3
  have oT := (OwnB.new w [.int .i64 n, .slice ra ll.length rcap] 24).ex (Ex.alloc _ (.cells #[.int .u64 x, .int .u64 y] 28))
  have oS := OwnB.new (w.alloc (.cells #[.int .i64 n, .slice ra ll.length rcap] 24)) [.int .u64 x, .int .u64 y] 28
  have hxa := (Ex.alloc w (.cells #[.int .i64 n, .slice ra ll.length rcap] 24)).alloc' (.cells #[.int .u64 x, .int .u64 y] 28)
  rw [alloc_size] at oS
  go_enter Try.func4, Try.ntmps4
  go_wp2_with fail
  generalize (w.alloc (.cells #[.int .i64 n, .slice ra ll.length rcap] 24)).alloc (.cells #[.int .u64 x, .int .u64 y] 28) = wa at *
  refine (HSm.out _ hxa).mono ?_
  rintro e w2 ⟨b, rfl, hb, hx2⟩
  replace hxa := hxa.trans hx2
  replace oT := oT.ex hx2
  replace oS := oS.ex hx2
  clear hx2 HSm hb
  cases b with
  | false =>
    go_wp2_with (refine (works15_any _).mono ?_; rintro e w' ⟨rfl, hx⟩)
    go_ret
    exact ⟨rfl, hxa.trans hx⟩
  | true =>
  have c0 := oT.cell 0
  have s0 := oS.cell 0
  have s1 := oS.cell 1
  have f0 := oS.free 0
  have f1 := oS.free 1
  have z0 := oT.lt
  have z1 := oS.lt
  have hneT : w.heap.size ≠ w.heap.size + 1 := by omega
  go_wp2
  go_region_law (first | (go_simp; go_at_call 16; refine (HAl.out _).mono ?_; rintro e w3 ⟨rfl, hx3⟩; have oS3 := (show OwnB w2.drew _ _ _ from oS).ex hx3; have s03 := oS3.cell 0; have s13 := oS3.cell 1; have f03 := oS3.free 0; have f13 := oS3.free 1; have z13 := oS3.lt; have c03 := ex_cell (show w2.drew.cell? _ = _ from c0) hx3) | (go_simp; go_at_call 15; refine (HCu.out _).mono ?_; rintro e w4 ⟨rfl, hx4⟩; have oS4 := oS3.ex hx4; have s04 := oS4.cell 0; have s14 := oS4.cell 1; have f04 := oS4.free 0; have f14 := oS4.free 1; have z14 := oS4.lt; have c04 := ex_cell c03 hx4))
  all_goals (
    have oT5 := ((((show OwnB w2.drew _ _ _ from oT).ex hx3).ex hx4).set_other (c := w.heap.size + 1) 0 (.int .u64 X) hneT.symm).set_other (c := w.heap.size + 1) 1 (.int .u64 Y) hneT.symm
    have oS5 := (oS4.set 0 (.int .u64 X)).set 1 (.int .u64 Y)
    have hx5 : Ex w ((w4.setCell ⟨w.heap.size + 1, 0, none⟩ (.int .u64 X)).setCell ⟨w.heap.size + 1, 1, none⟩ (.int .u64 Y)) := ((((hxa.trans ((Ex.refl w2).drew)).trans hx3).trans hx4).setCell (by show w.heap.size ≤ w.heap.size + 1; omega) _).setCell (by show w.heap.size ≤ w.heap.size + 1; omega) _
    clear s0 s1 f0 f1 z0 z1 c0 s03 s13 f03 f13 z13 c03 s04 s14 f04 f14 z14 c04 oS3 oS4 oT oS hx3 hx4 HAl HCu
    generalize (w4.setCell ⟨w.heap.size + 1, 0, none⟩ (.int .u64 X)).setCell ⟨w.heap.size + 1, 1, none⟩ (.int .u64 Y) = w5 at *
    have c0 := oT5.cell 0
    have c1 := oT5.cell 1
    have z0 := oT5.lt
    go_wp2_with fail
    refine (HBo.out _ hx5).mono ?_
    rintro e w6 ⟨v6, rfl, ho6, hx6⟩
    have hI6 := ho6.ints
    obtain ⟨p6, q6, rfl, i1, i2, i3⟩ := hI6
    clear i3
    have hI6 := ho6.ints
    clear ho6 c0 c1 z0 HBo
    unfold maxLen at i2
    have oT6 := oT5.ex hx6
    have oS6 := oS5.ex hx6
    replace hx6 := hx5.trans hx6
    have c0 := oT6.cell 0
    have c1 := oT6.cell 1
    have z0 := oT6.lt
    have s0 := oS6.cell 0
    have s1 := oS6.cell 1
    have z1 := oS6.lt
    clear oT5 oS5 hx5
    have HEv2 : Hid _ := HEv.out w6 hx6
    cases BB with
    | false =>
      obtain rfl := HNo.out rfl
      have hev : EV = false := by
        cases EV with
        | false => rfl
        | true => have := (HTr.out rfl).1; cases this
      subst hev
      clear HNo HEr HVa HTr HAll HEv
      have hl0 : ((([] : List Int).length : Nat) : Int) = 0 := rfl
      have hte : TE = 0 ∨ TE ≠ 0 := by omega
      rcases hte with rfl | hte
      · go_wp2_with fail
        refine Calls.mono HEv2.out ?_
        rintro e w7 ⟨rfl, hx7⟩
        go_wp2_with (refine (works15_any _).mono ?_; rintro e w' ⟨rfl, hx⟩)
        go_ret
        exact ⟨rfl, (hx6.trans hx7).trans hx⟩
      · have hteb : (TE != 0) = true := by simp [hte]
        go_wp2_with fail
        refine Calls.mono HEv2.out ?_
        rintro e w7 ⟨rfl, hx7⟩
        go_wp2_with (refine (works15_any _).mono ?_; rintro e w' ⟨rfl, hx⟩)
        go_ret
        exact ⟨rfl, (hx6.trans hx7).trans hx⟩
    | true =>
      obtain rfl := HEr.out rfl
      clear HNo HEr
      have HLoop : Hid (∀ wa, Ex w6 wa → IntsAt wa (.slice p6 BO.length q6) BO) := fun wa h => hI6.ex h
      have HAl2 : Hid (∀ wa, Ex w6 wa → EV = true → Calls Try.prog 20 #[.agg #[.int .u64 X, .int .u64 Y], .slice p6 BO.length q6] wa fun e w' => e = .returned (.bool true) ∧ Ex wa w') := fun wa h hev => by
        have := HAll.out wa _ BO (hI6.ex h)
        rwa [(HTr.out hev).2] at this
      clear HAll HTr hI6 HEv
      cases EV with
      | false =>
        clear HAl2
        go_wp2_with fail
        refine Calls.mono HEv2.out ?_
        rintro e w7 ⟨rfl, hx7⟩
        clear HEv2 s0 s1 z1 c0 c1 z0
        have hx67 := hx6.trans hx7
        have HL2 : Hid (∀ wa, Ex w7 wa → IntsAt wa (.slice p6 BO.length q6) BO) := fun wa h => HLoop.out wa (hx7.trans h)
        clear HLoop oT6 oS6
        go_wp2
        go_loopw [8] (fun iw wr => ∃ i : Nat, 1 ≤ i ∧ (i ≤ BO.length ∨ i = 1) ∧ iw = .int .i64 i ∧ Ex w7 wr) (fun iw _ => BO.length - (intOf iw).toNat)
        case atStart => exact ⟨1, Nat.le_refl _, .inr rfl, rfl, Ex.refl _⟩
        case round =>
          obtain ⟨i, i1', i2', rfl, hxr⟩ := hrel
          by_cases hlt : i < BO.length
          · obtain ⟨j, rfl⟩ : ∃ j, i = j + 1 := ⟨i - 1, by omega⟩
            have hIr := HL2.out wr hxr
            obtain ⟨_, _, hv, _, _, h3⟩ := hIr
            cases hv
            obtain ⟨b, off, hbe, hb, hc⟩ := h3 j (by omega)
            obtain ⟨b2, off2, hbe2, hb2, hc2⟩ := h3 (j + 1) hlt
            clear h3
            rw [hbe] at hbe2
            cases hbe2
            subst hbe
            have hva := HVa.out j hlt
            have hgeq : ¬ (litVar (BO.getD (j + 1) 0) ≤ litVar (BO.getD j 0)) := by omega
            have hcx := ext_cell hc
            have hcx2 := ext_cell hc2
            have HV : Hid (∀ z wa, Calls Try.prog 22 #[.int .i64 z] wa fun e w' => e = .returned (.int .i64 (litVar z)) ∧ wa = w') := fun z wa => litVar_any z wa
            have q1 : ((j + 1 : Nat) : Int) < (BO.length : Int) := by omega
            have q2 : ((j + 1 : Nat) : Int) - 1 = (j : Int) := by omega
            have q3 : (j : Int) < (BO.length : Int) := by omega
            have q4 : (0 : Int) ≤ (j : Int) := by omega
            have q5 : (0 : Int) ≤ ((j + 1 : Nat) : Int) := by omega
            clear hva HL2
            generalize BO.getD j 0 = y1 at *
            generalize BO.getD (j + 1) 0 = y2 at *
            go_wp2
            refine wp_region_quiet_ext (by kernel_rfl) (by kernel_rfl) ?_
            repeat (go_big_quiet_step ((first | (go_at_call 22; exact Calls.quiet_ext_same (HV.out _ _)) | fail)))
            refine wpQuiet_nil ?_
            intro w9 hx9
            go_wp2
            go_roundw
            case rel => exact ⟨j + 1 + 1, by omega, .inl (by omega), by go_num, hxr.trans hx9⟩
            case measure => simp [intOf]; omega
          · clear HL2 HVa
            go_wp2_with (refine (works15_any _).mono ?_; rintro e w' ⟨rfl, hx⟩)
            go_ret
            exact ⟨rfl, (hx67.trans hxr).trans hx⟩
      | true =>
        have HAl3 : Hid _ := fun wa h => HAl2.out wa h rfl
        clear HAl2
        go_wp2_with fail
        refine Calls.mono HEv2.out ?_
        rintro e w8 ⟨rfl, hx8⟩
        clear HEv2 s0 s1 z1 c0 c1 z0
        have s0 := (oS6.ex hx8).cell 0
        have s1 := (oS6.ex hx8).cell 1
        have z1 := (oS6.ex hx8).lt
        go_wp2_with fail
        refine (HAl3.out _ hx8).mono ?_
        rintro e w7 ⟨rfl, hx7⟩
        have hx67 := (hx6.trans hx8).trans hx7
        have HL2 : Hid (∀ wa, Ex w7 wa → IntsAt wa (.slice p6 BO.length q6) BO) := fun wa h => HLoop.out wa ((hx8.trans hx7).trans h)
        clear HLoop oT6 oS6 s0 s1 z1 HAl3
        go_wp2
        go_loopw [8] (fun iw wr => ∃ i : Nat, 1 ≤ i ∧ (i ≤ BO.length ∨ i = 1) ∧ iw = .int .i64 i ∧ Ex w7 wr) (fun iw _ => BO.length - (intOf iw).toNat)
        case atStart => exact ⟨1, Nat.le_refl _, .inr rfl, rfl, Ex.refl _⟩
        case round =>
          obtain ⟨i, i1', i2', rfl, hxr⟩ := hrel
          by_cases hlt : i < BO.length
          · obtain ⟨j, rfl⟩ : ∃ j, i = j + 1 := ⟨i - 1, by omega⟩
            have hIr := HL2.out wr hxr
            obtain ⟨_, _, hv, _, _, h3⟩ := hIr
            cases hv
            obtain ⟨b, off, hbe, hb, hc⟩ := h3 j (by omega)
            obtain ⟨b2, off2, hbe2, hb2, hc2⟩ := h3 (j + 1) hlt
            clear h3
            rw [hbe] at hbe2
            cases hbe2
            subst hbe
            have hva := HVa.out j hlt
            have hgeq : ¬ (litVar (BO.getD (j + 1) 0) ≤ litVar (BO.getD j 0)) := by omega
            have hcx := ext_cell hc
            have hcx2 := ext_cell hc2
            have HV : Hid (∀ z wa, Calls Try.prog 22 #[.int .i64 z] wa fun e w' => e = .returned (.int .i64 (litVar z)) ∧ wa = w') := fun z wa => litVar_any z wa
            have q1 : ((j + 1 : Nat) : Int) < (BO.length : Int) := by omega
            have q2 : ((j + 1 : Nat) : Int) - 1 = (j : Int) := by omega
            have q3 : (j : Int) < (BO.length : Int) := by omega
            have q4 : (0 : Int) ≤ (j : Int) := by omega
            have q5 : (0 : Int) ≤ ((j + 1 : Nat) : Int) := by omega
            clear hva HL2
            generalize BO.getD j 0 = y1 at *
            generalize BO.getD (j + 1) 0 = y2 at *
            go_wp2
            refine wp_region_quiet_ext (by kernel_rfl) (by kernel_rfl) ?_
            repeat (go_big_quiet_step ((first | (go_at_call 22; exact Calls.quiet_ext_same (HV.out _ _)) | fail)))
            refine wpQuiet_nil ?_
            intro w9 hx9
            go_wp2
            go_roundw
            case rel => exact ⟨j + 1 + 1, by omega, .inl (by omega), by go_num, hxr.trans hx9⟩
            case measure => simp [intOf]; omega
          · clear HL2 HVa
            go_wp2_with (refine (works15_any _).mono ?_; rintro e w' ⟨rfl, hx⟩)
            go_ret
            exact ⟨rfl, (hx67.trans hxr).trans hx⟩
  )
end Go.Proofs.Ytnhlfhoeglnajaa
