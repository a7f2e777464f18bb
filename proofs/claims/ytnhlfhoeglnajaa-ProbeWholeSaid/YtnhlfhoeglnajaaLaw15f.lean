/- Chapter 15: ProbeWhole: the walk. No condition. -/
import Derived.Test.YtnhlfhoeglnajaaLaw15b
import Derived.Test.YtnhlfhoeglnajaaWholeP
namespace Go.Proofs.Ytnhlfhoeglnajaa
set_option linter.unusedSimpArgs false
set_option linter.unusedVariables false
open Go.RowKit
set_option maxRecDepth 20000
set_option maxRecDepth 100000 in
set_option maxHeartbeats 4000000 in
theorem ProbeWhole_any (n : Int) (lv : Value) (x y : Nat) (ll : List (List Int)) (w : World) (hR : RowsAt w lv ll) (hx : x < 18446744073709551616) (hy : y < 18446744073709551616) :
    Calls Try.prog 12 #[.agg #[.int .i64 n, lv], .agg #[.int .u64 x, .int .u64 y]] w fun e w' => e = .returned (.bool true) ∧ Ex w w' := by
  have HSm : Hid (∀ wa, Ex w wa → Calls Try.prog 13 #[.agg #[.int .i64 n, lv]] wa (SmallRet wa n ll)) := fun wa h => small15_any n lv ll wa (hR.ex h)
  obtain ⟨a1, ha1⟩ : ∃ a1, a1 = (allV (min n 128).toNat).1 := ⟨_, rfl⟩
  obtain ⟨a2, ha2⟩ : ∃ a2, a2 = (allV (min n 128).toNat).2 := ⟨_, rfl⟩
  have l1 : a1 < 18446744073709551616 := ha1 ▸ (allV_lt _).1
  have l2 : a2 < 18446744073709551616 := ha2 ▸ (allV_lt _).2
  have HAl : Hid (∀ wa, Calls Try.prog 16 #[.int .i64 n] wa fun e w' => e = .returned (.agg #[.int .u64 a1, .int .u64 a2]) ∧ Ex wa w') := fun wa => by rw [ha1, ha2]; exact varsAll_wide n wa
  have HCu : Hid (∀ wa, Calls Try.prog 15 #[.agg #[.int .u64 x, .int .u64 y], .agg #[.int .u64 a1, .int .u64 a2]] wa fun e w' => e = .returned (.agg #[.int .u64 ((x &&& a1 : Nat)), .int .u64 ((y &&& a2 : Nat))]) ∧ Ex wa w') := fun wa => varsCut_any x y a1 a2 hx hy l1 l2 wa
  obtain ⟨X, hX⟩ : ∃ X, X = x &&& a1 := ⟨_, rfl⟩
  obtain ⟨Y, hY⟩ : ∃ Y, Y = y &&& a2 := ⟨_, rfl⟩
  have hX1 : X < 18446744073709551616 := hX ▸ and_lt l1
  have hY1 : Y < 18446744073709551616 := hY ▸ and_lt l2
  rw [← hX, ← hY] at HCu
  have HAs : ∀ N : Nat, n = N → theoryErr n ll = 0 → assignB X Y N = true := fun N hN ht => by
    have := (theoryErr_zero ht).2.1
    rw [hX, hY, ha1, ha2, show (min n 128).toNat = N by omega]
    exact cut_assign x y (by omega)
  clear hX hY ha1 ha2 l1 l2 hx hy
  have HEv : Hid (∀ wa, Ex w wa → Calls Try.prog 19 #[.agg #[.int .i64 n, lv], .agg #[.int .u64 X, .int .u64 Y]] wa fun e w' => e = .returned (.bool (evalB n ll X Y)) ∧ Ex wa w') := fun wa h => by
    rw [← evalT_eq hX1 hY1]; exact theoryEval_any n lv ll X Y hX1 hY1 wa (hR.ex h)
  have HAll : Hid (∀ wa u m, IntsAt wa u m → Calls Try.prog 20 #[.agg #[.int .u64 X, .int .u64 Y], u] wa fun e w' => e = .returned (.bool (m.all (holdsB X Y))) ∧ Ex wa w') := fun wa u m h => litAll_any X Y hX1 hY1 u m wa h
  have HHs : Hid (∀ (v : Int) wa, Calls Try.prog 35 #[.agg #[.int .u64 X, .int .u64 Y], .int .i64 v] wa fun e w' => e = .returned (.bool (hasB X Y v)) ∧ Ex wa w') := fun v wa => varsHas_any X Y hX1 hY1 v wa
  have HCk : Hid (∀ wa, Ex w wa → Calls Try.prog 33 #[.agg #[.int .i64 n, lv]] wa fun e w' => e = .returned (.int .i64 (theoryErr n ll)) ∧ Ex wa w') := fun wa h => theoryCheck_any n lv ll wa (hR.ex h)
  have HPr : Hid (∀ wa u m, Ex w wa → IntsAt wa u m → m.length * 8 ≤ 140737488355328 → Calls Try.prog 17 #[.agg #[.int .i64 n, lv], u] wa (TermRet wa ((probeT n ll m).getD []) (probeT n ll m).isSome)) := fun wa u m hw h hb => probeProbe_any n _ _ ll m wa (hR.ex hw) h hb
  have HWi : Hid (∀ (wa : World) (u v : Value) (a b : List Int), IntsAt wa u a → IntsAt wa v b → a.all (b.contains ·) = true → Calls Try.prog 31 #[u, v] wa fun e w' => e = .returned (.bool true) ∧ wa = w') := fun wa u v a b h k e => by
    have := within15_any u v a b wa h k
    rwa [e] at this
  have HLw : Hid (∀ N : Nat, n = N → theoryErr n ll = 0 → (evalB n ll X Y = false → probeT n ll (wholeL (X, Y) N N) = none) ∧ (evalB n ll X Y = true → ∃ r, probeT n ll (wholeL (X, Y) N N) = some r ∧ r.length = N ∧ (wholeL (X, Y) N N).all (r.contains ·) = true)) := fun N hN ht => by
    subst hN
    exact whole15 ht (HAs N rfl ht)
  obtain ⟨ra, rcap, rfl, r1, r2, r3⟩ := hR
  clear r3
  have oT := (OwnB.new w [.int .i64 n, .slice ra ll.length rcap] 24).ex (Ex.alloc _ (.cells #[.int .u64 x, .int .u64 y] 28))
  have oS := OwnB.new (w.alloc (.cells #[.int .i64 n, .slice ra ll.length rcap] 24)) [.int .u64 x, .int .u64 y] 28
  have hxa := (Ex.alloc w (.cells #[.int .i64 n, .slice ra ll.length rcap] 24)).alloc' (.cells #[.int .u64 x, .int .u64 y] 28)
  rw [alloc_size] at oS
  go_enter Try.func12, Try.ntmps12
  go_wp2_with fail
  generalize (w.alloc (.cells #[.int .i64 n, .slice ra ll.length rcap] 24)).alloc (.cells #[.int .u64 x, .int .u64 y] 28) = wa at *
  refine (HSm.out _ hxa).mono ?_
  rintro e w2a ⟨b, rfl, hb, hx2⟩
  replace hxa := hxa.trans hx2
  replace oT := oT.ex hx2
  replace oS := oS.ex hx2
  clear hx2 HSm hb
  cases b with
  | false =>
    go_wp2_with (refine (works15_any _).mono ?_; rintro e w' ⟨rfl, hx⟩)
    go_ret
    exact ⟨rfl, hxa.trans hx⟩
  | true =>
  have c0 := oT.cell 0
  have c1 := oT.cell 1
  have z0 := oT.lt
  go_wp2_with fail
  refine (HCk.out _ hxa).mono ?_
  rintro e w2 ⟨rfl, hx2b⟩
  replace hxa := hxa.trans hx2b
  replace oT := oT.ex hx2b
  replace oS := oS.ex hx2b
  clear hx2b c0 c1 z0 HCk
  by_cases hte : theoryErr n ll = 0
  rotate_left
  · have hteb : (theoryErr n ll != 0) = true := by simp [hte]
    clear HLw
    generalize theoryErr n ll = TE at *
    go_wp2_with (refine (works15_any _).mono ?_; rintro e w' ⟨rfl, hx⟩)
    go_ret
    exact ⟨rfl, hxa.trans hx⟩
  rw [hte]
  have hn0 := (theoryErr_zero hte).1
  have hn1 := (theoryErr_zero hte).2.1
  obtain ⟨N, hN⟩ : ∃ N : Nat, N = n.toNat := ⟨_, rfl⟩
  have hnN : n = (N : Int) := by omega
  subst hnN
  have HL2 : Hid _ := HLw.out N rfl hte
  clear HLw hN hte
  have hN128 : N ≤ 128 := by omega
  have HWs : Hid (∀ j, wholeL (X, Y) N (j + 1) = wholeL (X, Y) N j ++ [sideV (X, Y) ((N : Int) - j)]) := fun j => wholeL_succ _ _ _
  have HWl : Hid (∀ j, (wholeL (X, Y) N j).length = j) := fun j => wholeL_len _ _ _
  have HSd : Hid (∀ v, sideV (X, Y) v = if hasB X Y v then v else -v) := fun v => rfl
  have c0 := oT.cell 0
  have s0 := oS.cell 0
  have s1 := oS.cell 1
  have f0 := oS.free 0
  have f1 := oS.free 1
  have z0 := oT.lt
  have z1 := oS.lt
  have hneT : w.heap.size ≠ w.heap.size + 1 := by omega
  go_wp2
  have hSB : Hid (w.heap.size + 1 = w.heap.size + 1) := rfl
  apply wp_mono (Q := AfterQ _ fun w' => OwnB w' w.heap.size [.int .i64 N, .slice ra ll.length rcap] 24 ∧ OwnB w' (w.heap.size + 1) [.int .u64 X, .int .u64 Y] 28 ∧ Ex w w')
  case h =>
    go_region_law (first | (go_simp; go_at_call 16; refine (HAl.out _).mono ?_; rintro e w3 ⟨rfl, hx3⟩; have oS3 := (show OwnB w2.drew _ _ _ from oS).ex hx3; have s03 := oS3.cell 0; have s13 := oS3.cell 1; have f03 := oS3.free 0; have f13 := oS3.free 1; have z13 := oS3.lt; have c03 := ex_cell (show w2.drew.cell? _ = _ from c0) hx3) | (go_simp; go_at_call 15; refine (HCu.out _).mono ?_; rintro e w4 ⟨rfl, hx4⟩; have oS4 := oS3.ex hx4; have s04 := oS4.cell 0; have s14 := oS4.cell 1; have f04 := oS4.free 0; have f14 := oS4.free 1; have z14 := oS4.lt; have c04 := ex_cell c03 hx4))
    all_goals exact ⟨rfl, ((((show OwnB w2.drew _ _ _ from oT).ex hx3).ex hx4).set_other (c := w.heap.size + 1) 0 (.int .u64 X) hneT.symm).set_other (c := w.heap.size + 1) 1 (.int .u64 Y) hneT.symm, (oS4.set 0 (.int .u64 X)).set 1 (.int .u64 Y), ((((hxa.trans ((Ex.refl w2).drew)).trans hx3).trans hx4).setCell (by show w.heap.size ≤ w.heap.size + 1; omega) _).setCell (by show w.heap.size ≤ w.heap.size + 1; omega) _⟩
  refine AfterQ.out ?_
  rintro w5 ⟨oT5, oS5, hx5⟩
  clear s0 s1 f0 f1 z0 z1 c0 oT oS HAl HCu hSB
  generalize w.heap.size + 1 = SB at *
  have c0 := oT5.cell 0
  have c1 := oT5.cell 1
  have z0 := oT5.lt
  go_wp2
  go_loopw [5, 6] (fun out vv wr => ∃ j : Nat, j ≤ N ∧ vv = .int .i64 ((N : Int) - j) ∧ OwnI wr w5.heap.size out (wholeL (X, Y) N j) ∧ Ex w5 wr) (fun _ vv _ => (intOf vv).toNat)
  case atStart => exact ⟨0, Nat.zero_le _, by simp, OwnI.nil _ _, Ex.refl _⟩
  case round =>
    obtain ⟨j, hj, rfl, hO, hxr⟩ := hrel
    have oSr := oS5.ex hxr
    have oTr := oT5.ex hxr
    clear c0 c1 z0
    by_cases hlt : j < N
    · have s0 := oSr.cell 0
      have s1 := oSr.cell 1
      have z1 := oSr.lt
      obtain ⟨v, hv⟩ : ∃ v : Int, v = (N : Int) - j := ⟨_, rfl⟩
      have HV : Hid _ := hv
      have q1 : 1 ≤ v := by omega
      have q2 : v ≤ 128 := by omega
      have HHv : Hid _ := HHs.out v wr
      have hW := HWs.out j
      have hsd := HSd.out v
      have hWl : Hid ((wholeL (X, Y) N j).length = j) := HWl.out j
      rw [← hv] at hW ⊢
      clear hv HL2 HPr HWi HEv
      cases hh : hasB X Y v with
      | true =>
        have hsd' : sideV (X, Y) v = v := by rw [hsd, hh]; rfl
        rw [hsd'] at hW
        have hW2 : Hid _ := hW
        have HHv' := HHv.out
        rw [hh] at HHv'
        have HH2 : Hid _ := HHv'
        clear hW hsd hsd' hh HHv HHv' HWs HWl HSd HHs
        go_wp2_with fail
        refine Calls.mono HH2.out ?_
        rintro e w6 ⟨rfl, hx6⟩
        clear s0 s1 z1 HH2
        have hI := intsAt_fresh w6 v 3
        go_wp2_with (at_builtin; refine wpList_append_ints rfl (.tmp 32) (.tmp 34) rfl rfl rfl ((hO.ex hx6).ex (Ex.alloc _ _)) hI ?c1 ?c2 ?_)
        case c1 => rw [hWl.out]; simp only [List.length_cons, List.length_nil]; omega
        case c2 => have := hx6.size; have := hxr.size; rw [alloc_size]; omega
        intro v8 w8 hown hg
        have hx8 : Ex w5 w8 := grown_ex ((hxr.trans hx6).alloc' _) hg (ownsRow_block hO)
        rw [← hW2.out] at hown
        clear hg hI hO
        go_wp2
        go_roundw
        case rel => exact ⟨j + 1, by omega, by rw [HV.out]; go_num, hown, hx8⟩
        case measure => have := HV.out; simp [intOf]; omega
      | false =>
        have hsd' : sideV (X, Y) v = -v := by rw [hsd, hh]; rfl
        rw [hsd'] at hW
        have hW2 : Hid _ := hW
        have HHv' := HHv.out
        rw [hh] at HHv'
        have HH2 : Hid _ := HHv'
        clear hW hsd hsd' hh HHv HHv' HWs HWl HSd HHs
        go_wp2_with fail
        refine Calls.mono HH2.out ?_
        rintro e w6 ⟨rfl, hx6⟩
        clear s0 s1 z1 HH2
        have hI := intsAt_fresh w6 (-v) 3
        go_wp2_with (at_builtin; refine wpList_append_ints rfl (.tmp 36) (.tmp 39) rfl rfl rfl ((hO.ex hx6).ex (Ex.alloc _ _)) hI ?c1 ?c2 ?_)
        case c1 => rw [hWl.out]; simp only [List.length_cons, List.length_nil]; omega
        case c2 => have := hx6.size; have := hxr.size; rw [alloc_size]; omega
        intro v8 w8 hown hg
        have hx8 : Ex w5 w8 := grown_ex ((hxr.trans hx6).alloc' _) hg (ownsRow_block hO)
        rw [← hW2.out] at hown
        clear hg hI hO
        go_wp2
        go_roundw
        case rel => exact ⟨j + 1, by omega, by rw [HV.out]; go_num, hown, hx8⟩
        case measure => have := HV.out; simp [intOf]; omega
    · obtain rfl : j = N := by omega
      have hIw := hO.ints
      obtain ⟨pw, qw, rfl, _, _, _⟩ := hIw
      have hIw := hO.ints
      have hll := HWl.out j
      have hP1 : Hid _ := HPr.out wr _ _ (hx5.trans hxr) hIw (by rw [hll]; omega)
      have HEv2 : Hid (∀ wa, Ex wr wa → Calls Try.prog 19 #[.agg #[.int .i64 j, .slice ra ll.length rcap], .agg #[.int .u64 X, .int .u64 Y]] wa fun e w' => e = .returned (.bool (evalB j ll X Y)) ∧ Ex wa w') := fun wa h => HEv.out wa ((hx5.trans hxr).trans h)
      clear HPr HHs HWs HWl HSd HEv hO
      generalize wholeL (X, Y) j j = WL at *
      generalize probeT j ll WL = PO at *
      have c0 := oTr.cell 0
      have c1 := oTr.cell 1
      have z0 := oTr.lt
      have hl8 : Hid (WL.length = j) := hll
      have hsub : ((j : Nat) : Int) - ((j : Nat) : Int) = 0 := by omega
      clear hll
      go_wp2_with fail
      refine Calls.mono hP1.out ?_
      rintro e w6 ⟨v6, rfl, ho6, hx6⟩
      have hI6 := ho6.ints
      obtain ⟨p6, q6, rfl, _, _, _⟩ := hI6
      have hI6 := ho6.ints
      replace hIw := hIw.ex hx6
      clear ho6 c0 c1 z0 hP1
      have c0 := (oTr.ex hx6).cell 0
      have c1 := (oTr.ex hx6).cell 1
      have z0 := (oTr.ex hx6).lt
      have s0 := (oSr.ex hx6).cell 0
      have s1 := (oSr.ex hx6).cell 1
      have z1 := (oSr.ex hx6).lt
      have HE3 : Hid _ := HEv2.out w6 hx6
      cases hev : evalB j ll X Y with
      | false =>
        have hpo := HL2.out.1 hev
        subst hpo
        have HE4 := HE3.out
        rw [hev] at HE4
        have HE5 : Hid _ := HE4
        clear HL2 HE3 HE4 HEv2 hI6 hIw HWi hev
        have hl0 : ((((none : Option (List Int)).getD []).length : Nat) : Int) = 0 := rfl
        have hs0 : ((none : Option (List Int)).isSome) = false := rfl
        go_wp2_with fail
        refine Calls.mono HE5.out ?_
        rintro e w7 ⟨rfl, hx7⟩
        go_wp2_with (refine (works15_any _).mono ?_; rintro e w' ⟨rfl, hx⟩)
        go_ret
        exact ⟨rfl, (((hx5.trans hxr).trans hx6).trans hx7).trans hx⟩
      | true =>
        obtain ⟨r, hr, hlen, hall⟩ := HL2.out.2 hev
        subst hr
        have HE4 := HE3.out
        rw [hev] at HE4
        have HE5 : Hid _ := HE4
        have H1 : Hid _ := hall
        have hJ6 : IntsAt w6 (.slice p6 r.length q6) r := hI6
        have hgd : ((some r).getD []).length = r.length := rfl
        have hgs : (some r).isSome = true := rfl
        have hleq : ((r.length : Int) == (j : Int)) = true := by simp [hlen]
        clear HL2 HE3 HE4 HEv2 hI6 hev hall hlen
        go_wp2_with fail
        refine Calls.mono HE5.out ?_
        rintro e w7 ⟨rfl, hx7⟩
        clear c0 c1 z0 s0 s1 z1 HE5
        have c0 := ((oTr.ex hx6).ex hx7).cell 0
        have z0 := ((oTr.ex hx6).ex hx7).lt
        go_wp2_with fail
        refine (HWi.out _ _ _ _ _ (hIw.ex hx7) (hJ6.ex hx7) H1.out).mono ?_
        rintro e w8 ⟨rfl, rfl⟩
        go_wp2_with (refine (works15_any _).mono ?_; rintro e w' ⟨rfl, hx⟩)
        go_ret
        exact ⟨rfl, (((hx5.trans hxr).trans hx6).trans hx7).trans hx⟩
end Go.Proofs.Ytnhlfhoeglnajaa
