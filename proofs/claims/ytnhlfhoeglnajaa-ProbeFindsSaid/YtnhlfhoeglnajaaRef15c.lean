/- The reference of probing: step. No condition but that the theory is valid. -/
import Derived.Test.YtnhlfhoeglnajaaRef15b
import Derived.Deep.RegionHeld3
namespace Go.Proofs.Ytnhlfhoeglnajaa
set_option linter.unusedSimpArgs false
set_option linter.unusedVariables false
open Go.RowKit
set_option maxRecDepth 20000
theorem stepTo_len {n : Nat} {ll : List (List Int)} {c : List Int} (hc : c.length ≤ 256) (hn : n ≤ 128) {j : Nat} (hj : j ≤ n) : (stepTo n ll c j).length ≤ 512 := by
  obtain ⟨e, h1, h2⟩ := stepTo_grow (n := n) (ll := ll) (c := c) j
  rw [h1, List.length_append]; omega
set_option maxRecDepth 100000 in
set_option maxHeartbeats 8000000 in
theorem r15step_any (n : Nat) (lv fv : Value) (ll : List (List Int)) (f : List Int) (w : World) (hn : n ≤ 128) (hR : RowsAt w lv ll) (hf : IntsAt w fv f) :
    Calls Try.prog 50 #[.agg #[.int .i64 n, lv], fv] w (TermRet w (if closB n ll f then stepTo n ll (closL n ll f) n else []) (closB n ll f)) := by
  have HCl : Hid (∀ wa u (m : List Int), Ex w wa → IntsAt wa u m → Calls Try.prog 74 #[.agg #[.int .i64 n, lv], u] wa (TermRet wa (closL n ll m) (closB n ll m))) := fun wa u m hx h => r12Closure_any n lv u ll m wa (hR.ex hx) h
  have HWi : Hid (∀ wa u (m : List Int) (x : Int), IntsAt wa u m → m.length ≤ 1000 → Calls Try.prog 75 #[u, .int .i64 x] wa (OrdRet wa (m ++ [x]))) := fun wa u m x h hl => r15with_any u m x wa h hl
  have HIn : Hid (∀ wa u (m : List Int) (x : Int), IntsAt wa u m → Calls Try.prog 57 #[u, .int .i64 x] wa fun e w' => e = .returned (.bool (m.contains x)) ∧ wa = w') := fun wa u m x h => r15in_any u m x wa h
  have hf0 := hf
  obtain ⟨ra, rcap, rfl, r1, r2, r3⟩ := hR
  obtain ⟨pa, pcap, rfl, p1, p2, p3⟩ := hf
  clear r3 p3
  have hbox := OwnB.new w [.int .i64 n, .slice ra ll.length rcap] 24
  have hxa := Ex.alloc w (.cells #[.int .i64 n, .slice ra ll.length rcap] 24)
  have HC1 : Hid _ := HCl.out _ _ f hxa (hf0.ex hxa)
  have hCL : (closL n ll f).length ≤ 256 := closL_len
  obtain ⟨RL, hRL⟩ : ∃ RL, RL = (if closB n ll f then stepTo n ll (closL n ll f) n else []) := ⟨_, rfl⟩
  rw [← hRL]
  have HRL : Hid _ := hRL
  clear hRL
  generalize closL n ll f = C at *
  generalize closB n ll f = CB at *
  go_enter Try.func50, Try.ntmps50
  go_wp2_with fail
  refine Calls.mono HC1.out ?_
  rintro e w2 ⟨v2, rfl, ho2, hx2⟩
  have hI2 := ho2.ints
  obtain ⟨p2', q2', rfl, _, _, _⟩ := hI2
  have hxw : Ex w w2 := hxa.trans hx2
  have hb2 := hbox.ex hx2
  clear HC1 hbox hxa hx2
  cases CB with
  | false =>
    go_wp2
    refine bodyPost_ret (v := .tuple #[.slice none 0 0, .bool false]) (by simp [results, Try.results50, go_sem]) rfl ?_
    exact ⟨_, rfl, by rw [HRL.out]; exact OwnI.nil _ _, hxw⟩
  | true =>
  have HRT : Hid (RL = stepTo n ll C n) := HRL.out
  clear HRL
  have HSt : Hid (∀ j, stepTo n ll C (j + 1) = stepOne n ll (stepTo n ll C j) ((n : Int) - j)) := fun j => rfl
  have HLe : Hid (∀ j, j ≤ n → (stepTo n ll C j).length ≤ 512) := fun j hj => stepTo_len hCL hn hj
  have h0 : OwnI w2 w.heap.size (.slice p2' C.length q2') (stepTo n ll C 0) := ho2.base (by simp)
  clear ho2 hCL
  have c0 := hb2.cell 0
  have c1 := hb2.cell 1
  have z0 := hb2.lt
  go_wp2
  clear c0 c1 z0
  go_loopw [6, 8] (fun cv vv wr => ∃ j : Nat, j ≤ n ∧ vv = .int .i64 ((n : Int) - j) ∧ OwnI wr w.heap.size cv (stepTo n ll C j) ∧ Ex w2 wr) (fun _ vv _ => (intOf vv).toNat)
  case atStart => exact ⟨0, Nat.zero_le _, by simp, h0, Ex.refl _⟩
  case round =>
    clear h0
    obtain ⟨j, hj, rfl, hO, hxr⟩ := hrel
    have hbr := hb2.ex hxr
    by_cases hlt : j < n
    · have hst : Hid (stepTo n ll C (j + 1) = stepOne n ll (stepTo n ll C j) ((n : Int) - j)) := HSt.out j
      have hle := HLe.out j hj
      obtain ⟨X', hX'⟩ : ∃ X', X' = stepTo n ll C (j + 1) := ⟨_, rfl⟩
      have hle2 : X'.length ≤ 512 := by rw [hX']; exact HLe.out (j + 1) hlt
      have HX : Hid _ := hX'
      have hst2 : Hid (X' = stepOne n ll (stepTo n ll C j) ((n : Int) - j)) := hX'.trans hst.out
      clear hst hX' HSt HLe
      generalize stepTo n ll C j = D at *
      obtain ⟨v, hv⟩ : ∃ v : Int, v = (n : Int) - j := ⟨_, rfl⟩
      rw [← hv] at hst2 ⊢
      have HV : Hid _ := hv
      have q1 : 1 ≤ v := by omega
      have q2 : v ≤ 128 := by omega
      clear hv
      have hID := hO.ints
      obtain ⟨pd, qd, rfl, _, _, _⟩ := hID
      have hID := hO.ints
      have c0 := hbr.cell 0
      have c1 := hbr.cell 1
      have z0 := hbr.lt
      have hd1 : D.length ≤ 1000 := by omega
      have HSO : Hid (X' = if D.contains v || D.contains (-v) then D else if closB n ll (D ++ [-v]) then (if closB n ll (D ++ [v]) then D else D ++ [-v]) else (if closB n ll (D ++ [v]) then D else D ++ [-v]) ++ [v]) := hst2.out
      have HC1 : Hid (∀ wa u, Ex w wa → IntsAt wa u (D ++ [v]) → Calls Try.prog 74 #[.agg #[.int .i64 n, .slice ra ll.length rcap], u] wa (TermRet wa (closL n ll (D ++ [v])) (closB n ll (D ++ [v])))) := fun wa u hx h => HCl.out wa u _ hx h
      have HC2 : Hid (∀ wa u, Ex w wa → IntsAt wa u (D ++ [-v]) → Calls Try.prog 74 #[.agg #[.int .i64 n, .slice ra ll.length rcap], u] wa (TermRet wa (closL n ll (D ++ [-v])) (closB n ll (D ++ [-v])))) := fun wa u hx h => HCl.out wa u _ hx h
      have HW1 : Hid (∀ wa u, IntsAt wa u D → Calls Try.prog 75 #[u, .int .i64 v] wa (OrdRet wa (D ++ [v]))) := fun wa u h => HWi.out wa u D v h hd1
      have HW2 : Hid (∀ wa u, IntsAt wa u D → Calls Try.prog 75 #[u, .int .i64 (-v)] wa (OrdRet wa (D ++ [-v]))) := fun wa u h => HWi.out wa u D (-v) h hd1
      have hxwr : Ex w wr := hxw.trans hxr
      have hwv : IntKind.i64.wrap (-v) = -v := IntWalk.i64_in _ (by omega)
      clear hst2 HCl
      obtain ⟨E1, hE1⟩ : ∃ E1, E1 = D ++ [v] := ⟨_, rfl⟩
      obtain ⟨E2, hE2⟩ : ∃ E2, E2 = D ++ [-v] := ⟨_, rfl⟩
      have HE1 : Hid _ := hE1
      have HE2 : Hid _ := hE2
      rw [← hE1] at HC1 HW1 HSO
      rw [← hE2] at HC2 HW2 HSO
      clear hE1 hE2
      generalize closL n ll E1 = CLy at *
      generalize closB n ll E1 = CY at *
      generalize closL n ll E2 = CLn at *
      generalize closB n ll E2 = CN at *
      go_wp2
      go_region_held3 (fun w' => w'.cell? ⟨w.heap.size, 0, none⟩ = some (.int .i64 n) ∧ w'.cell? ⟨w.heap.size, 1, none⟩ = some (.slice ra ll.length rcap)) (first | exact ⟨c0, c1⟩ | exact ⟨c03, c13⟩ | exact ⟨c04, c14⟩ | go_keep) (first | (go_at_call 75; refine (HW1.out _ _ (hID.ex (Ex.refl _).drew)).mono ?_; rintro e w3 ⟨v3, rfl, ho3, hx3⟩; have hI3 := ho3.ints; obtain ⟨p3, q3, rfl, _, _, _⟩ := hI3; have hI3 := ho3.ints; have c03 := ex_cell (show wr.drew.cell? _ = _ from c0) hx3; have c13 := ex_cell (show wr.drew.cell? _ = _ from c1) hx3) | (go_at_call 74; refine (HC1.out _ _ ((hxwr.trans (Ex.refl _).drew).trans hx3) hI3).mono ?_; rintro e w4 ⟨v4, rfl, ho4, hx4⟩; have c04 := ex_cell c03 hx4; have c14 := ex_cell c13 hx4) | fail)
      have hx14 : Ex wr w4 := ((Ex.refl wr).drew.trans hx3).trans hx4
      have hID4 := hID.ex hx14
      have hbr4 := hbr.ex hx14
      have hO4 := hO.ex hx14
      clear ho3 ho4 hI3 c0 c1 z0 c03 c13 hx3 hx4 HC1 HW1 hID hO hbr
      go_wp2
      go_region_held3 (fun w' => w'.cell? ⟨w.heap.size, 0, none⟩ = some (.int .i64 n) ∧ w'.cell? ⟨w.heap.size, 1, none⟩ = some (.slice ra ll.length rcap)) (first | exact ⟨c04, c14⟩ | exact ⟨c05, c15⟩ | exact ⟨c06, c16⟩ | go_keep) (first | (go_at_call 75; refine (HW2.out _ _ (hID4.ex (Ex.refl _).drew)).mono ?_; rintro e w5 ⟨v5, rfl, ho5, hx5⟩; have hI5 := ho5.ints; obtain ⟨p5, q5, rfl, _, _, _⟩ := hI5; have hI5 := ho5.ints; have c05 := ex_cell (show w4.drew.cell? _ = _ from c04) hx5; have c15 := ex_cell (show w4.drew.cell? _ = _ from c14) hx5) | (go_at_call 74; refine (HC2.out _ _ (((hxwr.trans hx14).trans (Ex.refl _).drew).trans hx5) hI5).mono ?_; rintro e w6 ⟨v6, rfl, ho6, hx6⟩; have c06 := ex_cell c05 hx6; have c16 := ex_cell c15 hx6) | fail)
      have hx46 : Ex w4 w6 := ((Ex.refl w4).drew.trans hx5).trans hx6
      have hID6 := hID4.ex hx46
      have hO6 := hO4.ex hx46
      have hx26 := hxr.trans (hx14.trans hx46)
      have HI1 : Hid _ := HIn.out w6 _ D v hID6
      have HI2 : Hid _ := HIn.out w6 _ D (-v) hID6
      clear ho5 ho6 hI5 c04 c14 c05 c15 c06 c16 hx5 hx6 hx14 hx46 HC2 HW2 hID4 hO4 hbr4
      have hxw6 : w.heap.size ≤ w6.heap.size := (hxw.trans hx26).size
      clear hxwr
      by_cases hc1 : D.contains v = true
      · have HX2 : Hid (X' = D) := by show _ = _; rw [HSO.out, hc1]; rfl
        have H1 := HI1.out
        rw [hc1] at H1
        have H1' : Hid _ := H1
        clear H1 HI1 HI2 HSO HE1 HE2 hc1 HWi
        go_wp2_with fail
        refine Calls.mono H1'.out ?_
        rintro e w7 ⟨rfl, rfl⟩
        clear H1'
        go_wp2
        go_roundw
        case rel => exact ⟨j + 1, hlt, by rw [HV.out]; go_num, by rw [← HX.out, HX2.out]; exact hO6, hx26⟩
        case measure => have := HV.out; simp [intOf]; omega
      have hc1' : D.contains v = false := by simpa using hc1
      have H1 := HI1.out
      rw [hc1'] at H1
      have H1' : Hid _ := H1
      clear H1 HI1 hc1
      by_cases hc2 : D.contains (-v) = true
      · have HX2 : Hid (X' = D) := by show _ = _; rw [HSO.out, hc2, Bool.or_true]; rfl
        have H2 := HI2.out
        rw [hc2] at H2
        have H2' : Hid _ := H2
        clear H2 HI2 HSO HE1 HE2 hc2 hc1' HWi
        go_wp2_with fail
        refine Calls.mono H1'.out ?_
        rintro e w7 ⟨rfl, rfl⟩
        clear H1'
        go_wp2_with fail
        refine Calls.mono H2'.out ?_
        rintro e w7 ⟨rfl, rfl⟩
        clear H2'
        go_wp2
        go_roundw
        case rel => exact ⟨j + 1, hlt, by rw [HV.out]; go_num, by rw [← HX.out, HX2.out]; exact hO6, hx26⟩
        case measure => have := HV.out; simp [intOf]; omega
      have hc2' : D.contains (-v) = false := by simpa using hc2
      have HS3 : Hid (X' = if CN = true then (if CY = true then D else E2) else (if CY = true then D else E2) ++ [v]) := by show _ = _; rw [HSO.out, hc1', hc2']; rfl
      have H2 := HI2.out
      rw [hc2'] at H2
      have H2' : Hid _ := H2
      clear H2 HI2 HSO hc2 hc2' hc1'
      cases CY with
      | true =>
        cases CN with
        | true =>
          have HX2 : Hid (X' = D) := HS3.out
          clear HS3 HWi
          go_wp2_with fail
          refine Calls.mono H1'.out ?_
          rintro e w7 ⟨rfl, rfl⟩
          clear H1'
          go_wp2_with fail
          refine Calls.mono H2'.out ?_
          rintro e w7 ⟨rfl, rfl⟩
          clear H2'
          go_wp2
          go_roundw
          case rel => exact ⟨j + 1, hlt, by rw [HV.out]; go_num, by rw [← HX.out, HX2.out]; exact hO6, hx26⟩
          case measure => have := HV.out; simp [intOf]; omega
        | false =>
          have HX2 : Hid (X' = D ++ [v]) := HS3.out
          have HW : Hid _ := HWi.out w6 _ D v hID6 hd1
          clear HS3 HWi
          go_wp2_with fail
          refine Calls.mono H1'.out ?_
          rintro e w7 ⟨rfl, rfl⟩
          clear H1'
          go_wp2_with fail
          refine Calls.mono H2'.out ?_
          rintro e w7 ⟨rfl, rfl⟩
          clear H2'
          go_wp2_with fail
          refine Calls.mono HW.out ?_
          rintro e w7 ⟨v7, rfl, ho7, hx7⟩
          clear HW
          go_wp2
          go_roundw
          case rel => exact ⟨j + 1, hlt, by rw [HV.out]; go_num, by rw [← HX.out, HX2.out]; exact ho7.base hxw6, hx26.trans hx7⟩
          case measure => have := HV.out; simp [intOf]; omega
      | false =>
        have HW : Hid _ := HWi.out w6 _ D (-v) hID6 hd1
        cases CN with
        | true =>
          have HX2 : Hid (X' = D ++ [-v]) := by show _ = _; rw [HS3.out, HE2.out]; rfl
          clear HS3 HWi HE1 HE2
          go_wp2_with fail
          refine Calls.mono H1'.out ?_
          rintro e w7 ⟨rfl, rfl⟩
          clear H1'
          go_wp2_with fail
          refine Calls.mono H2'.out ?_
          rintro e w7 ⟨rfl, rfl⟩
          clear H2'
          go_wp2_with fail
          refine Calls.mono HW.out ?_
          rintro e w7 ⟨v7, rfl, ho7, hx7⟩
          clear HW
          go_wp2
          go_roundw
          case rel => exact ⟨j + 1, hlt, by rw [HV.out]; go_num, by rw [← HX.out, HX2.out]; exact ho7.base hxw6, hx26.trans hx7⟩
          case measure => have := HV.out; simp [intOf]; omega
        | false =>
          have HX2 : Hid (X' = D ++ [-v] ++ [v]) := by show _ = _; rw [HS3.out, HE2.out]; rfl
          have hd2 : (D ++ [-v]).length ≤ 1000 := by rw [List.length_append, List.length_singleton]; omega
          clear HS3 HE1 HE2
          go_wp2_with fail
          refine Calls.mono H1'.out ?_
          rintro e w7 ⟨rfl, rfl⟩
          clear H1'
          go_wp2_with fail
          refine Calls.mono H2'.out ?_
          rintro e w7 ⟨rfl, rfl⟩
          clear H2'
          go_wp2_with fail
          refine Calls.mono HW.out ?_
          rintro e w7 ⟨v7, rfl, ho7, hx7⟩
          obtain ⟨p7, q7, e7, _, _, _⟩ := ho7.ints
          rw [List.length_append, List.length_singleton] at e7
          subst e7
          have HW2 : Hid _ := HWi.out w7 _ (D ++ [-v]) v ho7.ints hd2
          clear HW ho7 HWi hd2
          go_wp2_with fail
          refine Calls.mono HW2.out ?_
          rintro e w8 ⟨v8, rfl, ho8, hx8⟩
          have hb8 : w.heap.size ≤ w7.heap.size := Nat.le_trans hxw6 hx7.size
          clear HW2
          go_wp2
          go_roundw
          case rel => exact ⟨j + 1, hlt, by rw [HV.out]; go_num, by rw [← HX.out, HX2.out]; exact ho8.base hb8, (hx26.trans hx7).trans hx8⟩
          case measure => have := HV.out; simp [intOf]; omega
    · obtain rfl : j = n := by omega
      clear HSt HLe
      go_wp2
      go_ret2
      exact ⟨_, rfl, by rw [HRT.out]; exact hO, hxw.trans hxr⟩
end Go.Proofs.Ytnhlfhoeglnajaa
