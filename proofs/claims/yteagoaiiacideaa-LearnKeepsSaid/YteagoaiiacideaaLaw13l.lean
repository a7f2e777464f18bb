/- Chapter 13: LearnKeeps: the walk. No condition. -/
import Derived.Test.YteagoaiiacideaaLaw13j
import Derived.Test.YteagoaiiacideaaLearn5
namespace Go.Proofs.Yteagoaiiacideaa
set_option linter.unusedSimpArgs false
set_option linter.unusedVariables false
open Go.RowKit
set_option maxRecDepth 20000
/-- Literals that are false by a trail's steps. -/
def FalseL (tr : List St) (c : List Int) : Prop := ∀ y ∈ c, ∃ j, j < tr.length ∧ y = -sL tr j
theorem FalseL.nil (tr : List St) : FalseL tr [] := fun y hy => by cases hy
theorem FalseL.add {tr : List St} {c : List Int} (h : FalseL tr c) {j : Nat} (hj : j < tr.length) : FalseL tr (c ++ [-sL tr j]) := fun y hy => by
  rcases List.mem_append.1 hy with hy | hy
  · exact h y hy
  · rw [List.mem_singleton] at hy; exact ⟨j, hj, hy⟩
theorem FalseL.ok {n : Int} {ll : List (List Int)} {tr : List St} (hE : theoryErr n ll = 0) (hB : trailB n ll tr = true) {c : List Int} (h : FalseL tr c) : redOk n ll tr c = true :=
  redOk_iff.2 ⟨hE, hB, fun y hy => by
    obtain ⟨j, hj, rfl⟩ := h y hy
    refine ⟨lit_valid_neg ((trl_of hB).val j hj), ?_⟩
    rw [Int.neg_neg]
    exact trueT_iff.2 ⟨tr.getD j default, by rw [getD_getElem hj]; exact List.getElem_mem hj, rfl⟩⟩
theorem firstL_false {n : Int} {ll : List (List Int)} {tr : List St} {cf : Int} : FalseL tr (firstL n ll tr cf) := fun y hy => by
  obtain ⟨h, hp⟩ := firstL_some (List.ne_nil_of_mem hy)
  obtain ⟨k, hk, _, e⟩ := (firstL_mem h hp).1 hy
  exact ⟨k, hk, e⟩
/-- What Redundant says of false literals. -/
theorem red_facts {n : Nat} {ll : List (List Int)} {tr : List St} {c : List Int} (h : redOk n ll tr c = true) : redE n ll tr c = 0 ∧ (∀ y ∈ c, litValid y n = true) ∧ (∀ y ∈ redL n ll tr c, litValid y n = true ∧ 0 < levelOf tr y) ∧ (impB n ll c = true → impB n ll (redL n ll tr c) = true) ∧ (modB n ll c = true → modB n ll (redL n ll tr c) = true) := by
  obtain ⟨h1, h2, h3⟩ := redOk_iff.1 h
  refine ⟨by unfold redE; rw [if_pos h], fun y hy => (h3 y hy).1, fun y hy => ⟨?_, red_level h y hy⟩, red_implied h, fun hm => modB_iff.2 fun k hk he => red_model h he (modB_iff.1 hm k hk he)⟩
  obtain ⟨k, hk, _, rfl⟩ := (redL_mem h).1 hy
  exact lit_valid_neg ((trl_of h2).val k hk)
theorem redL_len {n : Int} {ll : List (List Int)} {tr : List St} {c : List Int} (h : redOk n ll tr c = true) : (redL n ll tr c).length ≤ tr.length := by
  have hnd : (redL n ll tr c).Nodup := by
    unfold redL
    rw [if_pos h]
    refine List.Pairwise.imp ?_ (orderL_strict _)
    intro a b hab e
    subst e
    exact Int.lt_irrefl _ hab
  have hsub : ∀ y ∈ redL n ll tr c, y ∈ tr.map fun s => -s.lit := fun y hy => by
    obtain ⟨k, hk, _, rfl⟩ := (redL_mem h).1 hy
    refine List.mem_map.2 ⟨tr.getD k default, by rw [getD_getElem hk]; exact List.getElem_mem hk, rfl⟩
  have := len_le_of_sub _ _ hnd hsub
  rwa [List.length_map] at this
set_option maxRecDepth 100000 in
set_option maxHeartbeats 8000000 in
theorem LearnKeeps_any (n : Int) (lv : Value) (nb : Int) (kv : Value) (P : Int) (ll : List (List Int)) (ks : List Int) (w : World) (hR : RowsAt w lv ll) (hw : ∀ c ∈ ll, ∀ y ∈ c, (Lit.int .i64 y).wf = true) (hnb : 0 ≤ nb ∧ nb < 256) (hk : BytesAt w kv ks) (hks : ∀ k ∈ ks, 0 ≤ k ∧ k < 256) (hP : (Lit.int .u64 P).wf = true) :
    Calls Try.prog 9 #[.agg #[.int .i64 n, lv, .int .u8 nb, kv], .int .u64 P] w fun e w' => e = .returned (.bool true) ∧ Ex w w' := by
  have HLi : Hid (∀ wa, Ex w wa → Calls Try.prog 24 #[.agg #[.int .i64 n, lv, .int .u8 nb, kv]] wa (AskRet wa ll ks)) := fun wa hx => askLight_any n nb lv kv ll ks wa (hR.ex hx) (hk.ex hx)
  have HSe : Hid ((ll.length ≤ 60 ∧ ∀ c ∈ ll, c.length ≤ 140) → ks.length ≤ 30 → ∀ wa, Ex w wa → Calls Try.prog 25 #[.agg #[.int .i64 n, lv, .int .u8 nb, kv]] wa (SetRet wa)) := fun h1 h2 wa hx => setting13_any n nb lv kv ll ks wa (hR.ex hx) (hk.ex hx) hnb hks h1 h2 hw
  obtain ⟨ra, rcap, rfl, _, _, r3⟩ := hR
  obtain ⟨ka, kcap, rfl, _, _, k3⟩ := hk
  clear r3 k3 hw hks hnb
  have o := OwnB.new w [.int .i64 n, .slice ra ll.length rcap, .int .u8 nb, .slice ka ks.length kcap] 46
  have hxa := Ex.alloc w (.cells #[.int .i64 n, .slice ra ll.length rcap, .int .u8 nb, .slice ka ks.length kcap] 46)
  go_enter Try.func9, Try.ntmps9
  go_wp2_with fail
  refine (HLi.out _ hxa).mono ?_
  rintro e w2 ⟨b, rfl, hb, hx2⟩
  replace o := o.ex hx2
  replace hxa := hxa.trans hx2
  clear hx2 HLi
  cases b with
  | false =>
    clear hb
    go_wp2_with (refine (works13_any _).mono ?_; rintro e w' ⟨rfl, hx⟩)
    go_ret
    exact ⟨rfl, hxa.trans hx⟩
  | true =>
  obtain ⟨hb1, hb2⟩ := hb rfl
  have HSe2 : Hid _ := HSe.out hb1 hb2
  clear hb hb1 hb2 HSe
  have c0 := o.cell 0
  have c1 := o.cell 1
  have c2 := o.cell 2
  have c3 := o.cell 3
  have z0 := o.lt
  go_wp2_with fail
  refine (HSe2.out _ hxa).mono ?_
  rintro e w3 ⟨N, lv2, sv2, ld, ds, rfl, hN, hTh, hds, hE, hR3, hS3, hx3⟩
  have hF := trail_conf hE
  have htl : (trailL N ld ds).length ≤ 257 := (trail_steps hE).1.length
  have htb := trail_is hE
  generalize trailL N ld ds = tr at *
  generalize trailC N ld ds = C at *
  obtain ⟨ta, tcap, rfl, _, _, _⟩ := id hR3
  obtain ⟨sa, scap, rfl, _, sq, _⟩ := id hS3
  unfold maxLen at sq
  have oT := OwnB.new w3 [.int .i64 N, .slice ta ld.length tcap] 24
  have hx34 := Ex.alloc w3 (.cells #[.int .i64 N, .slice ta ld.length tcap] 24)
  have hR4 := hR3.ex hx34
  have hS4 := hS3.ex hx34
  have hxb := (hxa.trans hx3).trans hx34
  have HOk : Hid (∀ c, FalseL tr c → redOk N ld tr c = true) := fun c hc => FalseL.ok hTh htb hc
  have HLn : Hid ((firstL N ld tr C).length ≤ 300) := by
    show _ ≤ _
    by_cases h0 : firstOk N ld tr C = true
    · have := firstL_len h0; omega
    · rw [firstL_none (fun h => h0 h.1)]; simp
  have HVal : Hid (∀ k, k < tr.length → litValid (sL tr k) N = true) := fun k hk => (trl_of htb).val k hk
  clear c0 c1 c2 c3 z0 HSe2 hx3 hR3 hS3 hE o hxa hF hTh htb hds
  go_wp2
  generalize w3.alloc (.cells #[.int .i64 N, .slice ta ld.length tcap] 24) = w4 at *
  generalize w3.heap.size = WB at *
  go_loopw [9, 33] (fun cv kv wr => ∃ (k : Nat) (c : List Int), k ≤ tr.length ∧ kv = .int .i64 k ∧ OwnI wr w4.heap.size cv c ∧ Hid (FalseL tr c) ∧ c.length ≤ k ∧ Ex w4 wr) (fun _ kv _ => tr.length - (intOf kv).toNat)
  case atStart => exact ⟨0, [], Nat.zero_le _, rfl, OwnI.nil _ _, FalseL.nil _, Nat.le_refl _, Ex.refl _⟩
  case round =>
    obtain ⟨k, c, hk, rfl, hD, hFa, hcl, hxr⟩ := hrel
    obtain ⟨da, dc, rfl, _, _, _⟩ := id hD.ints
    by_cases hlt : k < tr.length
    · obtain ⟨_, _, ev, _, _, s3⟩ := hS4.ex hxr
      cases ev
      obtain ⟨b, off, rfl, hb, g0, g1, g2⟩ := s3 k hlt
      have hv := (litValid_iff _ _).1 (HVal.out k hlt)
      have hFn : Hid (FalseL tr (c ++ [-sL tr k])) := hFa.out.add hlt
      unfold sL at hv hFn
      obtain ⟨st, hst⟩ : ∃ st, st = tr.getD k default := ⟨_, rfl⟩
      rw [← hst] at g0 g1 g2 hv hFn
      clear s3 hst HOk HVal
      obtain ⟨sx, sw, sl⟩ := st
      simp only at g0 g1 g2 hv
      have oB := OwnB.new wr [.int .i64 sx, .int .i64 sw, .int .i64 sl] 55
      have hxB := Ex.alloc wr (.cells #[.int .i64 sx, .int .i64 sw, .int .i64 sl] 55)
      have b0 := oB.cell 0
      have b1 := oB.cell 1
      have b2 := oB.cell 2
      have zB := oB.lt
      have hx2 := hxr.trans hxB
      have hD2 := hD.ex hxB
      have hkk : (k : Int) < tr.length := by omega
      have hwn : IntKind.i64.wrap (-sx) = -sx := IntWalk.i64_in _ (by omega)
      clear oB hD
      cases hob : (bits BinOp.and IntKind.u64 (P / 2 ^ (k % 64)) 1 == 1) with
      | false =>
        clear hFn
        go_wp2
        go_roundw
        case rel => exact ⟨k + 1, c, by omega, by go_num, hD2, hFa, by omega, hx2⟩
        case measure => simp [intOf]; omega
      | true =>
        have hI := intsAt_fresh (wr.alloc (.cells #[.int .i64 sx, .int .i64 sw, .int .i64 sl] 55)) (-sx) 3
        simp only [alloc_size] at hI
        go_wp2_with (at_builtin; refine wpList_append_ints rfl (.tmp 45) (.tmp 49) rfl rfl rfl (hD2.ex (Ex.alloc _ _)) hI ?c1 ?c2 ?_)
        case c1 => first | omega | (simp; omega)
        case c2 => have := hxr.size; first | omega | (simp only [alloc_size]; omega)
        intro v9 w9 hown9 hg9
        have hx9 : Ex w4 w9 := grown_ex (hx2.alloc' _) hg9 (ownsRow_block hD2)
        clear hg9 hD2
        go_wp2
        go_roundw
        case rel => exact ⟨k + 1, c ++ [-sx], by omega, by go_num, hown9, hFn, by simp; omega, hx9⟩
        case measure => simp [intOf]; omega
    · obtain rfl : k = tr.length := by omega
      -- what follows, of any list of false literals
      have HRe : Hid (∀ (wa : World) (v : Value) (l : List Int), Ex w4 wa → IntsAt wa v l → l.length ≤ 1000 → Calls Try.prog 20 #[.agg #[.int .i64 N, .slice ta ld.length tcap], .slice sa tr.length scap, v] wa (RedRet wa (redL N ld tr l) (redE N ld tr l))) := fun wa v l hx hi hl => learnRedundant_any N _ _ v ld tr l wa (hR4.ex hx) (hS4.ex hx) hi (by omega) hl
      have HIm : Hid (∀ (wa : World) (v : Value) (l : List Int), Ex w4 wa → IntsAt wa v l → l.length ≤ 1000 → Calls Try.prog 22 #[.agg #[.int .i64 N, .slice ta ld.length tcap], v] wa fun e w' => e = .returned (.bool (impB N ld l)) ∧ Ex wa w') := fun wa v l hx hi hl => learnImplied_any N _ v ld l wa (hR4.ex hx) hi (by omega)
      have HMo : Hid (∀ (wa : World) (v : Value) (l : List Int), Ex w4 wa → IntsAt wa v l → (∀ y ∈ l, litValid y N = true) → Calls Try.prog 29 #[.agg #[.int .i64 N, .slice ta ld.length tcap], v] wa fun e w' => e = .returned (.bool (modB N ld l)) ∧ Ex wa w') := fun wa v l hx hi hv => models13_any N _ v ld l wa (hR4.ex hx) hi hN hv
      have HLv : Hid (∀ (wa : World) (y : Int), Ex w4 wa → -1000 ≤ y → y ≤ 1000 → Calls Try.prog 26 #[.slice sa tr.length scap, .int .i64 y] wa fun e w' => e = .returned (.int .i64 (levelOf tr y)) ∧ Ex wa w') := fun wa y hx y1 y2 => levels13_any _ tr y wa (hS4.ex hx) y1 y2 (by omega)
      have oTr := oT.ex hxr
      have t0 := oTr.cell 0
      have t1 := oTr.cell 1
      have zt := oTr.lt
      by_cases hC : 0 ≤ C
      rotate_left
      · have hCb : decide (0 ≤ C) = false := decide_eq_false hC
        have hcl1 : c.length ≤ 1000 := by omega
        have hIx := hD.ints
        have hxx := hxr
        obtain ⟨hre, hvc, hvd, hii, hmm⟩ := red_facts (HOk.out c hFa.out)
        have hdl := redL_len (HOk.out c hFa.out)
        have H1 := HRe.out wr _ c hxx hIx hcl1
        rw [hre] at H1
        have HH1 : Hid _ := H1
        have HVc : Hid _ := hvc
        have HVk : Hid (∀ k, k < (redL N ld tr c).length → litValid ((redL N ld tr c).getD k 0) N = true ∧ 0 < levelOf tr ((redL N ld tr c).getD k 0)) := fun k hk => hvd _ (by rw [getD_getElem hk]; exact List.getElem_mem hk)
        have HVd : Hid (∀ y ∈ redL N ld tr c, litValid y N = true) := fun y hy => (hvd y hy).1
        have HII : Hid _ := hii
        have HMM : Hid _ := hmm
        clear H1 hre hvc hvd hii hmm HOk HRe
        generalize redL N ld tr c = d at *
        go_wp2_with fail
        refine Calls.mono HH1.out ?_
        rintro e wa ⟨va, rfl, hoa, hxwa⟩
        have hId := hoa.ints
        obtain ⟨ea, eq, rfl, _, e6, _⟩ := id hId
        unfold maxLen at e6
        have hIa := hIx.ex hxwa
        have hx4a := hxx.trans hxwa
        clear HH1 hoa hIx hxx hxwa t0 t1 zt
        go_wp2
        go_loopw [91] (fun kv wr => ∃ k : Nat, k ≤ d.length ∧ kv = .int .i64 k ∧ Ex wa wr) (fun kv _ => d.length - (intOf kv).toNat)
        case atStart => exact ⟨0, Nat.zero_le _, rfl, Ex.refl _⟩
        case round =>
          obtain ⟨k, hk, rfl, hxq⟩ := hrel
          by_cases hlt : k < d.length
          · obtain ⟨_, _, ev, _, _, e3⟩ := hId.ex hxq
            cases ev
            obtain ⟨b, off, rfl, hb, hcell⟩ := e3 k hlt
            obtain ⟨hv0, hp⟩ := HVk.out k hlt
            have hv := (litValid_iff _ _).1 hv0
            have hkk : (k : Int) < d.length := by omega
            have H1 : Hid _ := HLv.out _ (d.getD k 0) (hx4a.trans hxq) (by omega) (by omega)
            clear e3 HVk HVd HVc HII HMM HMo HIm HLv hv0
            generalize d.getD k 0 = y at *
            generalize levelOf tr y = LY at *
            go_wp2_with fail
            refine Calls.mono H1.out ?_
            rintro e wz ⟨rfl, hxz⟩
            go_wp2
            go_roundw
            case rel => exact ⟨k + 1, by omega, by go_num, hxq.trans hxz⟩
            case measure => simp [intOf]; omega
          · obtain rfl : k = d.length := by omega
            have hxw := hx4a.trans hxq
            have hIw := hIa.ex hxq
            have hDw := hId.ex hxq
            have oTw := oT.ex hxw
            have t0 := oTw.cell 0
            have t1 := oTw.cell 1
            have zt := oTw.lt
            clear HVk HLv hIa hId hxq hx4a
            go_wp2_with fail
            refine Calls.mono (HIm.out _ _ c hxw hIw hcl1) ?_
            rintro e wb ⟨rfl, hxb1⟩
            clear t0 t1 zt
            have t0 := (oTw.ex hxb1).cell 0
            have t1 := (oTw.ex hxb1).cell 1
            have zt := (oTw.ex hxb1).lt
            cases hb1 : impB N ld c with
            | false =>
              go_wp2_with fail
              refine Calls.mono (HMo.out _ _ c (hxw.trans hxb1) (hIw.ex hxb1) HVc.out) ?_
              rintro e wm ⟨rfl, hxm⟩
              have hxm2 := (hxb1).trans hxm
              clear t0 t1 zt
              have t0 := (oTw.ex hxm2).cell 0
              have t1 := (oTw.ex hxm2).cell 1
              have zt := (oTw.ex hxm2).lt
              cases hm1 : modB N ld c with
              | false =>
                go_wp2_with (refine (works13_any _).mono ?_; rintro e w' ⟨rfl, hx⟩)
                go_ret
                exact ⟨rfl, ((hxb.trans hxw).trans hxm2).trans hx⟩
              | true =>
                have H9 : Hid _ := HMo.out _ _ d (hxw.trans hxm2) (hDw.ex hxm2) HVd.out
                rw [HMM.out hm1] at H9
                go_wp2_with fail
                refine Calls.mono H9.out ?_
                rintro e wn ⟨rfl, hxn⟩
                go_wp2_with (refine (works13_any _).mono ?_; rintro e w' ⟨rfl, hx⟩)
                go_ret
                exact ⟨rfl, (((hxb.trans hxw).trans hxm2).trans hxn).trans hx⟩
            | true =>
              have H8 : Hid _ := HIm.out _ _ d (hxw.trans hxb1) (hDw.ex hxb1) (by omega)
              rw [HII.out hb1] at H8
              go_wp2_with fail
              refine Calls.mono H8.out ?_
              rintro e wc ⟨rfl, hxc⟩
              have hxbc := hxb1.trans hxc
              clear t0 t1 zt H8
              have t0 := (oTw.ex hxbc).cell 0
              have t1 := (oTw.ex hxbc).cell 1
              have zt := (oTw.ex hxbc).lt
              go_wp2_with fail
              refine Calls.mono (HMo.out _ _ c (hxw.trans hxbc) (hIw.ex hxbc) HVc.out) ?_
              rintro e wm ⟨rfl, hxm⟩
              have hxm2 := (hxbc).trans hxm
              clear t0 t1 zt
              have t0 := (oTw.ex hxm2).cell 0
              have t1 := (oTw.ex hxm2).cell 1
              have zt := (oTw.ex hxm2).lt
              cases hm1 : modB N ld c with
              | false =>
                go_wp2_with (refine (works13_any _).mono ?_; rintro e w' ⟨rfl, hx⟩)
                go_ret
                exact ⟨rfl, ((hxb.trans hxw).trans hxm2).trans hx⟩
              | true =>
                have H9 : Hid _ := HMo.out _ _ d (hxw.trans hxm2) (hDw.ex hxm2) HVd.out
                rw [HMM.out hm1] at H9
                go_wp2_with fail
                refine Calls.mono H9.out ?_
                rintro e wn ⟨rfl, hxn⟩
                go_wp2_with (refine (works13_any _).mono ?_; rintro e w' ⟨rfl, hx⟩)
                go_ret
                exact ⟨rfl, (((hxb.trans hxw).trans hxm2).trans hxn).trans hx⟩
      cases hP2 : (P.tmod 2 == 0) with
      | false =>
        have hcl1 : c.length ≤ 1000 := by omega
        have hIx := hD.ints
        have hxx := hxr
        obtain ⟨hre, hvc, hvd, hii, hmm⟩ := red_facts (HOk.out c hFa.out)
        have hdl := redL_len (HOk.out c hFa.out)
        have H1 := HRe.out wr _ c hxx hIx hcl1
        rw [hre] at H1
        have HH1 : Hid _ := H1
        have HVc : Hid _ := hvc
        have HVk : Hid (∀ k, k < (redL N ld tr c).length → litValid ((redL N ld tr c).getD k 0) N = true ∧ 0 < levelOf tr ((redL N ld tr c).getD k 0)) := fun k hk => hvd _ (by rw [getD_getElem hk]; exact List.getElem_mem hk)
        have HVd : Hid (∀ y ∈ redL N ld tr c, litValid y N = true) := fun y hy => (hvd y hy).1
        have HII : Hid _ := hii
        have HMM : Hid _ := hmm
        clear H1 hre hvc hvd hii hmm HOk HRe
        generalize redL N ld tr c = d at *
        go_wp2_with fail
        refine Calls.mono HH1.out ?_
        rintro e wa ⟨va, rfl, hoa, hxwa⟩
        have hId := hoa.ints
        obtain ⟨ea, eq, rfl, _, e6, _⟩ := id hId
        unfold maxLen at e6
        have hIa := hIx.ex hxwa
        have hx4a := hxx.trans hxwa
        clear HH1 hoa hIx hxx hxwa t0 t1 zt
        go_wp2
        go_loopw [91] (fun kv wr => ∃ k : Nat, k ≤ d.length ∧ kv = .int .i64 k ∧ Ex wa wr) (fun kv _ => d.length - (intOf kv).toNat)
        case atStart => exact ⟨0, Nat.zero_le _, rfl, Ex.refl _⟩
        case round =>
          obtain ⟨k, hk, rfl, hxq⟩ := hrel
          by_cases hlt : k < d.length
          · obtain ⟨_, _, ev, _, _, e3⟩ := hId.ex hxq
            cases ev
            obtain ⟨b, off, rfl, hb, hcell⟩ := e3 k hlt
            obtain ⟨hv0, hp⟩ := HVk.out k hlt
            have hv := (litValid_iff _ _).1 hv0
            have hkk : (k : Int) < d.length := by omega
            have H1 : Hid _ := HLv.out _ (d.getD k 0) (hx4a.trans hxq) (by omega) (by omega)
            clear e3 HVk HVd HVc HII HMM HMo HIm HLv hv0
            generalize d.getD k 0 = y at *
            generalize levelOf tr y = LY at *
            go_wp2_with fail
            refine Calls.mono H1.out ?_
            rintro e wz ⟨rfl, hxz⟩
            go_wp2
            go_roundw
            case rel => exact ⟨k + 1, by omega, by go_num, hxq.trans hxz⟩
            case measure => simp [intOf]; omega
          · obtain rfl : k = d.length := by omega
            have hxw := hx4a.trans hxq
            have hIw := hIa.ex hxq
            have hDw := hId.ex hxq
            have oTw := oT.ex hxw
            have t0 := oTw.cell 0
            have t1 := oTw.cell 1
            have zt := oTw.lt
            clear HVk HLv hIa hId hxq hx4a
            go_wp2_with fail
            refine Calls.mono (HIm.out _ _ c hxw hIw hcl1) ?_
            rintro e wb ⟨rfl, hxb1⟩
            clear t0 t1 zt
            have t0 := (oTw.ex hxb1).cell 0
            have t1 := (oTw.ex hxb1).cell 1
            have zt := (oTw.ex hxb1).lt
            cases hb1 : impB N ld c with
            | false =>
              go_wp2_with fail
              refine Calls.mono (HMo.out _ _ c (hxw.trans hxb1) (hIw.ex hxb1) HVc.out) ?_
              rintro e wm ⟨rfl, hxm⟩
              have hxm2 := (hxb1).trans hxm
              clear t0 t1 zt
              have t0 := (oTw.ex hxm2).cell 0
              have t1 := (oTw.ex hxm2).cell 1
              have zt := (oTw.ex hxm2).lt
              cases hm1 : modB N ld c with
              | false =>
                go_wp2_with (refine (works13_any _).mono ?_; rintro e w' ⟨rfl, hx⟩)
                go_ret
                exact ⟨rfl, ((hxb.trans hxw).trans hxm2).trans hx⟩
              | true =>
                have H9 : Hid _ := HMo.out _ _ d (hxw.trans hxm2) (hDw.ex hxm2) HVd.out
                rw [HMM.out hm1] at H9
                go_wp2_with fail
                refine Calls.mono H9.out ?_
                rintro e wn ⟨rfl, hxn⟩
                go_wp2_with (refine (works13_any _).mono ?_; rintro e w' ⟨rfl, hx⟩)
                go_ret
                exact ⟨rfl, (((hxb.trans hxw).trans hxm2).trans hxn).trans hx⟩
            | true =>
              have H8 : Hid _ := HIm.out _ _ d (hxw.trans hxb1) (hDw.ex hxb1) (by omega)
              rw [HII.out hb1] at H8
              go_wp2_with fail
              refine Calls.mono H8.out ?_
              rintro e wc ⟨rfl, hxc⟩
              have hxbc := hxb1.trans hxc
              clear t0 t1 zt H8
              have t0 := (oTw.ex hxbc).cell 0
              have t1 := (oTw.ex hxbc).cell 1
              have zt := (oTw.ex hxbc).lt
              go_wp2_with fail
              refine Calls.mono (HMo.out _ _ c (hxw.trans hxbc) (hIw.ex hxbc) HVc.out) ?_
              rintro e wm ⟨rfl, hxm⟩
              have hxm2 := (hxbc).trans hxm
              clear t0 t1 zt
              have t0 := (oTw.ex hxm2).cell 0
              have t1 := (oTw.ex hxm2).cell 1
              have zt := (oTw.ex hxm2).lt
              cases hm1 : modB N ld c with
              | false =>
                go_wp2_with (refine (works13_any _).mono ?_; rintro e w' ⟨rfl, hx⟩)
                go_ret
                exact ⟨rfl, ((hxb.trans hxw).trans hxm2).trans hx⟩
              | true =>
                have H9 : Hid _ := HMo.out _ _ d (hxw.trans hxm2) (hDw.ex hxm2) HVd.out
                rw [HMM.out hm1] at H9
                go_wp2_with fail
                refine Calls.mono H9.out ?_
                rintro e wn ⟨rfl, hxn⟩
                go_wp2_with (refine (works13_any _).mono ?_; rintro e w' ⟨rfl, hx⟩)
                go_ret
                exact ⟨rfl, (((hxb.trans hxw).trans hxm2).trans hxn).trans hx⟩
      | true =>
        have hFi : Hid _ := learnFirst_any N _ _ ld tr C wr (hR4.ex hxr) (hS4.ex hxr) (by omega)
        have hF1 : Hid (FalseL tr (firstL N ld tr C)) := firstL_false
        have hF2 : Hid ((firstL N ld tr C).length ≤ 300) := HLn.out
        generalize firstL N ld tr C = FL at *
        generalize firstK N ld tr C = FK at *
        generalize firstE N ld tr C = FE at *
        clear hD
        go_wp2_with fail
        refine Calls.mono hFi.out ?_
        rintro e w5 ⟨v5, rfl, ho5, hx5⟩
        obtain ⟨a5, q5, rfl, _, q6, _⟩ := id ho5.ints
        unfold maxLen at q6
        have hx45 := hxr.trans hx5
        have hS5 := hS4.ex hx45
        have ho5b := ho5.base (show w4.heap.size ≤ wr.heap.size from hxr.size)
        have hF3 := hF2.out
        clear hFi hF2 hFa hcl ho5 hx5 hxr t0 t1 zt oTr
        go_wp2
        go_loopw [9, 69] (fun cv kv wr => ∃ (k : Nat) (c : List Int), k ≤ tr.length ∧ kv = .int .i64 k ∧ OwnI wr w4.heap.size cv c ∧ Hid (FalseL tr c) ∧ c.length ≤ 300 + k ∧ Ex w4 wr) (fun _ kv _ => tr.length - (intOf kv).toNat)
        case atStart => exact ⟨0, FL, Nat.zero_le _, rfl, ho5b, hF1, by omega, hx45⟩
        case round =>
          clear ho5b hF1 hx45
          obtain ⟨k, c, hk, rfl, hD, hFa, hcl, hxr⟩ := hrel
          obtain ⟨da, dc, rfl, _, _, _⟩ := id hD.ints
          by_cases hlt : k < tr.length
          · obtain ⟨_, _, ev, _, _, s3⟩ := hS4.ex hxr
            cases ev
            obtain ⟨b, off, rfl, hb, g0, g1, g2⟩ := s3 k hlt
            have hv := (litValid_iff _ _).1 (HVal.out k hlt)
            have hFn : Hid (FalseL tr (c ++ [-sL tr k])) := hFa.out.add hlt
            unfold sL at hv hFn
            obtain ⟨st, hst⟩ : ∃ st, st = tr.getD k default := ⟨_, rfl⟩
            rw [← hst] at g0 g1 g2 hv hFn
            clear s3 hst HOk HVal HRe HIm HMo HLv
            obtain ⟨sx, sw, sl⟩ := st
            simp only at g0 g1 g2 hv
            have oB := OwnB.new wr [.int .i64 sx, .int .i64 sw, .int .i64 sl] 55
            have hxB := Ex.alloc wr (.cells #[.int .i64 sx, .int .i64 sw, .int .i64 sl] 55)
            have b0 := oB.cell 0
            have b1 := oB.cell 1
            have b2 := oB.cell 2
            have zB := oB.lt
            have hx2 := hxr.trans hxB
            have hD2 := hD.ex hxB
            have hkk : (k : Int) < tr.length := by omega
            have hwn : IntKind.i64.wrap (-sx) = -sx := IntWalk.i64_in _ (by omega)
            clear oB hD
            have hI := intsAt_fresh (wr.alloc (.cells #[.int .i64 sx, .int .i64 sw, .int .i64 sl] 55)) (-sx) 3
            simp only [alloc_size] at hI
            go_wp2_with (at_builtin; refine wpList_append_ints rfl (.tmp 73) (.tmp 77) rfl rfl rfl (hD2.ex (Ex.alloc _ _)) hI ?d1 ?d2 ?_)
            case d1 => first | omega | (simp; omega)
            case d2 => have := hxr.size; first | omega | (simp only [alloc_size]; omega)
            intro v9 w9 hown9 hg9
            have hx9 : Ex w4 w9 := grown_ex (hx2.alloc' _) hg9 (ownsRow_block hD2)
            clear hg9 hD2
            go_wp2
            go_roundw
            case rel => exact ⟨k + 1, c ++ [-sx], by omega, by go_num, hown9, hFn, by simp; omega, hx9⟩
            case measure => simp [intOf]; omega
          · obtain rfl : k = tr.length := by omega
            have oTr := oT.ex hxr
            have t0 := oTr.cell 0
            have t1 := oTr.cell 1
            have zt := oTr.lt
            clear HVal
            have hcl1 : c.length ≤ 1000 := by omega
            have hIx := hD.ints
            have hxx := hxr
            obtain ⟨hre, hvc, hvd, hii, hmm⟩ := red_facts (HOk.out c hFa.out)
            have hdl := redL_len (HOk.out c hFa.out)
            have H1 := HRe.out wr _ c hxx hIx hcl1
            rw [hre] at H1
            have HH1 : Hid _ := H1
            have HVc : Hid _ := hvc
            have HVk : Hid (∀ k, k < (redL N ld tr c).length → litValid ((redL N ld tr c).getD k 0) N = true ∧ 0 < levelOf tr ((redL N ld tr c).getD k 0)) := fun k hk => hvd _ (by rw [getD_getElem hk]; exact List.getElem_mem hk)
            have HVd : Hid (∀ y ∈ redL N ld tr c, litValid y N = true) := fun y hy => (hvd y hy).1
            have HII : Hid _ := hii
            have HMM : Hid _ := hmm
            clear H1 hre hvc hvd hii hmm HOk HRe
            generalize redL N ld tr c = d at *
            go_wp2_with fail
            refine Calls.mono HH1.out ?_
            rintro e wa ⟨va, rfl, hoa, hxwa⟩
            have hId := hoa.ints
            obtain ⟨ea, eq, rfl, _, e6, _⟩ := id hId
            unfold maxLen at e6
            have hIa := hIx.ex hxwa
            have hx4a := hxx.trans hxwa
            clear HH1 hoa hIx hxx hxwa t0 t1 zt
            go_wp2
            go_loopw [91] (fun kv wr => ∃ k : Nat, k ≤ d.length ∧ kv = .int .i64 k ∧ Ex wa wr) (fun kv _ => d.length - (intOf kv).toNat)
            case atStart => exact ⟨0, Nat.zero_le _, rfl, Ex.refl _⟩
            case round =>
              obtain ⟨k, hk, rfl, hxq⟩ := hrel
              by_cases hlt : k < d.length
              · obtain ⟨_, _, ev, _, _, e3⟩ := hId.ex hxq
                cases ev
                obtain ⟨b, off, rfl, hb, hcell⟩ := e3 k hlt
                obtain ⟨hv0, hp⟩ := HVk.out k hlt
                have hv := (litValid_iff _ _).1 hv0
                have hkk : (k : Int) < d.length := by omega
                have H1 : Hid _ := HLv.out _ (d.getD k 0) (hx4a.trans hxq) (by omega) (by omega)
                clear e3 HVk HVd HVc HII HMM HMo HIm HLv hv0
                generalize d.getD k 0 = y at *
                generalize levelOf tr y = LY at *
                go_wp2_with fail
                refine Calls.mono H1.out ?_
                rintro e wz ⟨rfl, hxz⟩
                go_wp2
                go_roundw
                case rel => exact ⟨k + 1, by omega, by go_num, hxq.trans hxz⟩
                case measure => simp [intOf]; omega
              · obtain rfl : k = d.length := by omega
                have hxw := hx4a.trans hxq
                have hIw := hIa.ex hxq
                have hDw := hId.ex hxq
                have oTw := oT.ex hxw
                have t0 := oTw.cell 0
                have t1 := oTw.cell 1
                have zt := oTw.lt
                clear HVk HLv hIa hId hxq hx4a
                go_wp2_with fail
                refine Calls.mono (HIm.out _ _ c hxw hIw hcl1) ?_
                rintro e wb ⟨rfl, hxb1⟩
                clear t0 t1 zt
                have t0 := (oTw.ex hxb1).cell 0
                have t1 := (oTw.ex hxb1).cell 1
                have zt := (oTw.ex hxb1).lt
                cases hb1 : impB N ld c with
                | false =>
                  go_wp2_with fail
                  refine Calls.mono (HMo.out _ _ c (hxw.trans hxb1) (hIw.ex hxb1) HVc.out) ?_
                  rintro e wm ⟨rfl, hxm⟩
                  have hxm2 := (hxb1).trans hxm
                  clear t0 t1 zt
                  have t0 := (oTw.ex hxm2).cell 0
                  have t1 := (oTw.ex hxm2).cell 1
                  have zt := (oTw.ex hxm2).lt
                  cases hm1 : modB N ld c with
                  | false =>
                    go_wp2_with (refine (works13_any _).mono ?_; rintro e w' ⟨rfl, hx⟩)
                    go_ret
                    exact ⟨rfl, ((hxb.trans hxw).trans hxm2).trans hx⟩
                  | true =>
                    have H9 : Hid _ := HMo.out _ _ d (hxw.trans hxm2) (hDw.ex hxm2) HVd.out
                    rw [HMM.out hm1] at H9
                    go_wp2_with fail
                    refine Calls.mono H9.out ?_
                    rintro e wn ⟨rfl, hxn⟩
                    go_wp2_with (refine (works13_any _).mono ?_; rintro e w' ⟨rfl, hx⟩)
                    go_ret
                    exact ⟨rfl, (((hxb.trans hxw).trans hxm2).trans hxn).trans hx⟩
                | true =>
                  have H8 : Hid _ := HIm.out _ _ d (hxw.trans hxb1) (hDw.ex hxb1) (by omega)
                  rw [HII.out hb1] at H8
                  go_wp2_with fail
                  refine Calls.mono H8.out ?_
                  rintro e wc ⟨rfl, hxc⟩
                  have hxbc := hxb1.trans hxc
                  clear t0 t1 zt H8
                  have t0 := (oTw.ex hxbc).cell 0
                  have t1 := (oTw.ex hxbc).cell 1
                  have zt := (oTw.ex hxbc).lt
                  go_wp2_with fail
                  refine Calls.mono (HMo.out _ _ c (hxw.trans hxbc) (hIw.ex hxbc) HVc.out) ?_
                  rintro e wm ⟨rfl, hxm⟩
                  have hxm2 := (hxbc).trans hxm
                  clear t0 t1 zt
                  have t0 := (oTw.ex hxm2).cell 0
                  have t1 := (oTw.ex hxm2).cell 1
                  have zt := (oTw.ex hxm2).lt
                  cases hm1 : modB N ld c with
                  | false =>
                    go_wp2_with (refine (works13_any _).mono ?_; rintro e w' ⟨rfl, hx⟩)
                    go_ret
                    exact ⟨rfl, ((hxb.trans hxw).trans hxm2).trans hx⟩
                  | true =>
                    have H9 : Hid _ := HMo.out _ _ d (hxw.trans hxm2) (hDw.ex hxm2) HVd.out
                    rw [HMM.out hm1] at H9
                    go_wp2_with fail
                    refine Calls.mono H9.out ?_
                    rintro e wn ⟨rfl, hxn⟩
                    go_wp2_with (refine (works13_any _).mono ?_; rintro e w' ⟨rfl, hx⟩)
                    go_ret
                    exact ⟨rfl, (((hxb.trans hxw).trans hxm2).trans hxn).trans hx⟩
end Go.Proofs.Yteagoaiiacideaa
