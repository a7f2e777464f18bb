/- Chapter 13: LearnAgain: the walk. No condition. -/
import Derived.Test.YteagoaiiacideaaLaw13j
import Derived.Test.YteagoaiiacideaaJoin
namespace Go.Proofs.Yteagoaiiacideaa
set_option linter.unusedSimpArgs false
set_option linter.unusedVariables false
open Go.RowKit
set_option maxRecDepth 20000
theorem level_true {n : Int} {ll : List (List Int)} {tr : List St} (ht : Trl n ll tr) {y : Int} (h : trueT tr y = true) : 0 ≤ levelOf tr (-y) := by
  obtain ⟨k, hk⟩ := (wrongN_isSome (tr := tr) (y := -y)).2 (by rwa [Int.neg_neg])
  rw [levelOf_wrong hk]
  exact ht.lev_nonneg (wrongN_some hk).1
theorem decsL_succ (tr : List St) (b : Int) {k : Nat} (hk : k < tr.length) : decsL (tr.take (k + 1)) b = decsL (tr.take k) b ++ if (tr.getD k default).why = -1 ∧ (tr.getD k default).lev ≤ b then [(tr.getD k default).lit] else [] := by
  unfold decsL
  rw [List.take_succ_eq_append_getElem hk, List.filter_append, List.map_append, getD_getElem hk]
  congr 1
  by_cases h : tr[k].why = -1 ∧ tr[k].lev ≤ b
  · rw [if_pos h, List.filter_cons, if_pos (by simpa using h)]; rfl
  · rw [if_neg h, List.filter_cons, if_neg (by simpa using h)]; rfl
theorem decsL_len (tr : List St) (b : Int) : (decsL tr b).length ≤ tr.length := by
  unfold decsL
  rw [List.length_map]
  exact List.length_filter_le _ _
theorem decsL_valid {n : Int} {ll : List (List Int)} {tr : List St} (ht : Trl n ll tr) {b : Int} : ∀ y ∈ decsL tr b, litValid y n = true := fun y hy => by
  unfold decsL at hy
  obtain ⟨s, hs, rfl⟩ := List.mem_map.1 hy
  obtain ⟨k, hk, e⟩ := List.getElem_of_mem (List.mem_filter.1 hs).1
  have := ht.val k hk
  unfold sL at this
  rw [getD_getElem hk, e] at this
  exact this
theorem theoryErr_snoc {n : Int} {ll : List (List Int)} {c : List Int} (h : theoryErr n ll = 0) (h1 : ll.length ≤ 60) (h2 : c.length ≤ 128) (h3 : ∀ x ∈ c, litValid x n = true) : theoryErr n (ll ++ [c]) = 0 := by
  obtain ⟨a, b, _, d⟩ := theoryErr_zero h
  refine theoryErr_of a b (by simp; omega) fun x hx => ?_
  rcases List.mem_append.1 hx with hx | hx
  · exact d x hx
  · rw [List.mem_singleton] at hx; subst hx; exact ⟨h2, h3⟩
theorem theoryErr_one {n : Int} {c : List Int} (h0 : 0 ≤ n) (h1 : n ≤ 128) (h2 : c.length ≤ 128) (h3 : ∀ x ∈ c, litValid x n = true) : theoryErr n [c] = 0 :=
  theoryErr_of h0 h1 (by simp) fun x hx => by rw [List.mem_singleton] at hx; subst hx; exact ⟨h2, h3⟩
theorem trailE_two {n : Int} {ll : List (List Int)} {ds : List Int} (h : theoryErr n ll = 0) (hv : ∀ x ∈ ds, litValid x n = true) : trailE n ll ds = 0 ∨ trailE n ll ds = 8 := by
  have ha : askB n ll ds = true := askB_iff.2 ⟨h, hv⟩
  unfold trailE
  rw [if_pos ha]
  cases trailO ll ds with
  | some _ => exact .inl rfl
  | none => exact .inr rfl
set_option maxRecDepth 100000 in
set_option maxHeartbeats 8000000 in
theorem LearnAgain_any (n : Int) (lv : Value) (nb : Int) (kv : Value) (ll : List (List Int)) (ks : List Int) (w : World) (hR : RowsAt w lv ll) (hw : ∀ c ∈ ll, ∀ y ∈ c, (Lit.int .i64 y).wf = true) (hnb : 0 ≤ nb ∧ nb < 256) (hk : BytesAt w kv ks) (hks : ∀ k ∈ ks, 0 ≤ k ∧ k < 256) :
    Calls Try.prog 11 #[.agg #[.int .i64 n, lv, .int .u8 nb, kv]] w fun e w' => e = .returned (.bool true) ∧ Ex w w' := by
  have HLi : Hid (∀ wa, Ex w wa → Calls Try.prog 24 #[.agg #[.int .i64 n, lv, .int .u8 nb, kv]] wa (AskRet wa ll ks)) := fun wa hx => askLight_any n nb lv kv ll ks wa (hR.ex hx) (hk.ex hx)
  have HSe : Hid ((ll.length ≤ 60 ∧ ∀ c ∈ ll, c.length ≤ 140) → ks.length ≤ 30 → ∀ wa, Ex w wa → Calls Try.prog 25 #[.agg #[.int .i64 n, lv, .int .u8 nb, kv]] wa (SetRet wa)) := fun h1 h2 wa hx => setting13_any n nb lv kv ll ks wa (hR.ex hx) (hk.ex hx) hnb hks h1 h2 hw
  obtain ⟨ra, rcap, rfl, _, _, r3⟩ := hR
  obtain ⟨ka, kcap, rfl, _, _, k3⟩ := hk
  clear r3 k3 hw hks hnb
  have o := OwnB.new w [.int .i64 n, .slice ra ll.length rcap, .int .u8 nb, .slice ka ks.length kcap] 46
  have hxa := Ex.alloc w (.cells #[.int .i64 n, .slice ra ll.length rcap, .int .u8 nb, .slice ka ks.length kcap] 46)
  go_enter Try.func11, Try.ntmps11
  go_wp2_with fail
  refine (HLi.out _ hxa).mono ?_
  rintro e w2 ⟨b, rfl, hb, hx2⟩
  replace o := o.ex hx2
  replace hxa := hxa.trans hx2
  clear hx2 HLi
  cases b with
  | false =>
    clear hb
    go_wp2_with (refine (works13_any _).mono ?_; rintro e w' ⟨rfl, hx⟩)
    go_ret
    exact ⟨rfl, hxa.trans hx⟩
  | true =>
  obtain ⟨hb1, hb2⟩ := hb rfl
  have HSe2 : Hid _ := HSe.out hb1 hb2
  clear hb hb1 hb2 HSe
  have c0 := o.cell 0
  have c1 := o.cell 1
  have c2 := o.cell 2
  have c3 := o.cell 3
  have z0 := o.lt
  go_wp2_with fail
  refine (HSe2.out _ hxa).mono ?_
  rintro e w3 ⟨N, lv2, sv2, ld, ds, rfl, hN, hTh, hds, hE, hR3, hS3, hx3⟩
  have hF := trail_conf hE
  have htl : (trailL N ld ds).length ≤ 1000 := trail_len
  have htr := trl_of (trail_is hE)
  generalize trailL N ld ds = tr at *
  generalize trailC N ld ds = C at *
  obtain ⟨ta, tcap, rfl, _, _, _⟩ := id hR3
  obtain ⟨sa, scap, rfl, _, sq, _⟩ := id hS3
  unfold maxLen at sq
  have oT := OwnB.new w3 [.int .i64 N, .slice ta ld.length tcap] 24
  have hx34 := Ex.alloc w3 (.cells #[.int .i64 N, .slice ta ld.length tcap] 24)
  have hR4 := hR3.ex hx34
  have hS4 := hS3.ex hx34
  have hxb := (hxa.trans hx3).trans hx34
  have t0 := oT.cell 0
  have t1 := oT.cell 1
  have zt := oT.lt
  have HFi := learnFirst_any N _ _ ld tr C _ hR4 hS4 htl
  clear c0 c1 c2 c3 z0 HSe2 hx3 hR3 hS3 hE o hxa
  rcases first_true hF with ⟨hC, e1, e2, e3⟩ | ⟨hC, e3, hI, hLn, _⟩
  · rw [e1, e2, e3] at HFi
    have HFj : Hid _ := HFi
    clear HFi hF hR4 htr
    go_wp2_with fail
    refine Calls.mono HFj.out ?_
    rintro e w5 ⟨v5, rfl, ho5, hx5⟩
    go_wp2_with (refine (works13_any _).mono ?_; rintro e w' ⟨rfl, hx⟩)
    go_ret
    exact ⟨rfl, (hxb.trans hx5).trans hx⟩
  rw [e3] at HFi
  have HFj : Hid _ := HFi
  have hok : firstOk N ld tr C = true := by rw [hF]; exact decide_eq_true hC
  have HAg : Hid (trailE N (ld ++ [firstL N ld tr C]) (decsL tr (firstK N ld tr C)) = 0 → trailC N (ld ++ [firstL N ld tr C]) (decsL tr (firstK N ld tr C)) < 0 → ∃ y ∈ firstL N ld tr C, trueT (trailL N (ld ++ [firstL N ld tr C]) (decsL tr (firstK N ld tr C))) y = true) := fun h1 h2 => again_true hok h1 h2
  clear HFi hF hC e3
  generalize firstL N ld tr C = FL at *
  generalize firstK N ld tr C = FK at *
  have hval := (impB_iff.1 hI).2.1
  have HVal : Hid (∀ k, k < FL.length → litValid (FL.getD k 0) N = true) := fun k hk => hval _ (by rw [getD_getElem hk]; exact List.getElem_mem hk)
  have hTU : theoryErr N (ld ++ [FL]) = 0 := theoryErr_snoc hTh hds.2 (by omega) hval
  have hT1 : theoryErr N [FL] = 0 := theoryErr_one (by omega) (by omega) (by omega) hval
  have HE2 : Hid (trailE N (ld ++ [FL]) (decsL tr FK) = 0 ∨ trailE N (ld ++ [FL]) (decsL tr FK) = 8) := trailE_two hTU (decsL_valid htr)
  have HJo : Hid (∀ (wa : World) (v : Value), Ex (w3.alloc (.cells #[.int .i64 N, .slice ta ld.length tcap] 24)) wa → RowsAt wa v [FL] → Calls Try.prog 30 #[.agg #[.int .i64 N, .slice ta ld.length tcap], .agg #[.int .i64 N, v]] wa (JoinRet wa N (ld ++ [FL]))) := fun wa v hx hr => by
    have hcl : ∀ c ∈ ld ++ [FL], c.length ≤ 1000 := fun c hc => by have := (theoryErr_zero hTU).2.2.2 c hc; omega
    have := theoryJoin_any N N _ v ld [FL] wa (hR4.ex hx) hr hTh hT1 (by simp) (by have := hds.2; simp; omega) hcl
    rwa [show max (N : Int) N = N by omega] at this
  have HDs : Hid (∀ k, k < tr.length → decsL (tr.take (k + 1)) FK = decsL (tr.take k) FK ++ if (tr.getD k default).why = -1 ∧ (tr.getD k default).lev ≤ FK then [(tr.getD k default).lit] else []) := fun k hk => decsL_succ _ _ hk
  have HDl : Hid (∀ k, (decsL (tr.take k) FK).length ≤ k) := fun k => Nat.le_trans (decsL_len _ _) (by rw [List.length_take]; omega)
  have HLb : Hid (trailE N (ld ++ [FL]) (decsL tr FK) = 0 → ∀ y, trueT (trailL N (ld ++ [FL]) (decsL tr FK)) y = true → 0 ≤ levelOf (trailL N (ld ++ [FL]) (decsL tr FK)) (-y)) := fun h y hy => level_true (trl_of (trail_is h)) hy
  clear hI hok hTU hT1 hval htr hds hTh hR4
  go_wp2_with fail
  generalize w3.alloc (.cells #[.int .i64 N, .slice ta ld.length tcap] 24) = w4 at *
  generalize w3.heap.size = WB at *
  refine Calls.mono HFj.out ?_
  rintro e w5 ⟨v5, rfl, ho5, hx5⟩
  have hI50 := ho5.ints
  obtain ⟨a5, q5, rfl, _, q6, q7⟩ := id hI50
  unfold maxLen at q6
  have oT5 := oT.ex hx5
  have hS5 := hS4.ex hx5
  clear HFj hx34 t0 t1 zt ho5 q7 oT hS4
  go_wp2
  go_loopw [10, 46] (fun dv kv wr => ∃ k : Nat, k ≤ tr.length ∧ kv = .int .i64 k ∧ OwnI wr w5.heap.size dv (decsL (tr.take k) FK) ∧ Ex w5 wr) (fun _ kv _ => tr.length - (intOf kv).toNat)
  case atStart => exact ⟨0, Nat.zero_le _, rfl, OwnI.nil _ _, Ex.refl _⟩
  case round =>
    obtain ⟨k, hk, rfl, hD, hxr⟩ := hrel
    by_cases hlt : k < tr.length
    · obtain ⟨_, _, ev, _, _, s3⟩ := hS5.ex hxr
      cases ev
      obtain ⟨b, off, rfl, hb, g0, g1, g2⟩ := s3 k hlt
      have hd := HDs.out k hlt
      have hdl := HDl.out k
      obtain ⟨st, hst⟩ : ∃ st, st = tr.getD k default := ⟨_, rfl⟩
      rw [← hst] at g0 g1 g2 hd
      have HD : Hid _ := hd
      clear s3 hd hst HDs HDl HAg HLb HE2 HJo HVal
      obtain ⟨sx, sw, sl⟩ := st
      simp only at g0 g1 g2
      have oB := OwnB.new wr [.int .i64 sx, .int .i64 sw, .int .i64 sl] 55
      have hxB := Ex.alloc wr (.cells #[.int .i64 sx, .int .i64 sw, .int .i64 sl] 55)
      have b0 := oB.cell 0
      have b1 := oB.cell 1
      have b2 := oB.cell 2
      have zB := oB.lt
      have hx2 := hxr.trans hxB
      have hD2 := hD.ex hxB
      have hkk : (k : Int) < tr.length := by omega
      generalize decsL (tr.take k) FK = M at *
      obtain ⟨da, dc, rfl, _, _, _⟩ := hD.ints
      clear oB hD
      by_cases hif : sw = -1 ∧ sl ≤ FK
      · obtain ⟨rfl, hle⟩ := hif
        have HD2 : Hid (decsL (tr.take (k + 1)) FK = M ++ [sx]) := by have := HD.out; rw [if_pos ⟨rfl, hle⟩] at this; exact this
        clear HD
        have hI := intsAt_fresh (wr.alloc (.cells #[.int .i64 sx, .int .i64 (-1), .int .i64 sl] 55)) sx 3
        simp only [alloc_size] at hI
        go_wp2_with (at_builtin; refine wpList_append_ints rfl (.tmp 59) (.tmp 62) rfl rfl rfl (hD2.ex (Ex.alloc _ _)) hI ?c1 ?c2 ?_)
        case c1 => simp only [List.length_cons, List.length_nil]; omega
        case c2 => rw [alloc_size]; exact Nat.le_succ_of_le hx2.size
        intro v9 w9 hown9 hg9
        have hx9 : Ex w5 w9 := grown_ex (hx2.alloc' _) hg9 (ownsRow_block hD2)
        clear hg9 hD2
        go_wp2
        go_roundw
        case rel => exact ⟨k + 1, by omega, by go_num, (by rw [HD2.out]; exact hown9), hx9⟩
        case measure => simp [intOf]; omega
      · have HD2 : Hid (decsL (tr.take (k + 1)) FK = M) := by have := HD.out; rw [if_neg hif, List.append_nil] at this; exact this
        clear HD
        by_cases hw1 : sw = -1
        · have hle : ¬ sl ≤ FK := fun h => hif ⟨hw1, h⟩
          subst hw1
          clear hif
          go_wp2
          go_roundw
          case rel => exact ⟨k + 1, by omega, by go_num, (by rw [HD2.out]; exact hD2), hx2⟩
          case measure => simp [intOf]; omega
        · have hwb : (sw == -1) = false := by rw [beq_eq_false_iff_ne]; exact hw1
          clear hif
          go_wp2
          go_roundw
          case rel => exact ⟨k + 1, by omega, by go_num, (by rw [HD2.out]; exact hD2), hx2⟩
          case measure => simp [intOf]; omega
    · obtain rfl : k = tr.length := by omega
      rw [List.take_length] at hD
      obtain ⟨da, dc, rfl, _, _, _⟩ := id hD.ints
      clear HDs HDl
      have oTr := oT5.ex hxr
      have t0 := oTr.cell 0
      have t1 := oTr.cell 1
      have zt := oTr.lt
      have hrow : RowsAt (wr.alloc (.cells #[.slice a5 FL.length q5] 26)) (.slice (some ⟨wr.heap.size, 0, none⟩) 1 1) [FL] := by
        have oN := OwnB.new wr [.slice a5 FL.length q5] 26
        refine ⟨_, _, rfl, Nat.le_refl _, by decide, fun j hj => ?_⟩
        have hj0 : j = 0 := by simp at hj; omega
        subst hj0
        exact ⟨_, 0, _, rfl, oN.lt, oN.cell 0, (hI50.ex hxr).ex (Ex.alloc _ _)⟩
      have HJ : Hid _ := HJo.out _ _ ((hx5.trans hxr).alloc' _) hrow
      have hx6 := hxr.alloc' (.cells #[.slice a5 FL.length q5] 26)
      have hDi := hD.ints.ex (Ex.alloc wr (.cells #[.slice a5 FL.length q5] 26))
      clear hrow HJo
      go_wp2_with fail
      refine Calls.mono HJ.out ?_
      rintro e w7 ⟨lv7, rfl, hR7, hx7⟩
      obtain ⟨ua, ucap, rfl, _, _, _⟩ := id hR7
      have oU := OwnB.new w7 [.int .i64 N, .slice ua (ld ++ [FL]).length ucap] 24
      have hx78 := Ex.alloc w7 (.cells #[.int .i64 N, .slice ua (ld ++ [FL]).length ucap] 24)
      have hTr := unitTrail_any N _ (.slice da (decsL tr FK).length dc) (ld ++ [FL]) (decsL tr FK) _ (hR7.ex hx78) ((hDi.ex hx7).ex hx78)
      have htl2 : (trailL N (ld ++ [FL]) (decsL tr FK)).length ≤ 1000 := trail_len
      have u0 := oU.cell 0
      have u1 := oU.cell 1
      have zu := oU.lt
      have hx58 := (hx6.trans hx7).trans hx78
      have hx08 := (hxb.trans hx5).trans hx58
      have hI8 := hI50.ex hx58
      clear oT5 oTr t0 t1 zt HJ hx6 hDi hR7 hx7 hx78 hD hI50 hS5 hxr hx5 hxb hx58
      generalize ld ++ [FL] = LU at *
      generalize decsL tr FK = DL at *
      rcases HE2.out with hE0 | hE8
      · have HAg2 : Hid (trailC N LU DL < 0 → ∃ y ∈ FL, trueT (trailL N LU DL) y = true) := HAg.out hE0
        have HLb2 : Hid (∀ y, trueT (trailL N LU DL) y = true → 0 ≤ levelOf (trailL N LU DL) (-y)) := HLb.out hE0
        rw [hE0] at hTr
        have HTr : Hid _ := hTr
        clear HAg HLb hTr HE2 hE0
        generalize trailL N LU DL = m at *
        generalize trailC N LU DL = C2 at *
        go_wp2_with fail
        refine Calls.mono HTr.out ?_
        rintro e w9 ⟨v9, rfl, ho9, hx9⟩
        have hS9 := ho9.steps
        obtain ⟨ma, mq, rfl, _, _, _⟩ := id hS9
        have hI9 := hI8.ex hx9
        have hx09 := hx08.trans hx9
        clear HTr ho9 hI8 hx08 hx9 u0 u1 zu oU
        by_cases hC2 : 0 ≤ C2
        · clear HAg2 HLb2 HVal
          go_wp2_with (refine (works13_any _).mono ?_; rintro e w' ⟨rfl, hx⟩)
          go_ret
          exact ⟨rfl, hx09.trans hx⟩
        · have HEx : Hid (∃ j, j < FL.length ∧ 0 ≤ levelOf m (-(FL.getD j 0))) := by
            obtain ⟨y, hy, hty⟩ := HAg2.out (by omega)
            obtain ⟨j, hj, e⟩ := List.getElem_of_mem hy
            exact ⟨j, hj, by rw [getD_getElem hj, e]; exact HLb2.out y hty⟩
          clear HAg2 HLb2
          go_wp2
          go_loopw [98] (fun kv wr => ∃ k : Nat, k ≤ FL.length ∧ kv = .int .i64 k ∧ Ex w9 wr ∧ Hid (∀ j, j < k → levelOf m (-(FL.getD j 0)) < 0)) (fun kv _ => FL.length - (intOf kv).toNat)
          case atStart => exact ⟨0, Nat.zero_le _, rfl, Ex.refl _, fun j hj => by omega⟩
          case round =>
            obtain ⟨k, hk, rfl, hxq, hno⟩ := hrel
            by_cases hlt : k < FL.length
            · obtain ⟨_, _, ev, _, _, e3⟩ := hI9.ex hxq
              cases ev
              obtain ⟨b, off, rfl, hb, hcell⟩ := e3 k hlt
              have hv := (litValid_iff _ _).1 (HVal.out k hlt)
              have hkk : (k : Int) < FL.length := by omega
              have H1 : Hid _ := levels13_any _ m (-(FL.getD k 0)) _ (hS9.ex hxq) (by omega) (by omega) htl2
              have hno2 : Hid (levelOf m (-(FL.getD k 0)) < 0 → ∀ j, j < k + 1 → levelOf m (-(FL.getD j 0)) < 0) := fun h j hj => by
                by_cases e : j = k
                · subst e; exact h
                · exact hno.out j (by omega)
              clear e3 hno HEx HVal
              generalize FL.getD k 0 = y at *
              have hwn : IntKind.i64.wrap (-y) = -y := IntWalk.i64_in _ (by omega)
              by_cases hge : 0 ≤ levelOf m (-y)
              · clear hno2
                generalize levelOf m (-y) = LY at *
                go_wp2_with fail
                refine Calls.mono H1.out ?_
                rintro e wz ⟨rfl, hxz⟩
                go_wp2_with (refine (works13_any _).mono ?_; rintro e w' ⟨rfl, hx⟩)
                go_ret
                exact ⟨rfl, ((hx09.trans hxq).trans hxz).trans hx⟩
              · have hno3 : Hid _ := hno2.out (by omega)
                clear hno2
                generalize hLY : levelOf m (-y) = LY at *
                clear hLY
                go_wp2_with fail
                refine Calls.mono H1.out ?_
                rintro e wz ⟨rfl, hxz⟩
                go_wp2
                go_roundw
                case rel => exact ⟨k + 1, by omega, by go_num, hxq.trans hxz, hno3⟩
                case measure => simp [intOf]; omega
            · exfalso
              obtain ⟨j, hj, h⟩ := HEx.out
              have := hno.out j (by omega)
              omega
      · rw [hE8] at hTr
        have HTr : Hid _ := hTr
        clear HAg HLb hTr HE2 hE8
        go_wp2_with fail
        refine Calls.mono HTr.out ?_
        rintro e w9 ⟨v9, rfl, ho9, hx9⟩
        go_wp2_with (refine (works13_any _).mono ?_; rintro e w' ⟨rfl, hx⟩)
        go_ret
        exact ⟨rfl, (hx08.trans hx9).trans hx⟩
end Go.Proofs.Yteagoaiiacideaa
