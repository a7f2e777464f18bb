/- probe.Probe. No condition. -/
import Derived.Test.YtnhlfhoeglnajaaProbe
import Derived.Test.YtnhlfhoeglnajaaScope
import Derived.Test.YtnhlfhoeglnajaaSolver
namespace Go.Proofs.Ytnhlfhoeglnajaa
set_option linter.unusedSimpArgs false
set_option linter.unusedVariables false
open Go.RowKit
set_option maxRecDepth 20000
/-- The frame at the label. -/
def ProbeFrame (w : World) (fv : Value) (a' : Act) : Prop := ∃ u0 u1 u3 u4 u5 u7 u8 u9 u10 u11 u12 u13 u14 u15 u16 u17 u18 u19 u20 u21 u22 u23 u24 u25 u26 u27 u28 u29 u30 u31 u32 u33 u34 u35 u36 u37 u38 u39 u40 u41 u42 u43 u44 u45 u46 u47 u48 u49 u50 u51 u52 u53 u54 u55 u56 u57 u58 u59 u60 u61 u62 u63 u64 u65 u66 u67 u68 u69 u70 u71 u72 u73 u74 u75 u76 u77 u78 : Value, a' = { tmps := #[u0, u1, .pointer (some ⟨w.heap.size, 0, none⟩), u3, u4, u5, fv, u7, u8, u9, u10, u11, u12, u13, u14, u15, u16, u17, u18, u19, u20, u21, u22, u23, u24, u25, u26, u27, u28, u29, u30, u31, u32, u33, u34, u35, u36, u37, u38, u39, u40, u41, u42, u43, u44, u45, u46, u47, u48, u49, u50, u51, u52, u53, u54, u55, u56, u57, u58, u59, u60, u61, u62, u63, u64, u65, u66, u67, u68, u69, u70, u71, u72, u73, u74, u75, u76, u77, u78], defers := [] }
/-- What holds at the label. -/
def ProbeJ (w : World) (n : Int) (lv : Value) (ll : List (List Int)) (res : Option (List Int)) (g : Nat) (a' : Act) (wr : World) : Prop :=
  ∃ (f : List Int) (fv : Value), OwnI wr w.heap.size fv f ∧ Ex w wr ∧ OwnB wr w.heap.size [.int .i64 n, lv] 24 ∧ Hid (probeG n ll f = res) ∧ openN n f ≤ g ∧ ProbeFrame w fv a'
set_option maxRecDepth 100000 in
set_option maxHeartbeats 4000000 in
theorem probeProbe_any (n : Int) (lv av : Value) (ll : List (List Int)) (term : List Int) (w : World) (hR : RowsAt w lv ll) (hl : IntsAt w av term) (hb : term.length * 8 ≤ 140737488355328) :
    Calls Try.prog 17 #[.agg #[.int .i64 n, lv], av] w (TermRet w ((probeO n ll (termB term n) (termL term n)).getD []) (probeO n ll (termB term n) (termL term n)).isSome) := by
  have hR0 := hR
  have hl0 := hl
  obtain ⟨ra, rcap, rfl, _, _, r3⟩ := hR
  obtain ⟨a, cap, rfl, _, _, h3⟩ := hl
  clear r3 h3
  have HR : Hid (RowsAt w (.slice ra ll.length rcap) ll) := hR0
  have HCk : Hid (∀ wa, Ex w wa → Calls Try.prog 33 #[.agg #[.int .i64 n, .slice ra ll.length rcap]] wa fun e w' => e = .returned (.int .i64 (theoryErr n ll)) ∧ Ex wa w') := fun wa hx => theoryCheck_any n _ ll wa (hR0.ex hx)
  have HTe : Hid (∀ wa, Ex w wa → Calls Try.prog 18 #[.slice a term.length cap, .int .i64 n] wa (TermRet wa (termL term n) (termB term n))) := fun wa hx => litTerm_any _ term n wa (hl0.ex hx) hb
  have HCl : Hid (∀ wa fv f, Ex w wa → IntsAt wa fv f → Calls Try.prog 30 #[.agg #[.int .i64 n, .slice ra ll.length rcap], fv] wa (TermRet wa (closL n ll f) (closB n ll f))) := fun wa fv f hx hf => unitClosure_any n _ fv ll f wa (hR0.ex hx) hf
  have hres0 : Hid (∃ res, res = probeO n ll (termB term n) (termL term n)) := ⟨_, rfl⟩
  have HP : Hid (probeO n ll (termB term n) (termL term n) = if theoryErr n ll = 0 ∧ termB term n = true then probeG n ll (termL term n) else none) := rfl
  have Herr : Hid (theoryErr n ll = 0 → 0 ≤ n ∧ n ≤ 128) := fun h => ⟨(theoryErr_zero h).1, (theoryErr_zero h).2.1⟩
  generalize probeO n ll (termB term n) (termL term n) = res at *
  have hbox := OwnB.new w [.int .i64 n, .slice ra ll.length rcap] 24
  have hxa := Ex.alloc w (.cells #[.int .i64 n, .slice ra ll.length rcap] 24)
  clear hR0 hl0 hres0 hb
  by_cases he : theoryErr n ll = 0
  rotate_left
  · have hr : res = none := by rw [HP.out, if_neg (fun h => he h.1)]
    have he' : (theoryErr n ll != 0) = true := by simp [he]
    subst hr
    clear HP HR HTe HCl Herr he
    generalize theoryErr n ll = ER at *
    go_enter Try.func17, Try.ntmps17
    go_wp2_with fail
    go_step3
    go_wp2_with fail
    refine (HCk.out _ hxa).mono ?_
    rintro e w2 ⟨rfl, hx2⟩
    go_wp2
    go_ret2
    exact ⟨_, rfl, OwnI.nil _ _, hxa.trans hx2⟩
  obtain ⟨n0, n1⟩ := Herr.out he
  rw [he] at HCk
  cases ht : termB term n with
  | false =>
    have hr : res = none := by rw [HP.out, ht]; simp
    rw [ht] at HTe
    subst hr
    clear HP HR HCl Herr ht
    generalize termL term n = TL at *
    go_enter Try.func17, Try.ntmps17
    go_wp2_with fail
    go_step3
    go_wp2_with fail
    refine (HCk.out _ hxa).mono ?_
    rintro e w2 ⟨rfl, hx2⟩
    have c0 := (hbox.ex hx2).cell 0
    have z2 := (hbox.ex hx2).lt
    clear HCk
    go_wp2_with fail
    refine (HTe.out _ (hxa.trans hx2)).mono ?_
    rintro e w3 ⟨v3, rfl, ho3, hx3⟩
    clear HTe c0 z2
    go_wp2
    go_ret2
    exact ⟨_, rfl, OwnI.nil _ _, (hxa.trans hx2).trans hx3⟩
  | true =>
    have Hres : Hid (probeG n ll (termL term n) = res) := by show _ = _; rw [HP.out, if_pos ⟨he, ht⟩]
    rw [ht] at HTe
    clear HP HR Herr ht
    have HE : Hid (theoryErr n ll = 0) := he
    clear he
    generalize termL term n = TL at *
    go_enter Try.func17, Try.ntmps17
    go_wp2_with fail
    refine wp_scope_ghost 0 (ProbeJ w n (.slice ra ll.length rcap) ll res) rfl ?pass ?first
    case first =>
      intro J' HPass
      go_wp2_with fail
      refine (HCk.out _ hxa).mono ?_
      rintro e w2 ⟨rfl, hx2⟩
      have c0 := (hbox.ex hx2).cell 0
      have z2 := (hbox.ex hx2).lt
      clear HCk
      go_wp2_with fail
      refine (HTe.out _ (hxa.trans hx2)).mono ?_
      rintro e w3 ⟨v3, rfl, ho3, hx3⟩
      have hxw := (hxa.trans hx2).trans hx3
      have hb3 := (hbox.ex hx2).ex hx3
      have ho4 := ho3.base ((hxa.trans hx2).size)
      clear HTe c0 z2 hbox hxa hx2 hx3 ho3
      go_wp2
      go_step3
      rename_i K hK
      refine hK _ _ (HPass.out (openN n TL) _ _ ⟨TL, v3, ho4, hxw, hb3, Hres, Nat.le_refl _, ?_⟩)
      exact ⟨_, _, _, _, _, _, _, _, _, _, _, _, _, _, _, _, _, _, _, _, _, _, _, _, _, _, _, _, _, _, _, _, _, _, _, _, _, _, _, _, _, _, _, _, _, _, _, _, _, _, _, _, _, _, _, _, _, _, _, _, _, _, _, _, _, _, _, _, _, _, _, _, _, _, _, _, _, rfl⟩
    case pass =>
      clear hbox hxa HTe HCk Hres TL
      intro J' g a' wr hJ HJ
      obtain ⟨f, fv, hO, hx, hB, hr, hg, hfr⟩ := hJ
      obtain ⟨u0, u1, u3, u4, u5, u7, u8, u9, u10, u11, u12, u13, u14, u15, u16, u17, u18, u19, u20, u21, u22, u23, u24, u25, u26, u27, u28, u29, u30, u31, u32, u33, u34, u35, u36, u37, u38, u39, u40, u41, u42, u43, u44, u45, u46, u47, u48, u49, u50, u51, u52, u53, u54, u55, u56, u57, u58, u59, u60, u61, u62, u63, u64, u65, u66, u67, u68, u69, u70, u71, u72, u73, u74, u75, u76, u77, u78, rfl⟩ := hfr
      have hI := hO.ints
      obtain ⟨pa, pc, rfl, _, _, _⟩ := hI
      have hI := hO.ints
      have c0 := hB.cell 0
      have c1 := hB.cell 1
      have z0 := hB.lt
      have HC := HCl.out wr _ f hx hI
      cases hc : closB n ll f with
      | false =>
        have hres : res = none := by rw [← hr.out]; exact probe_no hc
        subst hres
        have HC' : Hid _ := HC
        rw [hc] at HC'
        clear HC HCl hc hr hO hI hB
        generalize closL n ll f = CL at *
        go_wp2_with fail
        refine Calls.mono HC'.out ?_
        rintro e w2 ⟨v2, rfl, ho2, hx2⟩
        go_wp2
        simp only [Exit.jump]
        go_ret2
        exact ⟨_, rfl, OwnI.nil _ _, hx.trans hx2⟩
      | true =>
        have hlen : (closL n ll f).length ≤ 256 := closL_len
        have HEnd : Hid (failF n ll (closL n ll f) n.toNat 1 = none → res = some (closL n ll f)) := fun h => by rw [← hr.out]; exact probe_end hc h
        have HStep : Hid (∀ x, failF n ll (closL n ll f) n.toNat 1 = some x → probeG n ll (closL n ll f ++ [-x]) = res ∧ openN n (closL n ll f ++ [-x]) < g) := fun x h => ⟨by rw [← hr.out]; exact (probe_step hc h).symm, Nat.lt_of_lt_of_le (open_less hc h) hg⟩
        have HC' : Hid _ := HC
        rw [hc] at HC'
        clear HC hc hr hO hI hg
        generalize closL n ll f = G at *
        go_wp2_with fail
        refine Calls.mono HC'.out ?_
        rintro e w2 ⟨v2, rfl, ho2, hx2⟩
        have hx3 := hx.trans hx2
        have ho3 := ho2.base hx.size
        have hB3 := hB.ex hx2
        have hG := ho3.ints
        obtain ⟨qa, qc, rfl, hqle, hqc, _⟩ := hG
        have hG := ho3.ints.full
        have HH : Hid (∀ v wa, Ex w2 wa → Calls Try.prog 39 #[.slice qa G.length qc, .int .i64 v] wa fun e w' => e = .returned (.bool (hasV G v)) ∧ Ex wa w') := fun v wa h => probeHas_any _ G v wa (ho3.ints.ex h)
        have HRet : Hid (∀ wr, Ex w2 wr → failF n ll G n.toNat 1 = none → TermRet w (res.getD []) res.isSome (.returned (.tuple #[.slice qa G.length qc, .bool true])) wr) := fun wr h hn => by
          rw [HEnd.out hn]; exact ⟨_, rfl, ho3.ex h, hx3.trans h⟩
        clear HC' ho2 ho3 hx2 hx hB c0 c1 z0 HEnd
        have hGl : Hid (∃ L, L = G.length) := ⟨_, rfl⟩
        go_wp2
        go_loopw [6, 8] (fun fv i wr => ∃ v : Int, 1 ≤ v ∧ v ≤ n + 1 ∧ fv = .slice qa G.length qc ∧ i = .int .i64 v ∧ Ex w2 wr ∧ Hid (failF n ll G n.toNat 1 = failF n ll G (n + 1 - v).toNat v)) (fun _ i _ => (n + 1 - intOf i).toNat)
        case atStart => exact ⟨1, Int.le_refl _, by omega, rfl, rfl, Ex.refl _, by show _ = _; rw [show n + 1 - 1 = n by omega]⟩
        case round =>
          obtain ⟨v, hv1, hv2, rfl, rfl, hxr, hF⟩ := hrel
          have c0 := (hB3.ex hxr).cell 0
          have c1 := (hB3.ex hxr).cell 1
          have z0 := (hB3.ex hxr).lt
          by_cases hlt : v ≤ n
          · have hm : (n + 1 - v).toNat = (n - v).toNat + 1 := by omega
            have hm2 : n + 1 - (v + 1) = n - v := by omega
            have hv3 : v ≤ 128 := by omega
            have HHv := HH.out v wr hxr
            have HHv' : Hid _ := HHv
            cases hh : hasV G v with
            | true =>
              have hF2 : Hid (failF n ll G n.toNat 1 = failF n ll G (n + 1 - (v + 1)).toNat (v + 1)) := by show _ = _; rw [hF.out, hm, hm2]; exact fail_has hh
              rw [hh] at HHv'
              clear hF HHv hm hm2 hh
              go_wp2_with fail
              refine Calls.mono HHv'.out ?_
              rintro e w4 ⟨rfl, hx4⟩
              clear HHv' c0 c1 z0
              go_wp2
              go_roundw
              case rel => exact ⟨v + 1, by omega, by omega, rfl, by go_num, hxr.trans hx4, hF2⟩
              case measure => simp [intOf]; omega
            | false =>
              have hB2 : Hid ((∀ j, j < 2 → closB n ll (G ++ [lit2 v j]) = true) → failF n ll G n.toNat 1 = failF n ll G (n + 1 - (v + 1)).toNat (v + 1)) := fun h => by rw [hF.out, hm, hm2]; exact fail_both hh h
              have hA2 : Hid (∀ k, k < 2 → (∀ j, j < k → closB n ll (G ++ [lit2 v j]) = true) → closB n ll (G ++ [lit2 v k]) = false → failF n ll G n.toNat 1 = some (lit2 v k)) := fun k hk h hn => by rw [hF.out, hm]; exact fail_at hh hk h hn
              rw [hh] at HHv'
              clear hF HHv hm hm2 hh
              go_wp2_with fail
              refine Calls.mono HHv'.out ?_
              rintro e w4 ⟨rfl, hx4⟩
              clear HHv' c0 c1 z0
              have oL := OwnB.new w4 [.int .i64 v, .int .i64 (-v)] 3
              have hxL := (hxr.trans hx4).alloc' (.cells #[.int .i64 v, .int .i64 (-v)] 3)
              go_wp2
              generalize w4.alloc (.cells #[.int .i64 v, .int .i64 (-v)] 3) = w5 at *
              generalize w4.heap.size = LB at *
              go_loopw [6, 47] (fun fv ix wq => ∃ k : Nat, k ≤ 2 ∧ fv = .slice qa G.length qc ∧ ix = .int .i64 k ∧ Ex w5 wq ∧ Hid (∀ j, j < k → closB n ll (G ++ [lit2 v j]) = true)) (fun _ ix _ => 2 - (intOf ix).toNat)
              case atStart => exact ⟨0, by omega, rfl, rfl, Ex.refl _, fun j hj => (by omega)⟩
              case round =>
                obtain ⟨k, hk, rfl, rfl, hxq, hj⟩ := hrel
                have hxw := hxL.trans hxq
                by_cases hlt2 : k < 2
                · have hcell : wr.cell? ⟨LB, k, none⟩ = some (.int .i64 (lit2 v k)) := by rw [(oL.ex hxq).cell, lit2_cell hlt2]
                  have hbd := lit2_bound (k := k) hv1 hv3
                  have hLB := (oL.ex hxq).lt
                  have HA3 : Hid _ := hA2.out k hlt2 hj.out
                  have hGq := hG.ex hxw
                  have c0 := (hB3.ex hxw).cell 0
                  have c1 := (hB3.ex hxw).cell 1
                  have z0 := (hB3.ex hxw).lt
                  have HC2 : Hid (∀ wa fv, Ex wr wa → IntsAt wa fv (G ++ [lit2 v k]) → Calls Try.prog 30 #[.agg #[.int .i64 n, .slice ra ll.length rcap], fv] wa (TermRet wa (closL n ll (G ++ [lit2 v k])) (closB n ll (G ++ [lit2 v k])))) := fun wa fv h hf => HCl.out wa fv _ (hx3.trans (hxw.trans h)) hf
                  have hj2 : Hid (closB n ll (G ++ [lit2 v k]) = true → ∀ j, j < k + 1 → closB n ll (G ++ [lit2 v j]) = true) := fun h j hjk => by
                    by_cases e : j = k
                    · subst e; exact h
                    · exact hj.out j (by omega)
                  have HS3 : Hid (closB n ll (G ++ [lit2 v k]) = false → probeG n ll (G ++ [-lit2 v k]) = res ∧ openN n (G ++ [-lit2 v k]) < g) := fun h => HStep.out _ (HA3.out h)
                  clear HA3 hA2 hB2 hj
                  generalize closL n ll (G ++ [lit2 v k]) = CL2 at *
                  cases hcb : closB n ll (G ++ [lit2 v k]) with
                  | true =>
                    have hj3 : Hid _ := hj2.out hcb
                    rw [hcb] at HC2
                    clear hj2 HS3 hcb
                    generalize lit2 v k = l at *
                    go_wp2
                    go_region_law (first | (refine step_append_full (by rfl) (.tmp 58) (.tmp 60) (by rfl) (by rfl) (by rfl) (hGq.ex ((Ex.alloc wr _).drew)) (intsAt_one wr _ _) (by omega) ?_; intro v6 w6 ho6 hx6; have c06 := ex_cell (ex_cell c0 ((Ex.alloc wr _).drew)) hx6; have c16 := ex_cell (ex_cell c1 ((Ex.alloc wr _).drew)) hx6) | (go_simp; go_at_call 30; refine (HC2.out _ _ (((Ex.alloc wr _).drew).trans hx6) ho6.ints).mono ?_; rintro e w7 ⟨v7, rfl, ho7, hx7⟩))
                    all_goals (go_wp2; go_roundw)
                    all_goals first | exact ⟨k + 1, by omega, rfl, by go_num, hxq.trans ((((Ex.alloc wr _).drew).trans hx6).trans hx7), hj3⟩ | (simp [intOf]; omega)
                  | false =>
                    have HS4 := HS3.out hcb
                    rw [hcb] at HC2
                    clear hj2 HS3 hcb
                    generalize lit2 v k = l at *
                    have HJ4 : Hid (∀ a' w' fv, OwnI w' w.heap.size fv (G ++ [-l]) → Ex wr w' → ProbeFrame w fv a' → J' a' w') := fun a' w' fv ho hxx hfr => HJ.out _ _ _ HS4.2 ⟨G ++ [-l], fv, ho, hx3.trans (hxw.trans hxx), hB3.ex (hxw.trans hxx), HS4.1, Nat.le_refl _, hfr⟩
                    clear HS4 HJ
                    go_wp2
                    go_region_law (first | (refine step_append_full (by rfl) (.tmp 58) (.tmp 60) (by rfl) (by rfl) (by rfl) (hGq.ex ((Ex.alloc wr _).drew)) (intsAt_one wr _ _) (by omega) ?_; intro v6 w6 ho6 hx6; have c06 := ex_cell (ex_cell c0 ((Ex.alloc wr _).drew)) hx6; have c16 := ex_cell (ex_cell c1 ((Ex.alloc wr _).drew)) hx6) | (go_simp; go_at_call 30; refine (HC2.out _ _ (((Ex.alloc wr _).drew).trans hx6) ho6.ints).mono ?_; rintro e w7 ⟨v7, rfl, ho7, hx7⟩))
                    all_goals (clear c06 c16 ho6)
                    all_goals have hx8 := (((Ex.alloc wr _).drew).trans hx6).trans hx7
                    all_goals (go_wp2_with (at_builtin; refine wpList_append_full rfl (.tmp 72) (.tmp 75) rfl rfl rfl (hGq.ex (hx8.alloc' _)) (intsAt_fresh w7 (-l) _) (by omega) ?_))
                    all_goals intro v9 w9 ho9 hx9
                    all_goals have ho10 := ho9.base (base' := w.heap.size) (by have := (hx3.trans (hxw.trans hx8)).size; omega)
                    all_goals clear ho9
                    all_goals go_wp2
                    all_goals go_step3
                    all_goals refine ⟨rfl, HJ4.out _ _ _ ho10 ((hx8.alloc' _).trans hx9) ?_⟩
                    all_goals exact ⟨_, _, _, _, _, _, _, _, _, _, _, _, _, _, _, _, _, _, _, _, _, _, _, _, _, _, _, _, _, _, _, _, _, _, _, _, _, _, _, _, _, _, _, _, _, _, _, _, _, _, _, _, _, _, _, _, _, _, _, _, _, _, _, _, _, _, _, _, _, _, _, _, _, _, _, _, _, rfl⟩
                · have hend : Hid _ := hB2.out fun j h => hj.out j (by omega)
                  clear hB2 hA2 hj
                  go_wp2
                  go_roundw
                  case rel => exact ⟨v + 1, by omega, by omega, rfl, by go_num, hxw, hend⟩
                  case measure => simp [intOf]; omega
          · have hn : failF n ll G n.toNat 1 = none := by rw [hF.out, show (n + 1 - v).toNat = 0 by omega]; rfl
            have hret := HRet.out wr hxr hn
            clear hF HRet hn
            go_wp2
            simp only [Exit.jump]
            go_ret2
            exact hret
end Go.Proofs.Ytnhlfhoeglnajaa
