/- Chapter 04: LitTerms, LitResolves: the walks. No condition. -/
import Derived.Test.YteaidblcjhbjnaaLaw04a
namespace Go.Proofs.Yteaidblcjhbjnaa
set_option linter.unusedSimpArgs false
set_option linter.unusedVariables false
open Go.RowKit
set_option maxRecDepth 100000 in
set_option maxHeartbeats 4000000 in
theorem LitTerms_any (lv : Value) (n : Int) (l : List Int) (w : World) (hl : IntsAt w lv l) (_ : (Lit.int .i64 n).wf = true) :
    Calls Try.prog 4 #[lv, .int .i64 n] w fun e w' => e = .returned (.bool true) ∧ Ex w w' := by
  by_cases hb : 500 < l.length
  · obtain ⟨a, cap, rfl, h1, h2, h3⟩ := hl
    unfold maxLen at h2
    clear h3
    go_enter Try.func4, Try.ntmps4
    go_wp2_with (refine (works04_any _).mono ?_; rintro e w' ⟨rfl, hx⟩)
    go_ret
    exact ⟨rfl, hx⟩
  · have H1 : Hid (∀ wa, Ex w wa → Calls Try.prog 17 #[lv] wa (OrdRet wa l)) := fun wa hx => copied_any lv l wa (hl.ex hx) (by omega)
    have H2 : Hid (∀ wa, Ex w wa → Calls Try.prog 18 #[lv, .int .i64 n] wa (TermRet wa (termL l n) (termB l n))) := fun wa hx => litTerm_any lv l n wa (hl.ex hx) (by omega)
    have H3 : Hid (∀ wa, Ex w wa → Calls Try.prog 19 #[lv, .int .i64 n] wa (TermRet wa (termL l n) (termB l n))) := fun wa hx => r04Term_any lv l n wa (hl.ex hx)
    have H4 : Hid (∀ wa, Ex w wa → Calls Try.prog 20 #[lv, .int .i64 n] wa (ClauseRet wa (clauseL l n) (clauseB l n) (clauseE l n))) := fun wa hx => litClause_any lv l n wa (hl.ex hx) (by omega)
    have H5 : Hid (∀ wa, Ex w wa → Calls Try.prog 21 #[lv, .int .i64 n] wa (ClauseRet wa (clauseL l n) (clauseB l n) (clauseE l n))) := fun wa hx => r04Clause_any lv l n wa (hl.ex hx)
    have HS : Hid (∀ (wa : World) (u v : Value) (l : List Int), IntsAt wa u l → IntsAt wa v l → Calls Try.prog 22 #[u, v] wa fun e w' => e = .returned (.bool true) ∧ Ex wa w') := fun wa u v l h k => by
      have := r04Same_any u v l l wa h k
      rwa [decide_eq_true rfl] at this
    have hl0 := hl
    obtain ⟨a, cap, rfl, h1, h2, h3⟩ := hl
    unfold maxLen at h2
    clear h3
    generalize termL l n = TL at *
    generalize termB l n = TB at *
    generalize clauseL l n = CL at *
    generalize clauseB l n = CB at *
    generalize clauseE l n = CE at *
    have hxa : Ex w w := Ex.refl w
    go_enter Try.func4, Try.ntmps4
    go_wp2_with fail
    refine (H1.out _ hxa).mono ?_
    rintro e w2 ⟨vw, rfl, how, hx2⟩
    have hIw := how.ints
    obtain ⟨pw, qw, rfl, haw, hbw, _⟩ := hIw
    unfold maxLen at hbw
    have hIw := how.ints
    replace hxa := hxa.trans hx2
    have hxw2 := hxa
    have hxb : Ex w2 w2 := Ex.refl w2
    clear how hx2 H1
    go_wp2_with fail
    refine (H2.out _ hxa).mono ?_
    rintro e w3 ⟨v1, rfl, ho1, hx2⟩
    have hI1 := ho1.ints
    obtain ⟨p1, q1, rfl, ha1, hb1, _⟩ := hI1
    unfold maxLen at hb1
    have hI1 := ho1.ints
    have hM1 := Mine.of_own ho1
    replace hxa := hxa.trans hx2
    replace hxb := hxb.trans hx2
    clear ho1 hx2 H2
    go_wp2_with fail
    refine (H3.out _ hxa).mono ?_
    rintro e w4 ⟨v2, rfl, ho2, hx2⟩
    have hI2 := ho2.ints
    obtain ⟨p2, q2, rfl, ha2, hb2, _⟩ := hI2
    unfold maxLen at hb2
    have hI2 := ho2.ints
    replace hM1 := hM1.ex hx2
    replace hI1 := hI1.ex hx2
    replace hxa := hxa.trans hx2
    replace hxb := hxb.trans hx2
    have hs34 := hx2.size
    clear ho2 hx2 H3
    go_wp2_with fail
    refine (H4.out _ hxa).mono ?_
    rintro e w5 ⟨v3, rfl, ho3, hx2⟩
    have hI3 := ho3.ints
    obtain ⟨p3, q3, rfl, ha3, hb3, _⟩ := hI3
    unfold maxLen at hb3
    have hI3 := ho3.ints
    have hM3 := Mine.of_own ho3
    have hs24 := hxb.size
    replace hM1 := hM1.ex hx2
    replace hI1 := hI1.ex hx2
    replace hI2 := hI2.ex hx2
    replace hxa := hxa.trans hx2
    replace hxb := hxb.trans hx2
    clear ho3 hx2 H4
    go_wp2_with fail
    refine (H5.out _ hxa).mono ?_
    rintro e w6 ⟨v4, rfl, ho4, hx2⟩
    have hI4 := ho4.ints
    obtain ⟨p4, q4, rfl, ha4, hb4, _⟩ := hI4
    unfold maxLen at hb4
    have hI4 := ho4.ints
    replace hM1 := hM1.ex hx2
    replace hM3 := hM3.ex hx2
    replace hI1 := hI1.ex hx2
    replace hI2 := hI2.ex hx2
    replace hI3 := hI3.ex hx2
    replace hxb := hxb.trans hx2
    clear ho4 hx2 H5
    go_wp2_with fail
    refine (HS.out _ _ _ _ hI1 hI2).mono ?_
    rintro e w7 ⟨rfl, hx2⟩
    replace hM1 := hM1.ex hx2
    replace hM3 := hM3.ex hx2
    replace hI3 := hI3.ex hx2
    replace hI4 := hI4.ex hx2
    replace hxb := hxb.trans hx2
    clear hx2 hI1 hI2
    go_wp2_with fail
    refine (HS.out _ _ _ _ hI3 hI4).mono ?_
    rintro e w8 ⟨rfl, hx2⟩
    replace hM1 := hM1.ex hx2
    replace hM3 := hM3.ex hx2
    replace hxb := hxb.trans hx2
    clear hx2 hI3 hI4
    have hxw : Ex w w2 := hxw2
    go_wp2_with fail
    go_loopw [16] (fun i wr => ∃ j : Nat, j ≤ TL.length ∧ i = .int .i64 j ∧ Ex w2 wr ∧ Mine wr w2.heap.size w3.heap.size p1 TL.length ∧ Mine wr w4.heap.size w5.heap.size p3 CL.length) (fun i _ => TL.length - (intOf i).toNat)
    case atStart => exact ⟨0, Nat.zero_le _, rfl, hxb, hM1, hM3⟩
    case round =>
      obtain ⟨j, hj, rfl, hxr, hMr, hNr⟩ := hrel
      clear hxb hM1 hM3
      by_cases hlt : j < TL.length
      · have hMr0 := hMr
        obtain ⟨g, cs, rfl, hg1, hg2, hB, hn⟩ := hMr (by omega)
        have hc : wr.cell? ⟨g, j, none⟩ = some (cs.getD j (.int .i64 0)) := by
          rw [hB.cell, List.getD_eq_getElem?_getD, List.getElem?_eq_getElem (by omega)]; rfl
        have hf := hB.free j
        have hM2 := hMr0.set (j := j) (.int .i64 99)
        have hN2 := hNr.setOther (b := g) (j := j) (by omega) (.int .i64 99)
        have hx2 := hxr.setCell (p := ⟨g, j, none⟩) hg1 (.int .i64 99)
        generalize cs.getD j (.int .i64 0) = old at *
        clear hB hMr hMr0 hNr hxr hn
        go_wp2
        go_roundw
        case rel => exact ⟨j + 1, by omega, by go_num, hx2, hM2, hN2⟩
        case measure => simp [intOf]; omega
      · obtain rfl : j = TL.length := by omega
        clear hMr
        go_wp2_with fail
        go_loopw [17] (fun i wr => ∃ j : Nat, j ≤ CL.length ∧ i = .int .i64 j ∧ Ex w2 wr ∧ Mine wr w4.heap.size w5.heap.size p3 CL.length) (fun i _ => CL.length - (intOf i).toNat)
        case atStart => exact ⟨0, Nat.zero_le _, rfl, hxr, hNr⟩
        case round =>
          obtain ⟨j, hj, rfl, hxr, hMr⟩ := hrel
          clear hNr
          by_cases hlt : j < CL.length
          · have hMr0 := hMr
            obtain ⟨g, cs, rfl, hg1, hg2, hB, hn⟩ := hMr (by omega)
            have hc : wr.cell? ⟨g, j, none⟩ = some (cs.getD j (.int .i64 0)) := by
              rw [hB.cell, List.getD_eq_getElem?_getD, List.getElem?_eq_getElem (by omega)]; rfl
            have hf := hB.free j
            have hM2 := hMr0.set (j := j) (.int .i64 99)
            have hx2 := hxr.setCell (p := ⟨g, j, none⟩) (show w2.heap.size ≤ g by omega) (.int .i64 99)
            generalize cs.getD j (.int .i64 0) = old at *
            clear hB hMr hMr0 hxr hn
            go_wp2
            go_roundw
            case rel => exact ⟨j + 1, by omega, by go_num, hx2, hM2⟩
            case measure => simp [intOf]; omega
          · obtain rfl : j = CL.length := by omega
            have hxx := hxw.trans hxr
            go_wp2_with fail
            refine (HS.out _ _ _ _ (hl0.ex hxx) (hIw.ex hxr)).mono ?_
            rintro e w9 ⟨rfl, hx9⟩
            go_wp2_with (refine (works04_any _).mono ?_; rintro e w' ⟨rfl, hx⟩)
            go_ret
            exact ⟨rfl, (hxx.trans hx9).trans hx⟩
set_option maxRecDepth 100000 in
set_option maxHeartbeats 4000000 in
theorem LitResolves_any (cv dv : Value) (v : Int) (c d : List Int) (w : World) (hc : IntsAt w cv c) (hd : IntsAt w dv d) (hv : (Lit.int .i64 v).wf = true) :
    Calls Try.prog 5 #[cv, dv, .int .i64 v] w fun e w' => e = .returned (.bool true) ∧ Ex w w' := by
  by_cases hb : 500 < c.length
  · obtain ⟨a, cap, rfl, h1, h2, h3⟩ := hc
    obtain ⟨a', cap', rfl, h1', h2', h3'⟩ := hd
    unfold maxLen at h2 h2'
    clear h3 h3'
    go_enter Try.func5, Try.ntmps5
    go_wp2_with (refine (works04_any _).mono ?_; rintro e w' ⟨rfl, hx⟩)
    go_ret
    exact ⟨rfl, hx⟩
  by_cases hb' : 500 < d.length
  · obtain ⟨a, cap, rfl, h1, h2, h3⟩ := hc
    obtain ⟨a', cap', rfl, h1', h2', h3'⟩ := hd
    unfold maxLen at h2 h2'
    clear h3 h3'
    go_enter Try.func5, Try.ntmps5
    go_wp2_with (refine (works04_any _).mono ?_; rintro e w' ⟨rfl, hx⟩)
    go_ret
    exact ⟨rfl, hx⟩
  · have H1 : Hid (∀ wa, Ex w wa → Calls Try.prog 17 #[cv] wa (OrdRet wa c)) := fun wa hx => copied_any cv c wa (hc.ex hx) (by omega)
    have H2 : Hid (∀ wa, Ex w wa → Calls Try.prog 17 #[dv] wa (OrdRet wa d)) := fun wa hx => copied_any dv d wa (hd.ex hx) (by omega)
    have H3 : Hid (∀ wa, Ex w wa → Calls Try.prog 23 #[cv, dv, .int .i64 v] wa (TermRet wa (resL c d v) (resOk c d v))) := fun wa hx => litResolve_any cv dv c d v wa (hc.ex hx) (hd.ex hx) hv (by omega)
    have H4 : Hid (∀ wa u1 u2, IntsAt wa u1 c → IntsAt wa u2 d → Calls Try.prog 24 #[u1, u2, .int .i64 v] wa (TermRet wa (resL c d v) (resOk c d v))) := fun wa u1 u2 h k => r04Resolve_any u1 u2 c d v wa h k (by omega)
    have HS : Hid (∀ (wa : World) (u v : Value) (l : List Int), IntsAt wa u l → IntsAt wa v l → Calls Try.prog 22 #[u, v] wa fun e w' => e = .returned (.bool true) ∧ Ex wa w') := fun wa u v l h k => by
      have := r04Same_any u v l l wa h k
      rwa [decide_eq_true rfl] at this
    have hc0 := hc
    have hd0 := hd
    obtain ⟨a, cap, rfl, h1, h2, h3⟩ := hc
    obtain ⟨a', cap', rfl, h1', h2', h3'⟩ := hd
    unfold maxLen at h2 h2'
    clear h3 h3' hv
    generalize resL c d v = RL at *
    generalize resOk c d v = RB at *
    have hxa : Ex w w := Ex.refl w
    go_enter Try.func5, Try.ntmps5
    go_wp2_with fail
    refine (H1.out _ hxa).mono ?_
    rintro e w2 ⟨vw, rfl, how, hx2⟩
    have hIw := how.ints
    obtain ⟨pw, qw, rfl, haw, hbw, _⟩ := hIw
    unfold maxLen at hbw
    have hIw := how.ints
    replace hxa := hxa.trans hx2
    clear how hx2 H1
    go_wp2_with fail
    refine (H2.out _ hxa).mono ?_
    rintro e w3 ⟨vy, rfl, hoy, hx2⟩
    have hIy := hoy.ints
    obtain ⟨py, qy, rfl, hay, hby, _⟩ := hIy
    unfold maxLen at hby
    have hIy := hoy.ints
    replace hIw := hIw.ex hx2
    replace hxa := hxa.trans hx2
    clear hoy hx2 H2
    go_wp2_with fail
    refine (H3.out _ hxa).mono ?_
    rintro e w4 ⟨v1, rfl, ho1, hx2⟩
    have hI1 := ho1.ints
    obtain ⟨p1, q1, rfl, ha1, hb1, _⟩ := hI1
    unfold maxLen at hb1
    have hI1 := ho1.ints
    replace hIw := hIw.ex hx2
    replace hIy := hIy.ex hx2
    replace hxa := hxa.trans hx2
    clear ho1 hx2 H3
    go_wp2_with fail
    refine (H4.out _ _ _ hIw hIy).mono ?_
    rintro e w5 ⟨v2, rfl, ho2, hx2⟩
    have hI2 := ho2.ints
    obtain ⟨p2, q2, rfl, ha2, hb2, _⟩ := hI2
    unfold maxLen at hb2
    have hI2 := ho2.ints
    replace hIw := hIw.ex hx2
    replace hIy := hIy.ex hx2
    replace hI1 := hI1.ex hx2
    replace hxa := hxa.trans hx2
    clear ho2 hx2 H4
    go_wp2_with fail
    refine (HS.out _ _ _ _ hI1 hI2).mono ?_
    rintro e w6 ⟨rfl, hx2⟩
    replace hIw := hIw.ex hx2
    replace hIy := hIy.ex hx2
    replace hxa := hxa.trans hx2
    clear hx2 hI1 hI2
    go_wp2_with fail
    refine (HS.out _ _ _ _ (hc0.ex hxa) hIw).mono ?_
    rintro e w7 ⟨rfl, hx2⟩
    replace hIy := hIy.ex hx2
    replace hxa := hxa.trans hx2
    clear hx2 hIw
    go_wp2_with fail
    refine (HS.out _ _ _ _ (hd0.ex hxa) hIy).mono ?_
    rintro e w8 ⟨rfl, hx2⟩
    replace hxa := hxa.trans hx2
    clear hx2 hIy
    go_wp2_with (refine (works04_any _).mono ?_; rintro e w' ⟨rfl, hx⟩)
    go_ret
    exact ⟨rfl, hxa.trans hx⟩
end Go.Proofs.Yteaidblcjhbjnaa
