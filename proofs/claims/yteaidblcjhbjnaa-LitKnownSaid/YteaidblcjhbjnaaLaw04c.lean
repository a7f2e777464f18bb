/- Chapter 04: LitSame, LitFalse, LitFollows: the walks. No condition. -/
import Derived.Test.YteaidblcjhbjnaaLaw04b
import Derived.Test.YteaidblcjhbjnaaLaw04p
import Derived.Test.YteaidblcjhbjnaaFalse1
namespace Go.Proofs.Yteaidblcjhbjnaa
set_option linter.unusedSimpArgs false
set_option linter.unusedVariables false
open Go.RowKit
set_option maxRecDepth 100000 in
set_option maxHeartbeats 4000000 in
theorem LitSame_any (x y : Nat) (lv : Value) (n : Int) (l : List Int) (w : World) (hx : x < 18446744073709551616) (hy : y < 18446744073709551616) (hl : IntsAt w lv l) (_ : (Lit.int .i64 n).wf = true) :
    Calls Try.prog 9 #[.agg #[.int .u64 x, .int .u64 y], lv, .int .i64 n] w fun e w' => e = .returned (.bool true) ∧ Ex w w' := by
  by_cases hb : 500 < l.length
  · obtain ⟨a, cap, rfl, h1, h2, h3⟩ := hl
    unfold maxLen at h2
    clear h3
    go_enter Try.func9, Try.ntmps9
    go_wp2_with (refine (works04_any _).mono ?_; rintro e w' ⟨rfl, hx⟩)
    go_ret
    exact ⟨rfl, (Ex.alloc _ _).trans hx⟩
  have H1 : Hid (∀ wa, Ex w wa → Calls Try.prog 20 #[lv, .int .i64 n] wa (ClauseRet wa (clauseL l n) (clauseB l n) (clauseE l n))) := fun wa hx => litClause_any lv l n wa (hl.ex hx) (by omega)
  have H2 : Hid (∀ wa, Ex w wa → Calls Try.prog 18 #[lv, .int .i64 n] wa (TermRet wa (termL l n) (termB l n))) := fun wa hx => litTerm_any lv l n wa (hl.ex hx) (by omega)
  have HA : Hid (∀ wa u m, IntsAt wa u m → Calls Try.prog 32 #[.agg #[.int .u64 x, .int .u64 y], u] wa fun e w' => e = .returned (.bool (m.all (holdsB x y))) ∧ Ex wa w') := fun wa u m h => litAll_any x y hx hy u m wa h
  have HN : Hid (∀ wa u m, IntsAt wa u m → Calls Try.prog 27 #[.agg #[.int .u64 x, .int .u64 y], u] wa fun e w' => e = .returned (.bool (m.any (holdsB x y))) ∧ Ex wa w') := fun wa u m h => litAny_any x y hx hy u m wa h
  have hl0 := hl
  clear hx hy
  by_cases hv : l.all (litValid · n) = true
  rotate_left
  · obtain ⟨e1, e2, e3⟩ := same_bad (l := l) (n := n) (by simpa using hv)
    rw [e1, e2, e3] at H1
    clear e1 e2 e3 H2 HA HN hv
    obtain ⟨a, cap, rfl, h1, h2, h3⟩ := hl
    unfold maxLen at h2
    clear h3
    go_enter Try.func9, Try.ntmps9
    go_wp2_with fail
    generalize hw1 : w.alloc (.cells #[.int .u64 x, .int .u64 y] 39) = w1
    have hx1 : Ex w w1 := hw1 ▸ Ex.alloc _ _
    have c0 : w1.cell? ⟨w.heap.size, 0, none⟩ = some (.int .u64 x) := by rw [← hw1]; simp
    have c1 : w1.cell? ⟨w.heap.size, 1, none⟩ = some (.int .u64 y) := by rw [← hw1]; simp
    clear hw1
    refine (H1.out _ hx1).mono ?_
    rintro e w3 ⟨v1, rfl, ho1, hx2⟩
    obtain ⟨p1, q1, rfl, _, _, _⟩ := ho1.ints
    replace hx1 := hx1.trans hx2
    replace c0 := ex_cell c0 hx2
    replace c1 := ex_cell c1 hx2
    clear hx2
    go_wp2_with (refine (works04_any _).mono ?_; rintro e w' ⟨rfl, hx⟩)
    go_ret
    exact ⟨rfl, hx1.trans hx⟩
  · obtain ⟨k1, k2, k3, k4, k5, k6⟩ := same_ok hv x y
    rw [k5, k6] at H1
    rw [k5] at k4
    have HCL : Hid (∀ wa u, IntsAt wa u (clauseL l n) → Calls Try.prog 27 #[.agg #[.int .u64 x, .int .u64 y], u] wa fun e w' => e = .returned (.bool (l.any (holdsB x y))) ∧ Ex wa w') := fun wa u h => k3 ▸ HN.out wa u _ h
    have HLN : Hid (∀ wa, Ex w wa → Calls Try.prog 27 #[.agg #[.int .u64 x, .int .u64 y], lv] wa fun e w' => e = .returned (.bool (l.any (holdsB x y))) ∧ Ex wa w') := fun wa hx => HN.out wa lv l (hl.ex hx)
    have HLA : Hid (∀ wa, Ex w wa → Calls Try.prog 32 #[.agg #[.int .u64 x, .int .u64 y], lv] wa fun e w' => e = .returned (.bool (l.all (holdsB x y))) ∧ Ex wa w') := fun wa hx => HA.out wa lv l (hl.ex hx)
    have HTA : Hid (∀ wa u, IntsAt wa u (termL l n) → Calls Try.prog 32 #[.agg #[.int .u64 x, .int .u64 y], u] wa fun e w' => e = .returned (.bool ((termL l n).all (holdsB x y))) ∧ Ex wa w') := fun wa u h => HA.out wa u _ h
    have K1 : Hid (termB l n = true → (termL l n).all (holdsB x y) = l.all (holdsB x y)) := k1
    have K2 : Hid (termB l n = false → l.all (holdsB x y) = false) := k2
    have K4 : Hid ((!termB l n) = true → l.any (holdsB x y) = true) := k4
    clear HA HN k1 k2 k3 k4 k5 k6 hv
    generalize (termL l n).all (holdsB x y) = TA at *
    generalize l.all (holdsB x y) = LA at *
    generalize l.any (holdsB x y) = LN at *
    generalize termB l n = TB at *
    generalize termL l n = TL at *
    generalize clauseL l n = CL at *
    obtain ⟨a, cap, rfl, h1, h2, h3⟩ := hl
    unfold maxLen at h2
    clear h3
    cases TB
    · obtain rfl := K2.out rfl
      obtain rfl := K4.out rfl
      clear K1 K2 K4
      go_enter Try.func9, Try.ntmps9
      go_wp2_with fail
      generalize hw1 : w.alloc (.cells #[.int .u64 x, .int .u64 y] 39) = w1
      have hx1 : Ex w w1 := hw1 ▸ Ex.alloc _ _
      have c0 : w1.cell? ⟨w.heap.size, 0, none⟩ = some (.int .u64 x) := by rw [← hw1]; simp
      have c1 : w1.cell? ⟨w.heap.size, 1, none⟩ = some (.int .u64 y) := by rw [← hw1]; simp
      clear hw1
      refine (H1.out _ hx1).mono ?_
      rintro e w3 ⟨v1, rfl, ho1, hx2⟩
      have hI1 := ho1.ints
      obtain ⟨p1, q1, rfl, _, _, _⟩ := hI1
      have hI1 := ho1.ints
      clear ho1 H1
      replace hx1 := hx1.trans hx2
      replace c0 := ex_cell c0 hx2
      replace c1 := ex_cell c1 hx2
      clear hx2
      go_wp2_with fail
      refine (H2.out _ hx1).mono ?_
      rintro e w4 ⟨v2, rfl, ho2, hx2⟩
      have hI2 := ho2.ints
      obtain ⟨p2, q2, rfl, _, _, _⟩ := hI2
      have hI2 := ho2.ints
      replace hI1 := hI1.ex hx2
      clear ho2 H2
      replace hx1 := hx1.trans hx2
      replace c0 := ex_cell c0 hx2
      replace c1 := ex_cell c1 hx2
      clear hx2
      have c0x := ext_cell c0
      have c1x := ext_cell c1
      go_wp2
      refine wp_region_quiet_ext (by kernel_rfl) (by kernel_rfl) ?_
      repeat (go_big_quiet_step ((first | (go_at_call 32; first | exact Calls.quiet_ext (HLA.out _ (hx1.trans (ex_ext _ _))) | exact Calls.quiet_ext (HTA.out _ _ (hI2.ex (ex_ext _ _)))))))
      refine wpQuiet_nil ?_
      intro w5 hx2
      replace hI1 := hI1.ex hx2
      clear c0x c1x
      replace hx1 := hx1.trans hx2
      replace c0 := ex_cell c0 hx2
      replace c1 := ex_cell c1 hx2
      clear hx2
      have c0x := ext_cell c0
      have c1x := ext_cell c1
      go_wp2
      refine wp_region_quiet_ext (by kernel_rfl) (by kernel_rfl) ?_
      repeat (go_big_quiet_step ((first | (go_at_call 27; first | exact Calls.quiet_ext (HLN.out _ (hx1.trans (ex_ext _ _))) | exact Calls.quiet_ext (HCL.out _ _ (hI1.ex (ex_ext _ _)))) | (go_at_call 16; exact Calls.quiet_ext (works04_any _)))))
      refine wpQuiet_nil ?_
      intro w8 hx8
      go_wp2
      go_ret
      exact ⟨rfl, hx1.trans hx8⟩
    · obtain rfl := K1.out rfl
      clear K1 K2 K4
      go_enter Try.func9, Try.ntmps9
      go_wp2_with fail
      generalize hw1 : w.alloc (.cells #[.int .u64 x, .int .u64 y] 39) = w1
      have hx1 : Ex w w1 := hw1 ▸ Ex.alloc _ _
      have c0 : w1.cell? ⟨w.heap.size, 0, none⟩ = some (.int .u64 x) := by rw [← hw1]; simp
      have c1 : w1.cell? ⟨w.heap.size, 1, none⟩ = some (.int .u64 y) := by rw [← hw1]; simp
      clear hw1
      refine (H1.out _ hx1).mono ?_
      rintro e w3 ⟨v1, rfl, ho1, hx2⟩
      have hI1 := ho1.ints
      obtain ⟨p1, q1, rfl, _, _, _⟩ := hI1
      have hI1 := ho1.ints
      clear ho1 H1
      replace hx1 := hx1.trans hx2
      replace c0 := ex_cell c0 hx2
      replace c1 := ex_cell c1 hx2
      clear hx2
      go_wp2_with fail
      refine (H2.out _ hx1).mono ?_
      rintro e w4 ⟨v2, rfl, ho2, hx2⟩
      have hI2 := ho2.ints
      obtain ⟨p2, q2, rfl, _, _, _⟩ := hI2
      have hI2 := ho2.ints
      replace hI1 := hI1.ex hx2
      clear ho2 H2
      replace hx1 := hx1.trans hx2
      replace c0 := ex_cell c0 hx2
      replace c1 := ex_cell c1 hx2
      clear hx2
      have c0x := ext_cell c0
      have c1x := ext_cell c1
      go_wp2
      refine wp_region_quiet_ext (by kernel_rfl) (by kernel_rfl) ?_
      repeat (go_big_quiet_step ((first | (go_at_call 32; first | exact Calls.quiet_ext (HLA.out _ (hx1.trans (ex_ext _ _))) | exact Calls.quiet_ext (HTA.out _ _ (hI2.ex (ex_ext _ _)))))))
      refine wpQuiet_nil ?_
      intro w5 hx2
      replace hI1 := hI1.ex hx2
      clear c0x c1x
      replace hx1 := hx1.trans hx2
      replace c0 := ex_cell c0 hx2
      replace c1 := ex_cell c1 hx2
      clear hx2
      have c0x := ext_cell c0
      have c1x := ext_cell c1
      go_wp2
      refine wp_region_quiet_ext (by kernel_rfl) (by kernel_rfl) ?_
      repeat (go_big_quiet_step ((first | (go_at_call 27; first | exact Calls.quiet_ext (HLN.out _ (hx1.trans (ex_ext _ _))) | exact Calls.quiet_ext (HCL.out _ _ (hI1.ex (ex_ext _ _)))) | (go_at_call 16; exact Calls.quiet_ext (works04_any _)))))
      refine wpQuiet_nil ?_
      intro w8 hx8
      go_wp2
      go_ret
      exact ⟨rfl, hx1.trans hx8⟩
set_option maxRecDepth 100000 in
set_option maxHeartbeats 4000000 in
theorem LitFalse_any (lv : Value) (n : Int) (l : List Int) (w : World) (hl : IntsAt w lv l) (_ : (Lit.int .i64 n).wf = true) :
    Calls Try.prog 7 #[lv, .int .i64 n] w fun e w' => e = .returned (.bool true) ∧ Ex w w' := by
  by_cases hb : 500 < l.length
  · obtain ⟨a, cap, rfl, h1, h2, h3⟩ := hl
    unfold maxLen at h2
    clear h3
    go_enter Try.func7, Try.ntmps7
    go_wp2_with (refine (works04_any _).mono ?_; rintro e w' ⟨rfl, hx⟩)
    go_ret
    exact ⟨rfl, hx⟩
  have H1 : Hid (∀ wa, Ex w wa → Calls Try.prog 20 #[lv, .int .i64 n] wa (ClauseRet wa (clauseL l n) (clauseB l n) (clauseE l n))) := fun wa hx => litClause_any lv l n wa (hl.ex hx) (by omega)
  by_cases hv : l.all (litValid · n) = true
  rotate_left
  · obtain ⟨e1, e2, e3⟩ := same_bad (l := l) (n := n) (by simpa using hv)
    rw [e1, e2, e3] at H1
    clear e1 e2 e3 hv
    obtain ⟨a, cap, rfl, h1, h2, h3⟩ := hl
    unfold maxLen at h2
    clear h3
    go_enter Try.func7, Try.ntmps7
    go_wp2_with fail
    refine (H1.out _ (Ex.refl _)).mono ?_
    rintro e w3 ⟨v1, rfl, ho1, hx2⟩
    obtain ⟨p1, q1, rfl, _, _, _⟩ := ho1.ints
    go_wp2_with (refine (works04_any _).mono ?_; rintro e w' ⟨rfl, hx⟩)
    go_ret
    exact ⟨rfl, hx2.trans hx⟩
  have hvv := valid_vars hv
  have e1 : clauseL l n = orderL l := by unfold clauseL; rw [if_pos hv]
  have e2 : clauseB l n = oppB (orderL l) := by unfold clauseB; rw [hv]; rfl
  have e3 : clauseE l n = 0 := by unfold clauseE; rw [if_pos hv]
  rw [e1, e2, e3] at H1
  cases ho : oppB (orderL l) with
  | true =>
    rw [ho] at H1
    clear e1 e2 e3 hv hvv ho
    obtain ⟨a, cap, rfl, h1, h2, h3⟩ := hl
    unfold maxLen at h2
    clear h3
    go_enter Try.func7, Try.ntmps7
    go_wp2_with fail
    refine (H1.out _ (Ex.refl _)).mono ?_
    rintro e w3 ⟨v1, rfl, ho1, hx2⟩
    obtain ⟨p1, q1, rfl, _, _, _⟩ := ho1.ints
    go_wp2_with (refine (works04_any _).mono ?_; rintro e w' ⟨rfl, hx⟩)
    go_ret
    exact ⟨rfl, hx2.trans hx⟩
  | false =>
    rw [ho] at H1
    have hov : ∀ x ∈ orderL l, litVar x ≠ 0 := fun x hx => hvv x ((orderL_mem hvv x).1 hx)
    have hop : ((orderL l).any fun x => (orderL l).contains (-x)) = false := by
      rw [← opp_order hov, show orderL (orderL l) = orderL l from strict_eq _ _ (orderL_strict _) (orderL_strict _) (fun x => by rw [orderL_mem hov])]
      exact ho
    have HF : Hid (∀ wa u, IntsAt wa u (orderL l) → Calls Try.prog 28 #[u] wa (FalseRet wa (orderL l))) := fun wa u h => false1_any u _ wa h hov
    have HN : Hid (∀ wa u (x y : Nat), x < 18446744073709551616 → y < 18446744073709551616 → (∀ u : Int, 1 ≤ u → u ≤ 128 → hasB x y u = (orderL l).contains (-u)) → IntsAt wa u (orderL l) → Calls Try.prog 27 #[.agg #[.int .u64 x, .int .u64 y], u] wa fun e w' => e = .returned (.bool false) ∧ Ex wa w') := fun wa u x y hx hy hs h => by
      have := litAny_any x y hx hy u _ wa h
      rwa [false_truth hov hop hs] at this
    have HV : Hid (∀ k, k < (orderL l).length → ∀ wa, Calls Try.prog 13 #[.int .i64 ((orderL l).getD k 0)] wa fun e w' => e = .returned (.int .i64 (litVar ((orderL l).getD k 0))) ∧ wa = w') := fun k _ wa => r04Var_any _ wa
    have HV2 : Hid (∀ k, k < (orderL l).length → litVar ((orderL l).getD k 0) ≠ 0) := fun k hk => hov _ (by rw [getD_getElem hk]; exact List.getElem_mem hk)
    clear e1 e2 e3 hv hvv ho hov hop
    generalize orderL l = OL at *
    obtain ⟨a, cap, rfl, h1, h2, h3⟩ := hl
    unfold maxLen at h2
    clear h3
    go_enter Try.func7, Try.ntmps7
    go_wp2_with fail
    refine (H1.out _ (Ex.refl _)).mono ?_
    rintro e w3 ⟨v1, rfl, ho1, hx2⟩
    have hI1 := ho1.ints
    obtain ⟨p1, q1, rfl, m1, n1, _⟩ := hI1
    have hI1 := ho1.ints
    unfold maxLen at n1
    clear ho1 H1
    go_wp2_with fail
    go_loop [8] (fun i => ∃ k : Nat, k ≤ OL.length ∧ i = .int .i64 k) (fun i => OL.length - (intOf i).toNat)
    case atStart => exact ⟨0, Nat.zero_le _, rfl⟩
    case round =>
      obtain ⟨k, hk, rfl⟩ := hrel
      by_cases hlt : k < OL.length
      · have hI2 := hI1
        obtain ⟨_, _, hv, _, _, h3⟩ := hI2
        cases hv
        obtain ⟨b, off, rfl, hb', hcell⟩ := h3 k hlt
        have HVk : Hid _ := HV.out k hlt
        have hz : (litVar (OL.getD k 0) == 0) = false := by rw [beq_eq_false_iff_ne]; exact HV2.out k hlt
        clear h3 HV HV2 HF HN
        generalize litVar (OL.getD k 0) = u at *
        generalize OL.getD k 0 = q at *
        go_wp2_with fail
        refine (HVk.out _).mono ?_
        rintro e w' ⟨rfl, rfl⟩
        go_wp2
        go_round
        case rel => exact ⟨k + 1, by omega, by go_num⟩
        case measure => simp [intOf]; omega
      · obtain rfl : k = OL.length := by omega
        go_wp2_with fail
        refine (HF.out _ _ hI1).mono ?_
        rintro e w4 ⟨x, y, rfl, hx, hy, hs, hx4⟩
        have HNk : Hid _ := HN.out w4 _ x y hx hy hs (hI1.ex hx4)
        clear hx hy hs HN HF HV HV2
        go_wp2_with fail
        refine Calls.mono HNk.out ?_
        rintro e w5 ⟨rfl, hx5⟩
        go_wp2_with (refine (works04_any _).mono ?_; rintro e w' ⟨rfl, hx⟩)
        go_ret
        exact ⟨rfl, ((hx2.trans hx4).trans hx5).trans hx⟩
set_option maxRecDepth 100000 in
set_option maxHeartbeats 4000000 in
theorem LitFollows_any (x y : Nat) (cv dv : Value) (v : Int) (c d : List Int) (w : World) (hx : x < 18446744073709551616) (hy : y < 18446744073709551616) (hc : IntsAt w cv c) (hd : IntsAt w dv d) (hv : (Lit.int .i64 v).wf = true) :
    Calls Try.prog 10 #[.agg #[.int .u64 x, .int .u64 y], cv, dv, .int .i64 v] w fun e w' => e = .returned (.bool true) ∧ Ex w w' := by
  by_cases hb : 500 < c.length
  · obtain ⟨a, cap, rfl, h1, h2, h3⟩ := hc
    obtain ⟨a', cap', rfl, h1', h2', h3'⟩ := hd
    unfold maxLen at h2 h2'
    clear h3 h3'
    go_enter Try.func10, Try.ntmps10
    go_wp2_with (refine (works04_any _).mono ?_; rintro e w' ⟨rfl, hx⟩)
    go_ret
    exact ⟨rfl, (Ex.alloc _ _).trans hx⟩
  by_cases hb' : 500 < d.length
  · obtain ⟨a, cap, rfl, h1, h2, h3⟩ := hc
    obtain ⟨a', cap', rfl, h1', h2', h3'⟩ := hd
    unfold maxLen at h2 h2'
    clear h3 h3'
    go_enter Try.func10, Try.ntmps10
    go_wp2_with (refine (works04_any _).mono ?_; rintro e w' ⟨rfl, hx⟩)
    go_ret
    exact ⟨rfl, (Ex.alloc _ _).trans hx⟩
  have H3 : Hid (∀ wa, Ex w wa → Calls Try.prog 23 #[cv, dv, .int .i64 v] wa (TermRet wa (resL c d v) (resOk c d v))) := fun wa hx => litResolve_any cv dv c d v wa (hc.ex hx) (hd.ex hx) hv (by omega)
  have HSu : Hid (∀ wa, Ex w wa → Calls Try.prog 25 #[cv, dv] wa fun e w' => e = .returned (.bool (c.all (d.contains ·))) ∧ Ex wa w') := fun wa hx => litSubsumes_any cv dv c d wa (hc.ex hx) (hd.ex hx)
  have HAc : Hid (∀ wa, Ex w wa → Calls Try.prog 27 #[.agg #[.int .u64 x, .int .u64 y], cv] wa fun e w' => e = .returned (.bool (c.any (holdsB x y))) ∧ Ex wa w') := fun wa hxx => litAny_any x y hx hy cv c wa (hc.ex hxx)
  have HAd : Hid (∀ wa, Ex w wa → Calls Try.prog 27 #[.agg #[.int .u64 x, .int .u64 y], dv] wa fun e w' => e = .returned (.bool (d.any (holdsB x y))) ∧ Ex wa w') := fun wa hxx => litAny_any x y hx hy dv d wa (hd.ex hxx)
  have HAr : Hid (∀ wa u, IntsAt wa u (resL c d v) → Calls Try.prog 27 #[.agg #[.int .u64 x, .int .u64 y], u] wa fun e w' => e = .returned (.bool ((resL c d v).any (holdsB x y))) ∧ Ex wa w') := fun wa u h => litAny_any x y hx hy u _ wa h
  have K1 : Hid (resOk c d v = true → c.any (holdsB x y) = true → d.any (holdsB x y) = true → (resL c d v).any (holdsB x y) = true) := fun h h1 h2 => res_truth h x y h1 h2
  have K2 : Hid (c.all (d.contains ·) = true → c.any (holdsB x y) = true → d.any (holdsB x y) = true) := fun h h1 => subs_truth h x y h1
  obtain ⟨a, cap, rfl, h1, h2, h3⟩ := hc
  obtain ⟨a', cap', rfl, h1', h2', h3'⟩ := hd
  unfold maxLen at h2 h2'
  clear h3 h3' hx hy hv
  generalize (resL c d v).any (holdsB x y) = AR at *
  generalize resL c d v = RL at *
  generalize resOk c d v = RB at *
  generalize c.all (d.contains ·) = SB at *
  generalize c.any (holdsB x y) = AC at *
  generalize d.any (holdsB x y) = AD at *
  cases RB <;> cases AC <;> cases AD <;> cases SB
  all_goals first
    | exact absurd (K2.out rfl rfl) (by decide)
    | skip
  all_goals try obtain rfl := K1.out rfl rfl rfl
  all_goals clear K1 K2
  all_goals (
    go_enter Try.func10, Try.ntmps10
    go_wp2_with fail
    generalize hw1 : w.alloc (.cells #[.int .u64 x, .int .u64 y] 39) = w1
    have hx1 : Ex w w1 := hw1 ▸ Ex.alloc _ _
    have c0 : w1.cell? ⟨w.heap.size, 0, none⟩ = some (.int .u64 x) := by rw [← hw1]; simp
    have c1 : w1.cell? ⟨w.heap.size, 1, none⟩ = some (.int .u64 y) := by rw [← hw1]; simp
    clear hw1
    refine (H3.out _ hx1).mono ?_
    rintro e w3 ⟨v1, rfl, ho1, hx2⟩
    have hI1 := ho1.ints
    obtain ⟨p1, q1, rfl, _, _, _⟩ := hI1
    have hI1 := ho1.ints
    clear ho1 H3
    replace hx1 := hx1.trans hx2
    replace c0 := ex_cell c0 hx2
    replace c1 := ex_cell c1 hx2
    clear hx2
    go_wp2_with (first
      | (go_at_call 27; (first | refine (HAc.out _ hx1).mono ?_ | refine (HAd.out _ hx1).mono ?_ | refine (HAr.out _ _ hI1).mono ?_); rintro e w5 ⟨rfl, hx2⟩; replace hx1 := hx1.trans hx2; replace c0 := ex_cell c0 hx2; replace c1 := ex_cell c1 hx2; replace hI1 := hI1.ex hx2; clear hx2)
      | (go_at_call 25; refine (HSu.out _ hx1).mono ?_; rintro e w5 ⟨rfl, hx2⟩; replace hx1 := hx1.trans hx2; replace c0 := ex_cell c0 hx2; replace c1 := ex_cell c1 hx2; replace hI1 := hI1.ex hx2; clear hx2)
      | (go_at_call 16; refine (works04_any _).mono ?_; rintro e w5 ⟨rfl, hx2⟩; replace hx1 := hx1.trans hx2; clear hx2))
    go_ret
    exact ⟨rfl, hx1⟩)
end Go.Proofs.Yteaidblcjhbjnaa
