/- Chapter 04: the examples (works), and the laws LitForms, LitTruths, LitSubsumes: the walks. No condition. -/
import Derived.Test.YteaidblcjhbjnaaAny04
import Derived.Test.YteaidblcjhbjnaaSubs04
import Derived.Test.YteaidblcjhbjnaaLits
namespace Go.Proofs.Yteaidblcjhbjnaa
set_option linter.unusedSimpArgs false
set_option linter.unusedVariables false
open Go.RowKit
set_option maxRecDepth 20000 in
set_option maxHeartbeats 4000000 in
theorem works04_any (w : World) : Calls Try.prog 16 #[] w fun e w' => e = .returned (.bool true) ∧ Ex w w' := by
  have H1 : Hid (∀ (wa : World) (v : Value), IntsAt wa v [3, -1, 3] → Calls Try.prog 18 #[v, .int .i64 3] wa (TermRet wa [-1, 3] true)) := fun wa v h => by
    have := litTerm_any v [3, -1, 3] 3 wa h (by decide)
    rwa [show termL [3, -1, 3] 3 = [-1, 3] by decide +kernel, show termB [3, -1, 3] 3 = true by decide +kernel] at this
  have H2 : Hid (∀ (wa : World) (v : Value), IntsAt wa v [3, -1, 3, -3] → Calls Try.prog 20 #[v, .int .i64 3] wa (ClauseRet wa [-1, -3, 3] true 0)) := fun wa v h => by
    have := litClause_any v [3, -1, 3, -3] 3 wa h (by decide)
    rwa [show clauseL [3, -1, 3, -3] 3 = [-1, -3, 3] by decide +kernel, show clauseB [3, -1, 3, -3] 3 = true by decide +kernel, show clauseE [3, -1, 3, -3] 3 = 0 by decide +kernel] at this
  have H3 : Hid (∀ (wa : World) (u v : Value), IntsAt wa u [1, 2] → IntsAt wa v [-1, 3, -2] → Calls Try.prog 23 #[u, v, .int .i64 1] wa (TermRet wa [-2, 2, 3] true)) := fun wa u v h k => by
    have := litResolve_any u v [1, 2] [-1, 3, -2] 1 wa h k (by decide) (by decide)
    rwa [show resL [1, 2] [-1, 3, -2] 1 = [-2, 2, 3] by decide +kernel, show resOk [1, 2] [-1, 3, -2] 1 = true by decide +kernel] at this
  have HS : Hid (∀ (wa : World) (u v : Value) (l : List Int), IntsAt wa u l → IntsAt wa v l → Calls Try.prog 22 #[u, v] wa fun e w' => e = .returned (.bool true) ∧ Ex wa w') := fun wa u v l h k => by
    have := r04Same_any u v l l wa h k
    rwa [decide_eq_true rfl] at this
  have HH1 : Hid (∀ (wa : World), Calls Try.prog 29 #[.agg #[.int .u64 1, .int .u64 0], .int .i64 1] wa fun e w' => e = .returned (.bool true) ∧ Ex wa w') := fun wa => by
    have := litHolds_any 1 0 (by decide) (by decide) 1 wa
    rwa [show holdsB 1 0 1 = true by decide +kernel] at this
  have HH2 : Hid (∀ (wa : World), Calls Try.prog 29 #[.agg #[.int .u64 1, .int .u64 0], .int .i64 2] wa fun e w' => e = .returned (.bool false) ∧ Ex wa w') := fun wa => by
    have := litHolds_any 1 0 (by decide) (by decide) 2 wa
    rwa [show holdsB 1 0 2 = false by decide +kernel] at this
  have HV : Hid (∀ (wa : World), Calls Try.prog 12 #[.int .i64 (-5)] wa fun e w' => e = .returned (.int .i64 5) ∧ wa = w') := fun wa => litVar_any (-5) wa
  go_enter Try.func16, Try.ntmps16
  go_wp2_with fail
  have hl := litAt0 w [3, -1, 3] 3 (by decide)
  refine (H1.out _ _ hl).mono ?_
  rintro e w1 ⟨v1, rfl, ho, hx1⟩
  have hI1 := ho.ints
  obtain ⟨p1, q1, rfl, _, _, _⟩ := hI1
  have hI1 := ho.ints
  replace hx1 := (Ex.alloc _ _).trans hx1
  clear ho hl H1
  go_wp2_with fail
  have hl := litAt0 w1 [3, -1, 3, -3] 3 (by decide)
  refine (H2.out _ _ hl).mono ?_
  rintro e w2 ⟨v2, rfl, ho, hx2⟩
  have hI2 := ho.ints
  obtain ⟨p2, q2, rfl, _, _, _⟩ := hI2
  have hI2 := ho.ints
  replace hx2 := (Ex.alloc _ _).trans hx2
  clear ho hl H2
  go_wp2_with fail
  have hl := litAt0 w2 [1, 2] 3 (by decide)
  have hk := litAt1 w2 (.cells (intsV [1, 2]).toArray 3) [-1, 3, -2] 3 (by decide)
  refine (H3.out _ _ _ (hl.ex (Ex.alloc _ _)) hk).mono ?_
  rintro e w3 ⟨v3, rfl, ho, hx3⟩
  have hI3 := ho.ints
  obtain ⟨p3, q3, rfl, _, _, _⟩ := hI3
  have hI3 := ho.ints
  replace hx3 := ((Ex.alloc _ _).alloc' _).trans hx3
  clear ho hl hk H3
  have hI1' := (hI1.ex hx2).ex hx3
  have hI2' := hI2.ex hx3
  have hx := (hx1.trans hx2).trans hx3
  clear hI1 hI2 hx1 hx2 hx3
  go_wp2_with fail
  have hl := litAt0 w3 [-1, 3] 3 (by decide)
  refine (HS.out _ _ _ _ (hI1'.ex (Ex.alloc _ _)) hl).mono ?_
  rintro e w4 ⟨rfl, hx4⟩
  replace hx4 := (Ex.alloc _ _).trans hx4
  clear hl hI1'
  go_wp2_with fail
  have hl := litAt0 w4 [-1, -3, 3] 3 (by decide)
  refine (HS.out _ _ _ _ ((hI2'.ex hx4).ex (Ex.alloc _ _)) hl).mono ?_
  rintro e w5 ⟨rfl, hx5⟩
  replace hx5 := (Ex.alloc _ _).trans hx5
  clear hl hI2'
  go_wp2_with fail
  have hl := litAt0 w5 [-2, 2, 3] 3 (by decide)
  refine (HS.out _ _ _ _ (((hI3.ex hx4).ex hx5).ex (Ex.alloc _ _)) hl).mono ?_
  rintro e w6 ⟨rfl, hx6⟩
  replace hx6 := (Ex.alloc _ _).trans hx6
  clear hl hI3 HS
  replace hx := ((hx.trans hx4).trans hx5).trans hx6
  clear hx4 hx5 hx6
  go_wp2_with fail
  refine (HH1.out _).mono ?_
  rintro e w7 ⟨rfl, hx7⟩
  go_wp2_with fail
  refine (HH2.out _).mono ?_
  rintro e w8 ⟨rfl, hx8⟩
  go_wp2_with fail
  refine (HV.out _).mono ?_
  rintro e w' ⟨rfl, rfl⟩
  go_wp2
  go_ret
  exact ⟨rfl, (hx.trans hx7).trans hx8⟩
set_option maxHeartbeats 1000000 in
theorem LitForms_any (l n : Int) (w : World) (_ : (Lit.int .i64 l).wf = true) (_ : (Lit.int .i64 n).wf = true) :
    Calls Try.prog 3 #[.int .i64 l, .int .i64 n] w fun e w' => e = .returned (.bool true) ∧ Ex w w' := by
  have H1 : Hid (∀ wa, Calls Try.prog 12 #[.int .i64 l] wa fun e w' => e = .returned (.int .i64 (litVar l)) ∧ wa = w') := fun wa => litVar_any l wa
  have H2 : Hid (∀ wa, Calls Try.prog 13 #[.int .i64 l] wa fun e w' => e = .returned (.int .i64 (litVar l)) ∧ wa = w') := fun wa => r04Var_any l wa
  have H3 : Hid (∀ wa, Calls Try.prog 14 #[.int .i64 l, .int .i64 n] wa fun e w' => e = .returned (.bool (litValid l n)) ∧ wa = w') := fun wa => litValid_any l n wa
  have H4 : Hid (∀ wa, Calls Try.prog 15 #[.int .i64 l, .int .i64 n] wa fun e w' => e = .returned (.bool (litValid l n)) ∧ wa = w') := fun wa => r04Valid_any l n wa
  generalize litVar l = a at *
  generalize litValid l n = b at *
  go_enter Try.func3, Try.ntmps3
  go_wp2_with fail
  refine (H1.out _).mono ?_
  rintro e w' ⟨rfl, rfl⟩
  go_wp2_with fail
  refine (H2.out _).mono ?_
  rintro e w' ⟨rfl, rfl⟩
  go_wp2_with fail
  refine (H3.out _).mono ?_
  rintro e w' ⟨rfl, rfl⟩
  go_wp2_with fail
  refine (H4.out _).mono ?_
  rintro e w' ⟨rfl, rfl⟩
  go_wp2_with (refine (works04_any _).mono ?_; rintro e w' ⟨rfl, hx⟩)
  go_ret
  exact ⟨rfl, hx⟩
set_option maxHeartbeats 1000000 in
theorem LitTruths_any (x y : Nat) (lv : Value) (q : Int) (l : List Int) (w : World) (hx : x < 18446744073709551616) (hy : y < 18446744073709551616) (hl : IntsAt w lv l) (_ : (Lit.int .i64 q).wf = true) :
    Calls Try.prog 8 #[.agg #[.int .u64 x, .int .u64 y], lv, .int .i64 q] w fun e w' => e = .returned (.bool true) ∧ Ex w w' := by
  have H1 : Hid (∀ wa, Calls Try.prog 29 #[.agg #[.int .u64 x, .int .u64 y], .int .i64 q] wa fun e w' => e = .returned (.bool (holdsB x y q)) ∧ Ex wa w') := fun wa => litHolds_any x y hx hy q wa
  have H2 : Hid (∀ wa, Calls Try.prog 30 #[.agg #[.int .u64 x, .int .u64 y], .int .i64 q] wa fun e w' => e = .returned (.bool (holdsB x y q)) ∧ Ex wa w') := fun wa => r04Holds_any x y q wa
  have H3 : Hid (∀ wa, Ex w wa → Calls Try.prog 27 #[.agg #[.int .u64 x, .int .u64 y], lv] wa fun e w' => e = .returned (.bool (l.any (holdsB x y))) ∧ Ex wa w') := fun wa hxx => litAny_any x y hx hy lv l wa (hl.ex hxx)
  have H4 : Hid (∀ wa, Ex w wa → Calls Try.prog 31 #[.agg #[.int .u64 x, .int .u64 y], lv] wa fun e w' => e = .returned (.bool (l.any (holdsB x y))) ∧ Ex wa w') := fun wa hxx => r04Any_any x y lv l wa (hl.ex hxx)
  have H5 : Hid (∀ wa, Ex w wa → Calls Try.prog 32 #[.agg #[.int .u64 x, .int .u64 y], lv] wa fun e w' => e = .returned (.bool (l.all (holdsB x y))) ∧ Ex wa w') := fun wa hxx => litAll_any x y hx hy lv l wa (hl.ex hxx)
  have H6 : Hid (∀ wa, Ex w wa → Calls Try.prog 33 #[.agg #[.int .u64 x, .int .u64 y], lv] wa fun e w' => e = .returned (.bool (l.all (holdsB x y))) ∧ Ex wa w') := fun wa hxx => r04All_any x y lv l wa (hl.ex hxx)
  obtain ⟨a, cap, rfl, h1, h2, h3⟩ := hl
  unfold maxLen at h2
  clear h3 hx hy
  generalize l.any (holdsB x y) = B1 at *
  generalize l.all (holdsB x y) = B2 at *
  generalize holdsB x y q = B0 at *
  have hx0 : Ex w w := Ex.refl w
  by_cases hb : 500 < l.length
  · go_enter Try.func8, Try.ntmps8
    go_wp2_with (refine (works04_any _).mono ?_; rintro e w' ⟨rfl, hx⟩)
    go_ret
    exact ⟨rfl, (Ex.alloc _ _).trans hx⟩
  · go_enter Try.func8, Try.ntmps8
    go_wp2_with fail
    generalize hw1 : w.alloc (.cells #[.int .u64 x, .int .u64 y] 39) = w1
    have hx1 : Ex w w1 := hw1 ▸ Ex.alloc _ _
    have c0 : w1.cell? ⟨w.heap.size, 0, none⟩ = some (.int .u64 x) := by rw [← hw1]; simp
    have c1 : w1.cell? ⟨w.heap.size, 1, none⟩ = some (.int .u64 y) := by rw [← hw1]; simp
    clear hw1
    have c0x := ext_cell c0
    have c1x := ext_cell c1
    refine wp_region_quiet_ext (by kernel_rfl) (by kernel_rfl) ?_
    repeat (go_big_quiet_step ((first | (go_at_call 29; exact Calls.quiet_ext (H1.out _)) | (go_at_call 30; exact Calls.quiet_ext (H2.out _)) | (go_at_call 27; exact Calls.quiet_ext (H3.out _ (hx1.trans (ex_ext _ _)))) | (go_at_call 31; exact Calls.quiet_ext (H4.out _ (hx1.trans (ex_ext _ _)))) | (go_at_call 32; exact Calls.quiet_ext (H5.out _ (hx1.trans (ex_ext _ _)))) | (go_at_call 33; exact Calls.quiet_ext (H6.out _ (hx1.trans (ex_ext _ _)))) | (go_at_call 16; exact Calls.quiet_ext (works04_any _)))))
    refine wpQuiet_nil ?_
    intro w8 hx8
    go_wp2
    go_ret
    exact ⟨rfl, hx1.trans hx8⟩
set_option maxHeartbeats 1000000 in
theorem LitSubsumes_any (cv dv : Value) (c d : List Int) (w : World) (hc : IntsAt w cv c) (hd : IntsAt w dv d) :
    Calls Try.prog 6 #[cv, dv] w fun e w' => e = .returned (.bool true) ∧ Ex w w' := by
  have H1 : Hid (∀ wa, Ex w wa → Calls Try.prog 25 #[cv, dv] wa fun e w' => e = .returned (.bool (c.all (d.contains ·))) ∧ Ex wa w') := fun wa hx => litSubsumes_any cv dv c d wa (hc.ex hx) (hd.ex hx)
  have H2 : Hid (∀ wa, Ex w wa → Calls Try.prog 26 #[cv, dv] wa fun e w' => e = .returned (.bool (c.all (d.contains ·))) ∧ wa = w') := fun wa hx => r04Subsumes_any cv dv c d wa (hc.ex hx) (hd.ex hx)
  obtain ⟨a, cap, rfl, _, h2, h3⟩ := hc
  obtain ⟨a', cap', rfl, _, h2', h3'⟩ := hd
  unfold maxLen at h2 h2'
  clear h3 h3'
  generalize c.all (d.contains ·) = B at *
  by_cases hb : 500 < c.length
  · go_enter Try.func6, Try.ntmps6
    go_wp2_with (refine (works04_any _).mono ?_; rintro e w' ⟨rfl, hx⟩)
    go_ret
    exact ⟨rfl, hx⟩
  by_cases hb' : 500 < d.length
  · go_enter Try.func6, Try.ntmps6
    go_wp2_with (refine (works04_any _).mono ?_; rintro e w' ⟨rfl, hx⟩)
    go_ret
    exact ⟨rfl, hx⟩
  · go_enter Try.func6, Try.ntmps6
    go_wp2_with fail
    refine (H1.out _ (Ex.refl _)).mono ?_
    rintro e w2 ⟨rfl, hx2⟩
    go_wp2_with fail
    refine (H2.out _ hx2).mono ?_
    rintro e w' ⟨rfl, rfl⟩
    go_wp2_with (refine (works04_any _).mono ?_; rintro e w' ⟨rfl, hx⟩)
    go_ret
    exact ⟨rfl, hx2.trans hx⟩
end Go.Proofs.Yteaidblcjhbjnaa
