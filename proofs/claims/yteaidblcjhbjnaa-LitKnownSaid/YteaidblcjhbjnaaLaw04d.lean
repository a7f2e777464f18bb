/- Chapter 04: LitKnown: the walk. No condition. -/
import Derived.Test.YteaidblcjhbjnaaLaw04c
namespace Go.Proofs.Yteaidblcjhbjnaa
set_option linter.unusedSimpArgs false
set_option linter.unusedVariables false
open Go.RowKit
set_option maxRecDepth 100000 in
set_option maxHeartbeats 4000000 in
theorem LitKnown_any (w : World) : Calls Try.prog 11 #[] w fun e w' => e = .returned (.bool true) ∧ Ex w w' := by
  have H1 : Hid (∀ (wa : World) (v : Value), IntsAt wa v [3, -3] → Calls Try.prog 18 #[v, .int .i64 3] wa (TermRet wa [] false)) := fun wa v h => by
    have := litTerm_any v [3, -3] 3 wa h (by decide)
    rwa [show termL [3, -3] 3 = [] by decide +kernel, show termB [3, -3] 3 = false by decide +kernel] at this
  have H2 : Hid (∀ (wa : World) (v : Value), IntsAt wa v [0] → Calls Try.prog 18 #[v, .int .i64 3] wa (TermRet wa [] false)) := fun wa v h => by
    have := litTerm_any v [0] 3 wa h (by decide)
    rwa [show termL [0] 3 = [] by decide +kernel, show termB [0] 3 = false by decide +kernel] at this
  have H3 : Hid (∀ (wa : World) (v : Value), IntsAt wa v [4] → Calls Try.prog 20 #[v, .int .i64 3] wa (ClauseRet wa [] false 1)) := fun wa v h => by
    have := litClause_any v [4] 3 wa h (by decide)
    rwa [show clauseL [4] 3 = [] by decide +kernel, show clauseB [4] 3 = false by decide +kernel, show clauseE [4] 3 = 1 by decide +kernel] at this
  have H4 : Hid (∀ (wa : World) (u v : Value), IntsAt wa u [1] → IntsAt wa v [1] → Calls Try.prog 23 #[u, v, .int .i64 1] wa (TermRet wa [] false)) := fun wa u v h k => by
    have := litResolve_any u v [1] [1] 1 wa h k (by decide) (by decide)
    rwa [show resL [1] [1] 1 = [] by decide +kernel, show resOk [1] [1] 1 = false by decide +kernel] at this
  have HV : Hid (∀ (l : Int) (wa : World), litVar l = 0 → Calls Try.prog 12 #[.int .i64 l] wa fun e w' => e = .returned (.int .i64 0) ∧ wa = w') := fun l wa h => by have := litVar_any l wa; rwa [h] at this
  have HW : Hid (∀ (l n : Int) (b : Bool) (wa : World), litValid l n = b → Calls Try.prog 14 #[.int .i64 l, .int .i64 n] wa fun e w' => e = .returned (.bool b) ∧ wa = w') := fun l n b wa h => h ▸ litValid_any l n wa
  have HN : Hid (∀ (wa : World), Calls Try.prog 27 #[.agg #[.int .u64 0, .int .u64 0], .slice none 0 0] wa fun e w' => e = .returned (.bool false) ∧ Ex wa w') := fun wa => litAny_any 0 0 (by decide) (by decide) _ [] wa (IntsAt.nil _)
  have HA : Hid (∀ (wa : World), Calls Try.prog 32 #[.agg #[.int .u64 0, .int .u64 0], .slice none 0 0] wa fun e w' => e = .returned (.bool true) ∧ Ex wa w') := fun wa => litAll_any 0 0 (by decide) (by decide) _ [] wa (IntsAt.nil _)
  have HH : Hid (∀ (wa : World), Calls Try.prog 29 #[.agg #[.int .u64 0, .int .u64 0], .int .i64 (-128)] wa fun e w' => e = .returned (.bool true) ∧ Ex wa w') := fun wa => by
    have := litHolds_any 0 0 (by decide) (by decide) (-128) wa
    rwa [show holdsB 0 0 (-128) = true by decide +kernel] at this
  go_enter Try.func11, Try.ntmps11
  go_wp2_with fail
  have hl := litAt0 w [3, -3] 3 (by decide)
  refine (H1.out _ _ hl).mono ?_
  rintro e w1 ⟨v1, rfl, ho, hx2⟩
  obtain ⟨p1, q1, rfl, _, _, _⟩ := ho.ints
  replace hx2 := (Ex.alloc _ _).trans hx2
  have hx := hx2
  clear ho hl hx2 H1
  go_wp2_with fail
  have hl := litAt0 w1 [0] 3 (by decide)
  refine (H2.out _ _ hl).mono ?_
  rintro e w2 ⟨v2, rfl, ho, hx2⟩
  obtain ⟨p2, q2, rfl, _, _, _⟩ := ho.ints
  replace hx2 := (Ex.alloc _ _).trans hx2
  replace hx := hx.trans hx2
  clear ho hl hx2 H2
  go_wp2_with fail
  have hl := litAt0 w2 [4] 3 (by decide)
  refine (H3.out _ _ hl).mono ?_
  rintro e w3 ⟨v3, rfl, ho, hx2⟩
  obtain ⟨p3, q3, rfl, _, _, _⟩ := ho.ints
  replace hx2 := (Ex.alloc _ _).trans hx2
  replace hx := hx.trans hx2
  clear ho hl hx2 H3
  go_wp2_with fail
  have hl := litAt0 w3 [1] 3 (by decide)
  have hk := litAt1 w3 (.cells (intsV [1]).toArray 3) [1] 3 (by decide)
  refine (H4.out _ _ _ (hl.ex (Ex.alloc _ _)) hk).mono ?_
  rintro e w4 ⟨v4, rfl, ho, hx2⟩
  obtain ⟨p4, q4, rfl, _, _, _⟩ := ho.ints
  replace hx2 := ((Ex.alloc _ _).alloc' _).trans hx2
  replace hx := hx.trans hx2
  clear ho hl hx2 H4 hk
  go_wp2_with fail
  refine (HV.out 0 _ (by decide)).mono ?_
  rintro e w' ⟨rfl, rfl⟩
  go_wp2_with fail
  refine (HV.out 129 _ (by decide)).mono ?_
  rintro e w' ⟨rfl, rfl⟩
  go_wp2_with fail
  refine (HV.out (-9223372036854775808) _ (by decide)).mono ?_
  rintro e w' ⟨rfl, rfl⟩
  go_wp2_with fail
  refine (HW.out (-5) 5 true _ (by decide)).mono ?_
  rintro e w' ⟨rfl, rfl⟩
  go_wp2_with fail
  refine (HW.out (-5) 4 false _ (by decide)).mono ?_
  rintro e w' ⟨rfl, rfl⟩
  go_wp2_with fail
  refine (HW.out 128 1000 true _ (by decide)).mono ?_
  rintro e w' ⟨rfl, rfl⟩
  go_wp2_with fail
  refine (HN.out _).mono ?_
  rintro e w5 ⟨rfl, hx2⟩
  replace hx := hx.trans hx2
  clear hx2
  go_wp2_with fail
  refine (HA.out _).mono ?_
  rintro e w6 ⟨rfl, hx2⟩
  replace hx := hx.trans hx2
  clear hx2
  go_wp2_with fail
  refine (HH.out _).mono ?_
  rintro e w7 ⟨rfl, hx2⟩
  replace hx := hx.trans hx2
  clear hx2
  go_wp2_with fail
  refine (works04_any _).mono ?_
  rintro e w9 ⟨rfl, hx2⟩
  go_wp2
  go_ret
  exact ⟨rfl, hx.trans hx2⟩
end Go.Proofs.Yteaidblcjhbjnaa
