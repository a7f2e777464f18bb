/- SearchKnown: the walk. No condition. -/
import Derived.Test.YtagohmpbbbkdjaaLaw1
namespace Go.Proofs.Ytagohmpbbbkdjaa
set_option linter.unusedSimpArgs false
set_option linter.unusedVariables false
open Go.RowKit
theorem litAt0 (w : World) (l : List Int) (t : TypeId) (h : l.length ≤ maxLen) : IntsAt (w.alloc (.cells (intsV l).toArray t)) (.slice (some ⟨w.heap.size, 0, none⟩) l.length l.length) l :=
  intsAt_of_block (OwnB.new w (intsV l) t) h
theorem litAt1 (w : World) (o : Obj) (l : List Int) (t : TypeId) (h : l.length ≤ maxLen) : IntsAt ((w.alloc o).alloc (.cells (intsV l).toArray t)) (.slice (some ⟨w.heap.size + 1, 0, none⟩) l.length l.length) l := by
  have := litAt0 (w.alloc o) l t h
  rwa [show (w.alloc o).heap.size = w.heap.size + 1 by show (w.heap.push o).size = _; simp] at this
theorem rowsAt_nilrow (w : World) (t : TypeId) : RowsAt (w.alloc (.cells #[.slice none 0 0] t)) (.slice (some ⟨w.heap.size, 0, none⟩) 1 1) [[]] :=
  ⟨_, _, rfl, Nat.le_refl _, by decide, fun k hk => by
    obtain rfl : k = 0 := by have : k < 1 := hk; omega
    exact ⟨w.heap.size, 0, _, rfl, (OwnB.new w [.slice none 0 0] t).lt, (OwnB.new w [.slice none 0 0] t).cell 0, IntsAt.nil _⟩⟩
set_option maxRecDepth 20000 in
set_option maxHeartbeats 4000000 in
theorem SearchKnown_any (w : World) : Calls Try.prog 9 #[] w fun e w' => e = .returned (.bool true) ∧ Ex w w' := by
  have H1 : Hid (∀ (wa : World) (lv sv : Value) (hR : RowsAt wa lv exL) (hl : IntsAt wa sv []), Calls Try.prog 12 #[.agg #[.int .i64 3, lv], sv] wa fun e w' => e = .returned (.tuple #[.agg #[.int .u64 2, .int .u64 0], .bool true, .int .i64 0]) ∧ Ex wa w') := fun wa lv sv hR hl => by
    have := Solve_ok 3 lv sv exL [] wa hR hl (by decide +kernel)
    rwa [show least 3 exL [] = some (2, 0) by decide +kernel] at this
  have H2 : Hid (∀ (wa : World) (lv sv : Value) (hR : RowsAt wa lv exL) (hl : IntsAt wa sv [-2]), Calls Try.prog 12 #[.agg #[.int .i64 3, lv], sv] wa fun e w' => e = .returned (.tuple #[.agg #[.int .u64 5, .int .u64 0], .bool true, .int .i64 0]) ∧ Ex wa w') := fun wa lv sv hR hl => by
    have := Solve_ok 3 lv sv exL [-2] wa hR hl (by decide +kernel)
    rwa [show least 3 exL [-2] = some (5, 0) by decide +kernel] at this
  have H3 : Hid (∀ (wa : World) (lv sv : Value) (hR : RowsAt wa lv exL) (hl : IntsAt wa sv [1, -1]), Calls Try.prog 12 #[.agg #[.int .i64 3, lv], sv] wa fun e w' => e = .returned (.tuple #[.agg #[.int .u64 0, .int .u64 0], .bool false, .int .i64 0]) ∧ Ex wa w') := fun wa lv sv hR hl => by
    have := Solve_ok 3 lv sv exL [1, -1] wa hR hl (by decide +kernel)
    rwa [show least 3 exL [1, -1] = none by decide +kernel] at this
  have H4 : Hid (∀ (wa : World) (lv sv : Value) (hR : RowsAt wa lv exL) (hl : IntsAt wa sv [4]), Calls Try.prog 12 #[.agg #[.int .i64 3, lv], sv] wa fun e w' => e = .returned (.tuple #[.agg #[.int .u64 0, .int .u64 0], .bool false, .int .i64 1]) ∧ Ex wa w') := fun wa lv sv hR hl => by
    have := Solve_bad 3 lv sv exL [4] wa hR hl (by decide +kernel)
    rwa [show searchErr 3 exL [4] = 1 by decide +kernel] at this
  have H5 : Hid (∀ (wa : World) (sv : Value) (hl : IntsAt wa sv [500]), Calls Try.prog 12 #[.agg #[.int .i64 129, .slice none 0 0], sv] wa fun e w' => e = .returned (.tuple #[.agg #[.int .u64 0, .int .u64 0], .bool false, .int .i64 6]) ∧ Ex wa w') := fun wa sv hl => by
    have := Solve_bad 129 (.slice none 0 0) sv [] [500] wa ⟨none, 0, rfl, Nat.le_refl _, Nat.zero_le _, fun k hk => by cases hk⟩ hl (by decide +kernel)
    rwa [show searchErr 129 [] [500] = 6 by decide +kernel] at this
  have H6 : Hid (∀ (wa : World) (lv sv : Value) (hR : RowsAt wa lv exL) (hl : IntsAt wa sv [3, -3, 3]), Calls Try.prog 14 #[.agg #[.int .i64 3, lv], sv] wa (CoreRet wa [-3, 3] true 0)) := fun wa lv sv hR hl => by
    have := Core_ok 3 lv sv exL [3, -3, 3] wa hR hl (by decide +kernel) (by decide)
    rwa [show satB 3 exL [3, -3, 3] = false by decide +kernel, show coreL 3 exL [3, -3, 3] = [-3, 3] by decide +kernel] at this
  have H7 : Hid (∀ (wa : World) (lv sv : Value) (hR : RowsAt wa lv exL) (hl : IntsAt wa sv [1]), Calls Try.prog 14 #[.agg #[.int .i64 3, lv], sv] wa (CoreRet wa [] false 0)) := fun wa lv sv hR hl => by
    have := Core_ok 3 lv sv exL [1] wa hR hl (by decide +kernel) (by decide)
    rwa [show satB 3 exL [1] = true by decide +kernel] at this
  have H8 : Hid (∀ (wa : World) (lv sv : Value) (hR : RowsAt wa lv [[]]) (hl : IntsAt wa sv [1]), Calls Try.prog 14 #[.agg #[.int .i64 1, lv], sv] wa (CoreRet wa [] true 0)) := fun wa lv sv hR hl => by
    have := Core_ok 1 lv sv [[]] [1] wa hR hl (by decide +kernel) (by decide)
    rwa [show satB 1 [[]] [1] = false by decide +kernel, show coreL 1 [[]] [1] = [] by decide +kernel] at this
  have H9 : Hid (∀ (wa : World) (lv sv : Value) (hR : RowsAt wa lv exL) (hl : IntsAt wa sv [1, -1]), Calls Try.prog 17 #[.agg #[.int .i64 3, lv], sv] wa fun e w' => e = .returned (.tuple #[.bool true, .int .i64 0]) ∧ Ex wa w') := fun wa lv sv hR hl => by
    have := Entails_ok 3 lv sv exL [1, -1] wa hR hl (by decide +kernel) (by decide)
    rwa [show entailsB 3 exL [1, -1] = true by decide +kernel] at this
  have H10 : Hid (∀ (wa : World) (lv sv : Value) (hR : RowsAt wa lv exL) (hl : IntsAt wa sv []), Calls Try.prog 17 #[.agg #[.int .i64 3, lv], sv] wa fun e w' => e = .returned (.tuple #[.bool false, .int .i64 0]) ∧ Ex wa w') := fun wa lv sv hR hl => by
    have := Entails_ok 3 lv sv exL [] wa hR hl (by decide +kernel) (by decide)
    rwa [show entailsB 3 exL [] = false by decide +kernel] at this
  have H11 : Hid (∀ (wa : World) (lv sv : Value) (hR : RowsAt wa lv exL) (hl : IntsAt wa sv [0]), Calls Try.prog 17 #[.agg #[.int .i64 3, lv], sv] wa fun e w' => e = .returned (.tuple #[.bool false, .int .i64 1]) ∧ Ex wa w') := fun wa lv sv hR hl => by
    have := Entails_bad 3 lv sv exL [0] wa hR hl (by decide +kernel)
    rwa [show searchErr 3 exL [0] = 1 by decide +kernel] at this
  have HQ : Hid (∀ (wa : World) (av bv : Value) (h1 : IntsAt wa av [-3, 3]) (h2 : IntsAt wa bv [-3, 3]), Calls Try.prog 16 #[av, bv] wa fun e w' => e = .returned (.bool true) ∧ Ex wa w') := fun wa av bv h1 h2 => r06SameInts_any _ _ _ _ _ h1 h2
  go_enter Try.func9, Try.ntmps9
  go_wp2_with fail
  refine (chapter14_any _).mono ?_
  rintro e w1 ⟨lv, rfl, hR, hx⟩
  have hR0 := hR
  obtain ⟨p0, q0, rfl, _, _, _⟩ := hR
  have hR := hR0
  clear hR0
  have hxs := Ex.alloc w1 (.cells #[.int .i64 3, .slice p0 exL.length q0] 24)
  have hT : BoxT (w1.alloc (.cells #[.int .i64 3, .slice p0 exL.length q0] 24)) w1.heap.size 3 (.slice p0 exL.length q0) := ⟨by simp, by simp⟩
  go_wp2_with fail
  refine (H1.out _ _ _ (hR.ex hxs) (IntsAt.nil _)).mono ?_
  rintro e w2 ⟨rfl, hx2⟩
  clear H1
  replace hT := hT.ex hx2
  replace hxs := hxs.trans hx2
  replace hR := hR.ex hxs
  replace hx := hx.trans hxs
  clear hxs hx2
  generalize hTb : w1.heap.size = Tb at *
  clear hTb
  have c0 := hT.c0
  have c1 := hT.c1
  have hb0 : Tb < w2.heap.size := cell_lt c0
  have hxs := (Ex.alloc w2 (.cells #[.int .u64 2, .int .u64 0] 30)).alloc' (.cells #[.int .i64 (-2)] 3)
  have hl := litAt1 w2 (.cells #[.int .u64 2, .int .u64 0] 30) [-2] 3 (by decide)
  have oA := OwnB.new w2 [.int .u64 2, .int .u64 0] 30
  replace oA := oA.ex (Ex.alloc _ (.cells #[.int .i64 (-2)] 3))
  go_wp2_with fail
  refine (H2.out _ _ _ (hR.ex hxs) hl).mono ?_
  rintro e w3 ⟨rfl, hx2⟩
  replace oA := oA.ex hx2
  replace hxs := hxs.trans hx2
  replace hT := hT.ex hxs
  replace hR := hR.ex hxs
  replace hx := hx.trans hxs
  clear hxs hx2 c0 c1 hb0 H2 hl
  have c0 := hT.c0
  have c1 := hT.c1
  have hb0 : Tb < w3.heap.size := cell_lt c0
  have hxs := (Ex.alloc w3 (.cells #[.int .u64 5, .int .u64 0] 30)).alloc' (.cells #[.int .i64 1, .int .i64 (-1)] 3)
  have hl := litAt1 w3 (.cells #[.int .u64 5, .int .u64 0] 30) [1, -1] 3 (by decide)
  have oB := OwnB.new w3 [.int .u64 5, .int .u64 0] 30
  replace oB := oB.ex (Ex.alloc _ (.cells #[.int .i64 1, .int .i64 (-1)] 3))
  go_wp2_with fail
  refine (H3.out _ _ _ (hR.ex hxs) hl).mono ?_
  rintro e w4 ⟨rfl, hx2⟩
  replace oB := oB.ex hx2
  replace hxs := hxs.trans hx2
  replace hT := hT.ex hxs
  replace hR := hR.ex hxs
  replace oA := oA.ex hxs
  replace hx := hx.trans hxs
  clear hxs hx2 c0 c1 hb0 H3 hl
  have c0 := hT.c0
  have c1 := hT.c1
  have hb0 : Tb < w4.heap.size := cell_lt c0
  have hxs := (Ex.alloc w4 (.cells #[.int .u64 0, .int .u64 0] 30)).alloc' (.cells #[.int .i64 4] 3)
  have hl := litAt1 w4 (.cells #[.int .u64 0, .int .u64 0] 30) [4] 3 (by decide)
  go_wp2_with fail
  refine (H4.out _ _ _ (hR.ex hxs) hl).mono ?_
  rintro e w5 ⟨rfl, hx2⟩
  replace hxs := hxs.trans hx2
  replace hT := hT.ex hxs
  replace hR := hR.ex hxs
  replace oA := oA.ex hxs
  replace oB := oB.ex hxs
  replace hx := hx.trans hxs
  clear hxs hx2 c0 c1 hb0 H4 hl
  have c0 := hT.c0
  have c1 := hT.c1
  have hb0 : Tb < w5.heap.size := cell_lt c0
  have hxs := (Ex.alloc w5 (.cells #[.int .u64 0, .int .u64 0] 30)).alloc' (.cells #[.int .i64 500] 3)
  have hl := litAt1 w5 (.cells #[.int .u64 0, .int .u64 0] 30) [500] 3 (by decide)
  go_wp2_with fail
  refine (H5.out _ _ hl).mono ?_
  rintro e w6 ⟨rfl, hx2⟩
  replace hxs := hxs.trans hx2
  replace hT := hT.ex hxs
  replace hR := hR.ex hxs
  replace oA := oA.ex hxs
  replace oB := oB.ex hxs
  replace hx := hx.trans hxs
  clear hxs hx2 c0 c1 hb0 H5 hl
  have s0 := oA.cell 0
  have s1 := oA.cell 1
  have s2 := oB.cell 0
  have s3 := oB.cell 1
  have la : w2.heap.size < w6.heap.size := oA.lt
  have lb : w3.heap.size < w6.heap.size := oB.lt
  clear oA oB
  have c0 := hT.c0
  have c1 := hT.c1
  have hb0 : Tb < w6.heap.size := cell_lt c0
  have hxs := (Ex.alloc w6 (.cells #[.int .u64 0, .int .u64 0] 30)).alloc' (.cells #[.int .i64 3, .int .i64 (-3), .int .i64 3] 3)
  have hl := litAt1 w6 (.cells #[.int .u64 0, .int .u64 0] 30) [3, -3, 3] 3 (by decide)
  go_wp2_with fail
  refine (H6.out _ _ _ (hR.ex hxs) hl).mono ?_
  rintro e w7 ⟨u, rfl, hu, hx2⟩
  have huI := hu.ints
  obtain ⟨pu, qu, rfl, _, _, _⟩ := huI
  have huI := hu.ints
  clear hu
  replace hxs := hxs.trans hx2
  replace hT := hT.ex hxs
  replace hR := hR.ex hxs
  replace hx := hx.trans hxs
  clear hxs hx2 c0 c1 hb0 H6 hl
  clear s0 s1 s2 s3 la lb
  have c0 := hT.c0
  have c1 := hT.c1
  have hb0 : Tb < w7.heap.size := cell_lt c0
  have hxs := Ex.alloc w7 (.cells #[.int .i64 1] 3)
  have hl := litAt0 w7 [1] 3 (by decide)
  go_wp2_with fail
  refine (H7.out _ _ _ (hR.ex hxs) hl).mono ?_
  rintro e w8 ⟨v, rfl, hv, hx2⟩
  have hvI := hv.ints
  obtain ⟨pv, qv, rfl, _, _, _⟩ := hvI
  have hvI := hv.ints
  clear hv
  replace hxs := hxs.trans hx2
  replace hT := hT.ex hxs
  replace hR := hR.ex hxs
  replace huI := huI.ex hxs
  replace hx := hx.trans hxs
  clear hxs hx2 c0 c1 hb0 H7 hl
  clear hvI
  have hrow := rowsAt_nilrow w8 25
  have hxs := (Ex.alloc w8 (.cells #[.slice none 0 0] 25)).alloc' (.cells #[.int .i64 1] 3)
  have hl := litAt1 w8 (.cells #[.slice none 0 0] 25) [1] 3 (by decide)
  go_wp2_with fail
  refine (H8.out _ _ _ (hrow.ex (Ex.alloc _ _)) hl).mono ?_
  rintro e w9 ⟨mv, rfl, hm, hx2⟩
  obtain ⟨pm, qm, rfl, _, _, _⟩ := hm.ints
  replace hxs := hxs.trans hx2
  replace hT := hT.ex hxs
  replace hR := hR.ex hxs
  replace huI := huI.ex hxs
  replace hx := hx.trans hxs
  clear hxs hx2 hl hrow hm H8
  have c0 := hT.c0
  have c1 := hT.c1
  have hb0 : Tb < w9.heap.size := cell_lt c0
  have hxs := Ex.alloc w9 (.cells #[.int .i64 1, .int .i64 (-1)] 3)
  have hl := litAt0 w9 [1, -1] 3 (by decide)
  go_wp2_with fail
  refine (H9.out _ _ _ (hR.ex hxs) hl).mono ?_
  rintro e w10 ⟨rfl, hx2⟩
  replace hxs := hxs.trans hx2
  replace hT := hT.ex hxs
  replace hR := hR.ex hxs
  replace huI := huI.ex hxs
  replace hx := hx.trans hxs
  clear hxs hx2 c0 c1 hb0 H9 hl
  have c0 := hT.c0
  have c1 := hT.c1
  have hb0 : Tb < w10.heap.size := cell_lt c0
  have hxs := Ex.refl w10
  go_wp2_with fail
  refine (H10.out _ _ _ (hR.ex hxs) (IntsAt.nil _)).mono ?_
  rintro e w11 ⟨rfl, hx2⟩
  replace hxs := hxs.trans hx2
  replace hT := hT.ex hxs
  replace hR := hR.ex hxs
  replace huI := huI.ex hxs
  replace hx := hx.trans hxs
  clear hxs hx2 c0 c1 hb0 H10
  have c0 := hT.c0
  have c1 := hT.c1
  have hb0 : Tb < w11.heap.size := cell_lt c0
  have hxs := Ex.alloc w11 (.cells #[.int .i64 0] 3)
  have hl := litAt0 w11 [0] 3 (by decide)
  go_wp2_with fail
  refine (H11.out _ _ _ (hR.ex hxs) hl).mono ?_
  rintro e w12 ⟨rfl, hx2⟩
  replace hxs := hxs.trans hx2
  replace hT := hT.ex hxs
  replace hR := hR.ex hxs
  replace huI := huI.ex hxs
  replace hx := hx.trans hxs
  clear hxs hx2 c0 c1 hb0 H11 hl
  have hl := litAt0 w12 [-3, 3] 3 (by decide)
  have hxs := Ex.alloc w12 (.cells #[.int .i64 (-3), .int .i64 3] 3)
  go_wp2_with fail
  refine (HQ.out _ _ _ (huI.ex hxs) hl).mono ?_
  rintro e w13 ⟨rfl, hx2⟩
  clear hT hR huI hl HQ
  go_wp2_with (refine (works14_any _).mono ?_; rintro e w' ⟨rfl, hx3⟩)
  go_ret
  exact ⟨rfl, ((hx.trans hxs).trans hx2).trans hx3⟩
end Go.Proofs.Ytagohmpbbbkdjaa
