/- Chapter 12: UnitKnown: the walk. No condition. -/
import Derived.Test.YtlaejhmpnlcceaaLaw12a
import Derived.Laws.StructEq
namespace Go.Proofs.Ytlaejhmpnlcceaa
set_option linter.unusedSimpArgs false
set_option linter.unusedVariables false
open Go.RowKit
theorem Try.uStepHeld : Try.prog.stoodInHeld 50 = false := by kernel_rfl
theorem Try.uStepGuard : Try.prog.eqGuardType Try.prog.depth 50 = false := by kernel_rfl
@[go_sem] theorem eqStepU_run (w : World) (a b c a' b' c' : Int) :
    (Op.equalIn 10000 50 (.agg #[.int .i64 a, .int .i64 b, .int .i64 c]) (.agg #[.int .i64 a', .int .i64 b', .int .i64 c'])).run Try.prog w = .ok (a == a' && b == b' && c == c') w := by
  rw [show (10000 : Nat) = 9999 + 1 from rfl, run_equalIn_struct w 9999 _ _ _ (by simp only [Program.fieldsOf, Try.underlying50]) Try.uStepHeld]
  simp only [Program.fieldsOf, Try.underlying50]
  have q : ∀ a b : Int, (Op.equalIn 9999 3 (.int .i64 a) (.int .i64 b)).run Try.prog w = .ok (a == b) w := fun a b => run_equalIn_int w 9998 _ _ _ a b Try.underlying3
  by_cases h : a = a'
  · by_cases h' : b = b'
    · by_cases h'' : c = c' <;> simp [Op.eqFields, go_sem, Try.underlying3, q, h, h', h'']
    · simp [Op.eqFields, go_sem, Try.underlying3, q, h, h']
  · simp [Op.eqFields, go_sem, Try.underlying3, q, h]
abbrev ex12b : List (List Int) := [[1, -1], [1, 1], []]
set_option maxRecDepth 100000 in
set_option maxHeartbeats 4000000 in
theorem UnitKnown_any (w : World) : Calls Try.prog 9 #[] w fun e w' => e = .returned (.bool true) ∧ Ex w w' := by
  have H1 : Hid (∀ (wa : World) (lv v : Value), RowsAt wa lv ex12 → IntsAt wa v [] → Calls Try.prog 12 #[.agg #[.int .i64 4, lv], v] wa (TrailRet 50 wa [] (-1) 0)) := fun wa lv v hR h => by
    have := unitTrail_any 4 lv v ex12 [] wa hR h
    rwa [show trailL 4 ex12 [] = [] by decide +kernel, show trailC 4 ex12 [] = (-1) by decide +kernel, show trailE 4 ex12 [] = 0 by decide +kernel] at this
  have H2 : Hid (∀ (wa : World) (lv v : Value), RowsAt wa lv ex12 → IntsAt wa v [2, 3, -3] → Calls Try.prog 12 #[.agg #[.int .i64 4, lv], v] wa (TrailRet 50 wa [] 0 8)) := fun wa lv v hR h => by
    have := unitTrail_any 4 lv v ex12 [2, 3, -3] wa hR h
    rwa [show trailL 4 ex12 [2, 3, -3] = [] by decide +kernel, show trailC 4 ex12 [2, 3, -3] = 0 by decide +kernel, show trailE 4 ex12 [2, 3, -3] = 8 by decide +kernel] at this
  have H3 : Hid (∀ (wa : World) (lv v : Value), RowsAt wa lv ex12 → IntsAt wa v [5] → Calls Try.prog 12 #[.agg #[.int .i64 4, lv], v] wa (TrailRet 50 wa [] 0 1)) := fun wa lv v hR h => by
    have := unitTrail_any 4 lv v ex12 [5] wa hR h
    rwa [show trailL 4 ex12 [5] = [] by decide +kernel, show trailC 4 ex12 [5] = 0 by decide +kernel, show trailE 4 ex12 [5] = 1 by decide +kernel] at this
  have H4 : Hid (∀ (wa : World) (lv v : Value), RowsAt wa lv [[2]] → IntsAt wa v [] → Calls Try.prog 12 #[.agg #[.int .i64 1, lv], v] wa (TrailRet 50 wa [] 0 1)) := fun wa lv v hR h => by
    have := unitTrail_any 1 lv v [[2]] [] wa hR h
    rwa [show trailL 1 [[2]] [] = [] by decide +kernel, show trailC 1 [[2]] [] = 0 by decide +kernel, show trailE 1 [[2]] [] = 1 by decide +kernel] at this
  have H5 : Hid (∀ (wa : World) (lv v : Value), RowsAt wa lv ex12b → IntsAt wa v [-1] → Calls Try.prog 12 #[.agg #[.int .i64 1, lv], v] wa (TrailRet 50 wa [⟨1, 1, 0⟩] 2 0)) := fun wa lv v hR h => by
    have := unitTrail_any 1 lv v ex12b [-1] wa hR h
    rwa [show trailL 1 ex12b [-1] = [⟨1, 1, 0⟩] by decide +kernel, show trailC 1 ex12b [-1] = 2 by decide +kernel, show trailE 1 ex12b [-1] = 0 by decide +kernel] at this
  have H6 : Hid (∀ (wa : World) (lv v : Value), RowsAt wa lv ex12 → IntsAt wa v [1] → Calls Try.prog 16 #[.agg #[.int .i64 4, lv], v] wa (TermRet wa [] false)) := fun wa lv v hR h => by
    have := unitClosure_any 4 lv v ex12 [1] wa hR h
    rwa [show closL 4 ex12 [1] = [] by decide +kernel, show closB 4 ex12 [1] = false by decide +kernel] at this
  have hguard := Try.uStepGuard
  go_enter Try.func9, Try.ntmps9
  go_wp2_with fail
  refine (chapter12_any _).mono ?_
  rintro e w1 ⟨lv, rfl, hR, hx⟩
  go_wp2_with fail
  refine (H1.out _ _ _ hR (IntsAt.nil _)).mono ?_
  rintro e w2 ⟨v1, rfl, ho, hx2⟩
  obtain ⟨p1, q1, rfl, _, _, _⟩ := ho.steps
  replace hx := hx.trans hx2
  clear ho hR hx2 H1
  go_wp2_with fail
  refine (chapter12_any _).mono ?_
  rintro e wc3 ⟨lv3, rfl, hR, hx2⟩
  replace hx := hx.trans hx2
  clear hx2
  go_wp2_with fail
  have hl := litAt0 wc3 [2, 3, -3] 3 (by decide)
  refine (H2.out _ _ _ (hR.ex (Ex.alloc _ _)) hl).mono ?_
  rintro e w3 ⟨v3, rfl, ho, hx2⟩
  obtain ⟨p3, q3, rfl, _, _, _⟩ := ho.steps
  replace hx := hx.trans ((Ex.alloc _ _).trans hx2)
  clear ho hl hR hx2 H2
  go_wp2_with fail
  refine (chapter12_any _).mono ?_
  rintro e wc4 ⟨lv4, rfl, hR, hx2⟩
  replace hx := hx.trans hx2
  clear hx2
  go_wp2_with fail
  have hl := litAt0 wc4 [5] 3 (by decide)
  refine (H3.out _ _ _ (hR.ex (Ex.alloc _ _)) hl).mono ?_
  rintro e w4 ⟨v4, rfl, ho, hx2⟩
  obtain ⟨p4, q4, rfl, _, _, _⟩ := ho.steps
  replace hx := hx.trans ((Ex.alloc _ _).trans hx2)
  clear ho hl hR hx2 H3
  go_wp2_with fail
  have oA := (OwnB.new w4 [.int .i64 2] 3).ex (Ex.alloc _ (.cells #[.slice (some ⟨w4.heap.size, 0, none⟩) 1 1] 25))
  have oB := OwnB.new (w4.alloc (.cells #[.int .i64 2] 3)) [.slice (some ⟨w4.heap.size, 0, none⟩) 1 1] 25
  simp only [alloc_size] at oB
  have HR4 := rowsAt_of (ll := [[2]]) oB rfl (by decide) (fun k hk => by
    obtain rfl : k = 0 := by have : k < 1 := hk; omega
    exact ⟨_, rfl, intsAt_of_block (l := [2]) oA (by decide)⟩)
  refine (H4.out _ _ _ HR4 (IntsAt.nil _)).mono ?_
  rintro e w5 ⟨v5, rfl, ho, hx2⟩
  obtain ⟨p5, q5, rfl, _, _, _⟩ := ho.steps
  replace hx := hx.trans (((Ex.alloc _ _).alloc' _).trans hx2)
  clear ho HR4 oA oB hx2 H4
  go_wp2_with fail
  have oA := OwnB.new w5 [.int .i64 1, .int .i64 (-1)] 3
  have oB := OwnB.new (w5.alloc (.cells #[.int .i64 1, .int .i64 (-1)] 3)) [.int .i64 1, .int .i64 1] 3
  have oC := OwnB.new ((w5.alloc (.cells #[.int .i64 1, .int .i64 (-1)] 3)).alloc (.cells #[.int .i64 1, .int .i64 1] 3)) [] 3
  have oD := OwnB.new (((w5.alloc (.cells #[.int .i64 1, .int .i64 (-1)] 3)).alloc (.cells #[.int .i64 1, .int .i64 1] 3)).alloc (.cells #[] 3)) [.slice (some ⟨w5.heap.size, 0, none⟩) 2 2, .slice (some ⟨w5.heap.size + 1, 0, none⟩) 2 2, .slice (some ⟨w5.heap.size + 1 + 1, 0, none⟩) 0 0] 25
  simp only [alloc_size] at oB oC oD
  replace oA := ((oA.ex (Ex.alloc _ (.cells #[.int .i64 1, .int .i64 1] 3))).ex (Ex.alloc _ (.cells #[] 3))).ex (Ex.alloc _ (.cells #[.slice (some ⟨w5.heap.size, 0, none⟩) 2 2, .slice (some ⟨w5.heap.size + 1, 0, none⟩) 2 2, .slice (some ⟨w5.heap.size + 1 + 1, 0, none⟩) 0 0] 25))
  replace oB := (oB.ex (Ex.alloc _ (.cells #[] 3))).ex (Ex.alloc _ (.cells #[.slice (some ⟨w5.heap.size, 0, none⟩) 2 2, .slice (some ⟨w5.heap.size + 1, 0, none⟩) 2 2, .slice (some ⟨w5.heap.size + 1 + 1, 0, none⟩) 0 0] 25))
  replace oC := oC.ex (Ex.alloc _ (.cells #[.slice (some ⟨w5.heap.size, 0, none⟩) 2 2, .slice (some ⟨w5.heap.size + 1, 0, none⟩) 2 2, .slice (some ⟨w5.heap.size + 1 + 1, 0, none⟩) 0 0] 25))
  have HR5 := rowsAt_of (ll := ex12b) oD rfl (by decide) (fun k hk => by
    have hk : k < 3 := hk
    rcases (show k = 0 ∨ k = 1 ∨ k = 2 by omega) with rfl | rfl | rfl
    · exact ⟨_, rfl, intsAt_of_block (l := [1, -1]) oA (by decide)⟩
    · exact ⟨_, rfl, intsAt_of_block (l := [1, 1]) oB (by decide)⟩
    · exact ⟨_, rfl, intsAt_of_block (l := []) oC (by decide)⟩)
  have oE := OwnB.new ((((w5.alloc (.cells #[.int .i64 1, .int .i64 (-1)] 3)).alloc (.cells #[.int .i64 1, .int .i64 1] 3)).alloc (.cells #[] 3)).alloc (.cells #[.slice (some ⟨w5.heap.size, 0, none⟩) 2 2, .slice (some ⟨w5.heap.size + 1, 0, none⟩) 2 2, .slice (some ⟨w5.heap.size + 1 + 1, 0, none⟩) 0 0] 25)) [.int .i64 (-1)] 3
  simp only [alloc_size] at oE
  have hl := intsAt_of_block (l := [-1]) oE (by decide)
  refine (H5.out _ _ _ (HR5.ex (Ex.alloc _ _)) hl).mono ?_
  rintro e w6 ⟨v6, rfl, ho, hx2⟩
  have hS6 := ho.steps
  obtain ⟨p6, q6, rfl, _, _, _⟩ := hS6
  have hS6 := ho.steps
  replace hx := hx.trans ((((((Ex.alloc _ _).alloc' _).alloc' _).alloc' _).alloc' _).trans hx2)
  clear ho HR5 oA oB oC oD oE hl hx2 H5
  go_wp2_with fail
  refine (chapter12_any _).mono ?_
  rintro e wc7 ⟨lv7, rfl, hR, hx67⟩
  replace hx := hx.trans hx67
  go_wp2_with fail
  have hl := litAt0 wc7 [1] 3 (by decide)
  refine (H6.out _ _ _ (hR.ex (Ex.alloc _ _)) hl).mono ?_
  rintro e w7 ⟨v7, rfl, ho, hx2⟩
  obtain ⟨p7, q7, rfl, _, _, _⟩ := ho.ints
  replace hx := hx.trans ((Ex.alloc _ _).trans hx2)
  replace hS6 := hS6.ex ((‹Ex w6 wc7›).trans ((Ex.alloc _ _).trans hx2))
  clear ho hl hR hx2 H6
  obtain ⟨_, _, hv, m1, m2, h3⟩ := hS6
  cases hv
  obtain ⟨b6, off6, rfl, hb6, d0, d1, d2⟩ := h3 0 (by decide)
  clear h3
  have d0' : w7.cell? ⟨b6, off6, none⟩ = some (.int .i64 1) := d0
  have d1' : w7.cell? ⟨b6, off6 + 1, none⟩ = some (.int .i64 1) := d1
  have d2' : w7.cell? ⟨b6, off6 + 2, none⟩ = some (.int .i64 0) := d2
  clear d0 d1 d2
  go_wp2_with fail
  refine (works12_any _).mono ?_
  rintro e w8 ⟨rfl, hx2⟩
  go_wp2
  go_ret
  exact ⟨rfl, hx.trans hx2⟩
end Go.Proofs.Ytlaejhmpnlcceaa
