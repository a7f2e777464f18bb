/- LearnKnown: the walk. No condition. -/
import Derived.Test.YteagoaiiacideaaLaw13a
import Derived.Deep.RegionHeld3
namespace Go.Proofs.Yteagoaiiacideaa
set_option linter.unusedSimpArgs false
set_option linter.unusedVariables false
open Go.RowKit
set_option maxRecDepth 20000
theorem stepsAt_take {w : World} {s : Option Addr} {n cap : Nat} {tr : List St} (h : StepsAt w (.slice s n cap) tr) (m : Nat) (hm : m ≤ tr.length) : StepsAt w (.slice s m cap) (tr.take m) := by
  obtain ⟨_, _, ev, h1, h2, h3⟩ := h
  cases ev
  have hl : (tr.take m).length = m := by rw [List.length_take]; omega
  refine ⟨s, cap, by rw [hl], by rw [hl]; omega, h2, fun k hk => ?_⟩
  rw [hl] at hk
  have e : (tr.take m).getD k default = tr.getD k default := by rw [getD_getElem (by omega), getD_getElem (by omega), List.getElem_take]
  rw [e]
  exact h3 k (by omega)
theorem stepsAt_drop {w : World} {b off n cap : Nat} {tr : List St} (h : StepsAt w (.slice (some ⟨b, off, none⟩) n cap) tr) (hm : 1 ≤ tr.length) : StepsAt w (.slice (some ⟨b, off + 3, none⟩) (tr.length - 1) (cap - 1)) (tr.drop 1) := by
  obtain ⟨_, _, ev, h1, h2, h3⟩ := h
  cases ev
  have hl : (tr.drop 1).length = tr.length - 1 := by rw [List.length_drop]
  refine ⟨_, _, by rw [hl], by rw [hl]; omega, by omega, fun k hk => ?_⟩
  rw [hl] at hk
  have e : (tr.drop 1).getD k default = tr.getD (k + 1) default := by rw [getD_getElem (by omega), getD_getElem (by omega), List.getElem_drop]; congr 1; omega
  rw [e]
  obtain ⟨b', off', eb, hb, g0, g1, g2⟩ := h3 (k + 1) (by omega)
  cases eb
  refine ⟨b, off + 3, rfl, hb, ?_, ?_, ?_⟩
  · rw [show off + 3 + k * 3 = off + (k + 1) * 3 by omega]; exact g0
  · rw [show off + 3 + k * 3 = off + (k + 1) * 3 by omega]; exact g1
  · rw [show off + 3 + k * 3 = off + (k + 1) * 3 by omega]; exact g2
abbrev no13 : List (List Int) := [[1], [-1], []]
abbrev one13 : List St := [⟨1, 0, 0⟩]
set_option maxRecDepth 100000 in
set_option maxHeartbeats 8000000 in
theorem LearnKnown_any (w : World) : Calls Try.prog 7 #[] w fun e w' => e = .returned (.bool true) ∧ Ex w w' := by
  have H1 : Hid (∀ (wa : World) (lv sv : Value), RowsAt wa lv ex13 → StepsAt wa sv (tr13.take 3) → Calls Try.prog 15 #[.agg #[.int .i64 4, lv], sv, .int .i64 3] wa (FirstRet wa [] 0 1)) := fun wa lv sv hR hS => by
    have := learnFirst_any 4 lv sv ex13 (tr13.take 3) 3 wa hR hS (by decide)
    rwa [show firstL 4 ex13 (tr13.take 3) 3 = [] by decide +kernel, show firstK 4 ex13 (tr13.take 3) 3 = 0 by decide +kernel, show firstE 4 ex13 (tr13.take 3) 3 = 1 by decide +kernel] at this
  have H2 : Hid (∀ (wa : World) (lv sv cv : Value), RowsAt wa lv ex13 → StepsAt wa sv tr13 → IntsAt wa cv [-3, -4] → Calls Try.prog 20 #[.agg #[.int .i64 4, lv], sv, cv] wa (RedRet wa [-3, -4] 0)) := fun wa lv sv cv hR hS hc => by
    have := learnRedundant_any 4 lv sv cv ex13 tr13 [-3, -4] wa hR hS hc (by decide) (by decide)
    rwa [show redL 4 ex13 tr13 [-3, -4] = [-3, -4] by decide +kernel, show redE 4 ex13 tr13 [-3, -4] = 0 by decide +kernel] at this
  have H3 : Hid (∀ (wa : World) (lv cv : Value), RowsAt wa lv ex13 → IntsAt wa cv [1, -1] → Calls Try.prog 22 #[.agg #[.int .i64 4, lv], cv] wa fun e w' => e = .returned (.bool true) ∧ Ex wa w') := fun wa lv cv hR hc => by
    have := learnImplied_any 4 lv cv ex13 [1, -1] wa hR hc (by decide)
    rwa [show impB 4 ex13 [1, -1] = true by decide +kernel] at this
  have H4 : Hid (∀ (wa : World) (lv cv : Value), RowsAt wa lv ex13 → IntsAt wa cv [2, 3] → Calls Try.prog 22 #[.agg #[.int .i64 4, lv], cv] wa fun e w' => e = .returned (.bool false) ∧ Ex wa w') := fun wa lv cv hR hc => by
    have := learnImplied_any 4 lv cv ex13 [2, 3] wa hR hc (by decide)
    rwa [show impB 4 ex13 [2, 3] = false by decide +kernel] at this
  have H5 : Hid (∀ (wa : World) (lv cv : Value), RowsAt wa lv ex13 → IntsAt wa cv [5, -5] → Calls Try.prog 22 #[.agg #[.int .i64 4, lv], cv] wa fun e w' => e = .returned (.bool false) ∧ Ex wa w') := fun wa lv cv hR hc => by
    have := learnImplied_any 4 lv cv ex13 [5, -5] wa hR hc (by decide)
    rwa [show impB 4 ex13 [5, -5] = false by decide +kernel] at this
  have H6 : Hid (∀ (wa : World) (lv cv : Value), RowsAt wa lv ex13 → IntsAt wa cv [0] → Calls Try.prog 22 #[.agg #[.int .i64 4, lv], cv] wa fun e w' => e = .returned (.bool false) ∧ Ex wa w') := fun wa lv cv hR hc => by
    have := learnImplied_any 4 lv cv ex13 [0] wa hR hc (by decide)
    rwa [show impB 4 ex13 [0] = false by decide +kernel] at this
  have H7 : Hid (∀ (wa : World) (lv sv cv : Value), RowsAt wa lv ex13 → StepsAt wa sv tr13 → IntsAt wa cv [3] → Calls Try.prog 20 #[.agg #[.int .i64 4, lv], sv, cv] wa (RedRet wa [] 1)) := fun wa lv sv cv hR hS hc => by
    have := learnRedundant_any 4 lv sv cv ex13 tr13 [3] wa hR hS hc (by decide) (by decide)
    rwa [show redL 4 ex13 tr13 [3] = [] by decide +kernel, show redE 4 ex13 tr13 [3] = 1 by decide +kernel] at this
  have H8 : Hid (∀ (wa : World) (lv sv cv : Value), RowsAt wa lv ex13 → StepsAt wa sv (tr13.drop 1) → IntsAt wa cv [] → Calls Try.prog 20 #[.agg #[.int .i64 4, lv], sv, cv] wa (RedRet wa [] 1)) := fun wa lv sv cv hR hS hc => by
    have := learnRedundant_any 4 lv sv cv ex13 (tr13.drop 1) [] wa hR hS hc (by decide) (by decide)
    rwa [show redL 4 ex13 (tr13.drop 1) [] = [] by decide +kernel, show redE 4 ex13 (tr13.drop 1) [] = 1 by decide +kernel] at this
  have H9 : Hid (∀ (wa : World) (lv sv : Value), RowsAt wa lv no13 → StepsAt wa sv one13 → Calls Try.prog 15 #[.agg #[.int .i64 1, lv], sv, .int .i64 1] wa (FirstRet wa [] (-1) 0)) := fun wa lv sv hR hS => by
    have := learnFirst_any 1 lv sv no13 one13 1 wa hR hS (by decide)
    rwa [show firstL 1 no13 one13 1 = [] by decide +kernel, show firstK 1 no13 one13 1 = (-1) by decide +kernel, show firstE 1 no13 one13 1 = 0 by decide +kernel] at this
  have H10 : Hid (∀ (wa : World) (lv sv : Value), RowsAt wa lv no13 → StepsAt wa sv [] → Calls Try.prog 15 #[.agg #[.int .i64 1, lv], sv, .int .i64 2] wa (FirstRet wa [] (-1) 0)) := fun wa lv sv hR hS => by
    have := learnFirst_any 1 lv sv no13 [] 2 wa hR hS (by decide)
    rwa [show firstL 1 no13 [] 2 = [] by decide +kernel, show firstK 1 no13 [] 2 = (-1) by decide +kernel, show firstE 1 no13 [] 2 = 0 by decide +kernel] at this
  have H11 : Hid (∀ (wa : World) (lv cv : Value), RowsAt wa lv no13 → IntsAt wa cv [] → Calls Try.prog 22 #[.agg #[.int .i64 1, lv], cv] wa fun e w' => e = .returned (.bool true) ∧ Ex wa w') := fun wa lv cv hR hc => by
    have := learnImplied_any 1 lv cv no13 [] wa hR hc (by decide)
    rwa [show impB 1 no13 [] = true by decide +kernel] at this
  have H12 : Hid (∀ (wa : World) (lv cv : Value), RowsAt wa lv [] → IntsAt wa cv [] → Calls Try.prog 22 #[.agg #[.int .i64 (-1), lv], cv] wa fun e w' => e = .returned (.bool false) ∧ Ex wa w') := fun wa lv cv hR hc => by
    have := learnImplied_any (-1) lv cv [] [] wa hR hc (by decide)
    rwa [show impB (-1) [] [] = false by decide +kernel] at this
  have HL : Hid (∀ (wa : World) (u v : Value) (l : List Int), IntsAt wa u l → IntsAt wa v l → Calls Try.prog 28 #[u, v] wa fun e w' => e = .returned (.bool true) ∧ Ex wa w') := fun wa u v l h k => by
    have := list13_any u v l l wa h k
    rwa [decide_eq_true rfl] at this
  go_enter Try.func7, Try.ntmps7
  go_wp2_with fail
  refine (sample13_any _).mono ?_
  rintro e w1 ⟨lv, sv, rfl, hR, hS, hx⟩
  have oT := OwnB.new w1 [.int .i64 4, lv] 24
  have hx1 := Ex.alloc w1 (.cells #[.int .i64 4, lv] 24)
  replace hx := hx.trans hx1
  replace hR := hR.ex hx1
  replace hS := hS.ex hx1
  obtain ⟨ra, rcap, hrv, _, _, _⟩ := id hR
  replace hrv : lv = .slice ra 4 rcap := hrv
  subst hrv
  obtain ⟨sa, scap, hsv, s1, s2, s3⟩ := id hS
  replace hsv : sv = .slice sa 4 scap := hsv
  replace s1 : 4 ≤ scap := s1
  unfold maxLen at s2
  subst hsv
  obtain ⟨sb, soff, rfl, hsb, _, _, _⟩ := s3 0 (by decide)
  have c0 := oT.cell 0
  have c1 := oT.cell 1
  have z0 := oT.lt
  have hS3 := stepsAt_take hS 3 (by decide)
  have hSd : StepsAt _ (.slice (some ⟨sb, soff + 3, none⟩) 3 (scap - 1)) (tr13.drop 1) := stepsAt_drop hS (by decide)
  have s3i : (3 : Int) ≤ (scap : Int) := by omega
  have s4i : (4 : Int) ≤ (scap : Int) := by omega
  have s1i : (1 : Int) ≤ (scap : Int) := by omega
  have s3n : 3 ≤ scap := by omega
  have s1n : 1 ≤ scap := by omega
  have hne1 : ¬ scap = 1 := by omega
  clear hx1 s3
  go_wp2_with fail
  generalize w1.alloc (.cells #[.int .i64 4, .slice ra 4 rcap] 24) = w2 at *
  generalize w1.heap.size = TB at *
  replace c0 : w2.cell? ⟨TB, 0, none⟩ = some (.int .i64 4) := oT.cell 0
  replace c1 : w2.cell? ⟨TB, 1, none⟩ = some (.slice ra 4 rcap) := oT.cell 1
  go_region_held3 (fun w' => w'.cell? ⟨TB, 0, none⟩ = some (.int .i64 4) ∧ w'.cell? ⟨TB, 1, none⟩ = some (.slice ra 4 rcap)) (first | exact ⟨c0, c1⟩ | exact ⟨c03, c13⟩ | go_keep) (first | (go_at_call 15; refine (H1.out _ _ _ (hR.ex (Ex.refl _).drew) (hS3.ex (Ex.refl _).drew)).mono ?_; rintro e w3 ⟨v3, rfl, ho3, hx3⟩; have hI3 := ho3.ints; obtain ⟨p3, q3, rfl, _, _, _⟩ := id hI3; have c03 := ex_cell (show w2.drew.cell? _ = _ from c0) hx3; have c13 := ex_cell (show w2.drew.cell? _ = _ from c1) hx3) | fail)
  replace hx3 := (Ex.refl w2).drew.trans hx3
  replace hx := hx.trans hx3
  replace hR := hR.ex hx3
  replace hS := hS.ex hx3
  replace hSd := hSd.ex hx3
  replace oT := oT.ex hx3
  clear hx3 ho3 hI3 c0 c1 c03 c13 z0 H1 hS3 hsb
  have hl := litAtN w3 [-3, -4] 3 (by decide)
  have hx3 := Ex.alloc w3 (.cells (intsV [-3, -4]).toArray 3)
  have c0 := (oT.ex hx3).cell 0
  have c1 := (oT.ex hx3).cell 1
  have c0' := oT.cell 0
  have c1' := oT.cell 1
  have z0 := oT.lt
  go_wp2_with fail
  refine (H2.out _ _ _ _ (hR.ex hx3) (hS.ex hx3) hl).mono ?_
  rintro e w4 ⟨v4, rfl, ho4, hx4⟩
  have hI4 := ho4.ints
  obtain ⟨p4, q4, rfl, _, _, _⟩ := id hI4
  replace hx4 := hx3.trans hx4
  replace hx := hx.trans hx4
  replace hR := hR.ex hx4
  replace oT := oT.ex hx4
  replace hS := hS.ex hx4
  replace hSd := hSd.ex hx4
  clear ho4 hx4 hx3 H2 c0 c1 c0' c1' z0 hl
  have hl := litAtN w4 [-3, -4] 3 (by decide)
  have hx3 := Ex.alloc w4 (.cells (intsV [-3, -4]).toArray 3)
  go_wp2_with fail
  refine (HL.out _ _ _ [-3, -4] (hI4.ex hx3) hl).mono ?_
  rintro e w5 ⟨rfl, hx5⟩
  replace hx5 := hx3.trans hx5
  replace hx := hx.trans hx5
  replace hR := hR.ex hx5
  replace oT := oT.ex hx5
  replace hS := hS.ex hx5
  replace hSd := hSd.ex hx5
  clear hx5 hx3 HL hI4 hl
  have hl := litAtN w5 [1, -1] 3 (by decide)
  have hx3 := Ex.alloc w5 (.cells (intsV [1, -1]).toArray 3)
  have c0 := (oT.ex hx3).cell 0
  have c1 := (oT.ex hx3).cell 1
  have c0' := oT.cell 0
  have c1' := oT.cell 1
  have z0 := oT.lt
  go_wp2_with fail
  refine (H3.out _ _ _ (hR.ex hx3) hl).mono ?_
  rintro e w6 ⟨rfl, hx6⟩
  replace hx6 := hx3.trans hx6
  replace hx := hx.trans hx6
  replace hR := hR.ex hx6
  replace oT := oT.ex hx6
  replace hS := hS.ex hx6
  replace hSd := hSd.ex hx6
  clear hx6 hx3 H3 c0 c1 c0' c1' z0 hl
  have hl := litAtN w6 [2, 3] 3 (by decide)
  have hx3 := Ex.alloc w6 (.cells (intsV [2, 3]).toArray 3)
  have c0 := (oT.ex hx3).cell 0
  have c1 := (oT.ex hx3).cell 1
  have c0' := oT.cell 0
  have c1' := oT.cell 1
  have z0 := oT.lt
  go_wp2_with fail
  refine (H4.out _ _ _ (hR.ex hx3) hl).mono ?_
  rintro e w7 ⟨rfl, hx7⟩
  replace hx7 := hx3.trans hx7
  replace hx := hx.trans hx7
  replace hR := hR.ex hx7
  replace oT := oT.ex hx7
  replace hS := hS.ex hx7
  replace hSd := hSd.ex hx7
  clear hx7 hx3 H4 c0 c1 c0' c1' z0 hl
  have hl := litAtN w7 [5, -5] 3 (by decide)
  have hx3 := Ex.alloc w7 (.cells (intsV [5, -5]).toArray 3)
  have c0 := (oT.ex hx3).cell 0
  have c1 := (oT.ex hx3).cell 1
  have c0' := oT.cell 0
  have c1' := oT.cell 1
  have z0 := oT.lt
  go_wp2_with fail
  refine (H5.out _ _ _ (hR.ex hx3) hl).mono ?_
  rintro e w8 ⟨rfl, hx8⟩
  replace hx8 := hx3.trans hx8
  replace hx := hx.trans hx8
  replace hR := hR.ex hx8
  replace oT := oT.ex hx8
  replace hS := hS.ex hx8
  replace hSd := hSd.ex hx8
  clear hx8 hx3 H5 c0 c1 c0' c1' z0 hl
  have hl := litAtN w8 [0] 3 (by decide)
  have hx3 := Ex.alloc w8 (.cells (intsV [0]).toArray 3)
  have c0 := (oT.ex hx3).cell 0
  have c1 := (oT.ex hx3).cell 1
  have c0' := oT.cell 0
  have c1' := oT.cell 1
  have z0 := oT.lt
  go_wp2_with fail
  refine (H6.out _ _ _ (hR.ex hx3) hl).mono ?_
  rintro e w9 ⟨rfl, hx9⟩
  replace hx9 := hx3.trans hx9
  replace hx := hx.trans hx9
  replace hR := hR.ex hx9
  replace oT := oT.ex hx9
  replace hS := hS.ex hx9
  replace hSd := hSd.ex hx9
  clear hx9 hx3 H6 c0 c1 c0' c1' z0 hl
  have hl := litAtN w9 [3] 3 (by decide)
  have hx3 := Ex.alloc w9 (.cells (intsV [3]).toArray 3)
  have c0 := (oT.ex hx3).cell 0
  have c1 := (oT.ex hx3).cell 1
  have c0' := oT.cell 0
  have c1' := oT.cell 1
  have z0 := oT.lt
  go_wp2_with fail
  refine (H7.out _ _ _ _ (hR.ex hx3) (hS.ex hx3) hl).mono ?_
  rintro e w10 ⟨v10, rfl, ho10, hx10⟩
  obtain ⟨p10, q10, rfl, _, _, _⟩ := ho10.ints
  replace hx10 := hx3.trans hx10
  replace hx := hx.trans hx10
  replace hR := hR.ex hx10
  replace oT := oT.ex hx10
  replace hS := hS.ex hx10
  replace hSd := hSd.ex hx10
  clear ho10 hx10 hx3 H7 c0 c1 c0' c1' z0 hl
  have z0 := oT.lt
  have c0 : w10.cell? ⟨TB, 0, none⟩ = some (.int .i64 4) := oT.cell 0
  have c1 : w10.cell? ⟨TB, 1, none⟩ = some (.slice ra 4 rcap) := oT.cell 1
  go_wp2
  go_region_held3 (fun w' => w'.cell? ⟨TB, 0, none⟩ = some (.int .i64 4) ∧ w'.cell? ⟨TB, 1, none⟩ = some (.slice ra 4 rcap)) (first | exact ⟨c0, c1⟩ | exact ⟨c03, c13⟩ | go_keep) (first | (go_at_call 20; refine (H8.out _ _ _ _ (hR.ex (Ex.refl _).drew) (hSd.ex (Ex.refl _).drew) (IntsAt.nil _)).mono ?_; rintro e w11 ⟨v11, rfl, ho11, hx11⟩; obtain ⟨p11, q11, rfl, _, _, _⟩ := ho11.ints; have c03 := ex_cell (show w10.drew.cell? _ = _ from c0) hx11; have c13 := ex_cell (show w10.drew.cell? _ = _ from c1) hx11) | fail)
  replace hx := hx.trans ((Ex.refl w10).drew.trans hx11)
  clear ho11 hx11 c0 c1 c03 c13 z0 H8 hS hSd hR oT
  have oA := OwnB.new w11 [.int .i64 1] 3
  have oB := OwnB.new (w11.alloc (.cells #[.int .i64 1] 3)) [.int .i64 (-1)] 3
  have oC := OwnB.new ((w11.alloc (.cells #[.int .i64 1] 3)).alloc (.cells #[.int .i64 (-1)] 3)) [] 3
  have oR := OwnB.new (((w11.alloc (.cells #[.int .i64 1] 3)).alloc (.cells #[.int .i64 (-1)] 3)).alloc (.cells #[] 3)) [.slice (some ⟨w11.heap.size, 0, none⟩) 1 1, .slice (some ⟨w11.heap.size + 1, 0, none⟩) 1 1, .slice (some ⟨w11.heap.size + 1 + 1, 0, none⟩) 0 0] 26
  have oU := OwnB.new ((((w11.alloc (.cells #[.int .i64 1] 3)).alloc (.cells #[.int .i64 (-1)] 3)).alloc (.cells #[] 3)).alloc (.cells #[.slice (some ⟨w11.heap.size, 0, none⟩) 1 1, .slice (some ⟨w11.heap.size + 1, 0, none⟩) 1 1, .slice (some ⟨w11.heap.size + 1 + 1, 0, none⟩) 0 0] 26)) [.int .i64 1, .slice (some ⟨w11.heap.size + 1 + 1 + 1, 0, none⟩) 3 3] 24
  have oS := OwnB.new (((((w11.alloc (.cells #[.int .i64 1] 3)).alloc (.cells #[.int .i64 (-1)] 3)).alloc (.cells #[] 3)).alloc (.cells #[.slice (some ⟨w11.heap.size, 0, none⟩) 1 1, .slice (some ⟨w11.heap.size + 1, 0, none⟩) 1 1, .slice (some ⟨w11.heap.size + 1 + 1, 0, none⟩) 0 0] 26)).alloc (.cells #[.int .i64 1, .slice (some ⟨w11.heap.size + 1 + 1 + 1, 0, none⟩) 3 3] 24)) [.int .i64 1, .int .i64 0, .int .i64 0] 55
  simp only [alloc_size] at oA oB oC oR oU oS
  replace oA := oA.ex (Ex.alloc _ (.cells #[.int .i64 (-1)] 3))
  replace oA := oA.ex (Ex.alloc _ (.cells #[] 3))
  replace oA := oA.ex (Ex.alloc _ (.cells #[.slice (some ⟨w11.heap.size, 0, none⟩) 1 1, .slice (some ⟨w11.heap.size + 1, 0, none⟩) 1 1, .slice (some ⟨w11.heap.size + 1 + 1, 0, none⟩) 0 0] 26))
  replace oA := oA.ex (Ex.alloc _ (.cells #[.int .i64 1, .slice (some ⟨w11.heap.size + 1 + 1 + 1, 0, none⟩) 3 3] 24))
  replace oA := oA.ex (Ex.alloc _ (.cells #[.int .i64 1, .int .i64 0, .int .i64 0] 55))
  replace oB := oB.ex (Ex.alloc _ (.cells #[] 3))
  replace oB := oB.ex (Ex.alloc _ (.cells #[.slice (some ⟨w11.heap.size, 0, none⟩) 1 1, .slice (some ⟨w11.heap.size + 1, 0, none⟩) 1 1, .slice (some ⟨w11.heap.size + 1 + 1, 0, none⟩) 0 0] 26))
  replace oB := oB.ex (Ex.alloc _ (.cells #[.int .i64 1, .slice (some ⟨w11.heap.size + 1 + 1 + 1, 0, none⟩) 3 3] 24))
  replace oB := oB.ex (Ex.alloc _ (.cells #[.int .i64 1, .int .i64 0, .int .i64 0] 55))
  replace oC := oC.ex (Ex.alloc _ (.cells #[.slice (some ⟨w11.heap.size, 0, none⟩) 1 1, .slice (some ⟨w11.heap.size + 1, 0, none⟩) 1 1, .slice (some ⟨w11.heap.size + 1 + 1, 0, none⟩) 0 0] 26))
  replace oC := oC.ex (Ex.alloc _ (.cells #[.int .i64 1, .slice (some ⟨w11.heap.size + 1 + 1 + 1, 0, none⟩) 3 3] 24))
  replace oC := oC.ex (Ex.alloc _ (.cells #[.int .i64 1, .int .i64 0, .int .i64 0] 55))
  replace oR := oR.ex (Ex.alloc _ (.cells #[.int .i64 1, .slice (some ⟨w11.heap.size + 1 + 1 + 1, 0, none⟩) 3 3] 24))
  replace oR := oR.ex (Ex.alloc _ (.cells #[.int .i64 1, .int .i64 0, .int .i64 0] 55))
  replace oU := oU.ex (Ex.alloc _ (.cells #[.int .i64 1, .int .i64 0, .int .i64 0] 55))
  have hxN : Ex w11 ((((((w11.alloc (.cells #[.int .i64 1] 3)).alloc (.cells #[.int .i64 (-1)] 3)).alloc (.cells #[] 3)).alloc (.cells #[.slice (some ⟨w11.heap.size, 0, none⟩) 1 1, .slice (some ⟨w11.heap.size + 1, 0, none⟩) 1 1, .slice (some ⟨w11.heap.size + 1 + 1, 0, none⟩) 0 0] 26)).alloc (.cells #[.int .i64 1, .slice (some ⟨w11.heap.size + 1 + 1 + 1, 0, none⟩) 3 3] 24)).alloc (.cells #[.int .i64 1, .int .i64 0, .int .i64 0] 55)) := (((((Ex.alloc _ _).alloc' _).alloc' _).alloc' _).alloc' _).alloc' _
  have HR : RowsAt ((((((w11.alloc (.cells #[.int .i64 1] 3)).alloc (.cells #[.int .i64 (-1)] 3)).alloc (.cells #[] 3)).alloc (.cells #[.slice (some ⟨w11.heap.size, 0, none⟩) 1 1, .slice (some ⟨w11.heap.size + 1, 0, none⟩) 1 1, .slice (some ⟨w11.heap.size + 1 + 1, 0, none⟩) 0 0] 26)).alloc (.cells #[.int .i64 1, .slice (some ⟨w11.heap.size + 1 + 1 + 1, 0, none⟩) 3 3] 24)).alloc (.cells #[.int .i64 1, .int .i64 0, .int .i64 0] 55)) (.slice (some ⟨w11.heap.size + 1 + 1 + 1, 0, none⟩) 3 3) no13 := rowsAt_of (ll := no13) oR rfl (by decide) (fun j hj => by
    have hj : j < 3 := hj
    rcases (show j = 0 ∨ j = 1 ∨ j = 2 by omega) with rfl | rfl | rfl
    · exact ⟨_, rfl, intsAt_of_block (l := [1]) oA (by decide)⟩
    · exact ⟨_, rfl, intsAt_of_block (l := [-1]) oB (by decide)⟩
    · exact ⟨_, rfl, intsAt_of_block (l := []) oC (by decide)⟩)
  have HS : StepsAt ((((((w11.alloc (.cells #[.int .i64 1] 3)).alloc (.cells #[.int .i64 (-1)] 3)).alloc (.cells #[] 3)).alloc (.cells #[.slice (some ⟨w11.heap.size, 0, none⟩) 1 1, .slice (some ⟨w11.heap.size + 1, 0, none⟩) 1 1, .slice (some ⟨w11.heap.size + 1 + 1, 0, none⟩) 0 0] 26)).alloc (.cells #[.int .i64 1, .slice (some ⟨w11.heap.size + 1 + 1 + 1, 0, none⟩) 3 3] 24)).alloc (.cells #[.int .i64 1, .int .i64 0, .int .i64 0] 55)) (.slice (some ⟨w11.heap.size + 1 + 1 + 1 + 1 + 1, 0, none⟩) 1 1) one13 := stepsAt_of_block (tr := one13) oS (by decide)
  clear oA oB oC oR oS
  go_wp2_with fail
  generalize ((((((w11.alloc (.cells #[.int .i64 1] 3)).alloc (.cells #[.int .i64 (-1)] 3)).alloc (.cells #[] 3)).alloc (.cells #[.slice (some ⟨w11.heap.size, 0, none⟩) 1 1, .slice (some ⟨w11.heap.size + 1, 0, none⟩) 1 1, .slice (some ⟨w11.heap.size + 1 + 1, 0, none⟩) 0 0] 26)).alloc (.cells #[.int .i64 1, .slice (some ⟨w11.heap.size + 1 + 1 + 1, 0, none⟩) 3 3] 24)).alloc (.cells #[.int .i64 1, .int .i64 0, .int .i64 0] 55)) = w12 at *
  refine (H9.out _ _ _ HR HS).mono ?_
  rintro e w13 ⟨v13, rfl, ho13, hx13⟩
  obtain ⟨p13, q13, rfl, _, _, _⟩ := ho13.ints
  replace HR := HR.ex hx13
  replace oU := oU.ex hx13
  replace hx := (hx.trans hxN).trans hx13
  clear ho13 hx13 hxN HS H9
  have c0 := oU.cell 0
  have c1 := oU.cell 1
  have z0 := oU.lt
  go_wp2_with fail
  refine (H10.out _ _ _ HR ⟨none, 0, rfl, Nat.le_refl _, Nat.zero_le _, fun k hk => by cases hk⟩).mono ?_
  rintro e w14 ⟨v14, rfl, ho14, hx14⟩
  obtain ⟨p14, q14, rfl, _, _, _⟩ := ho14.ints
  replace HR := HR.ex hx14
  replace oU := oU.ex hx14
  replace hx := hx.trans hx14
  clear ho14 hx14 H10 c0 c1 z0
  have c0 := oU.cell 0
  have c1 := oU.cell 1
  have z0 := oU.lt
  go_wp2_with fail
  refine (H11.out _ _ _ HR (IntsAt.nil _)).mono ?_
  rintro e w15 ⟨rfl, hx15⟩
  replace hx := hx.trans hx15
  clear hx15 H11 c0 c1 z0 HR oU
  go_wp2_with fail
  refine (H12.out _ _ _ ⟨none, 0, rfl, Nat.le_refl _, Nat.zero_le _, fun k hk => by cases hk⟩ (IntsAt.nil _)).mono ?_
  rintro e w16 ⟨rfl, hx16⟩
  replace hx := hx.trans hx16
  clear hx16 H12
  go_wp2_with (refine (works13_any _).mono ?_; rintro e w17 ⟨rfl, hx17⟩)
  go_ret
  exact ⟨rfl, hx.trans hx17⟩
end Go.Proofs.Yteagoaiiacideaa
