/- Chapter 15: ProbeKnown: the examples: the walk. No condition. -/
import Derived.Test.YtnhlfhoeglnajaaLaw15d
namespace Go.Proofs.Ytnhlfhoeglnajaa
set_option linter.unusedSimpArgs false
set_option linter.unusedVariables false
open Go.RowKit
set_option maxRecDepth 20000
abbrev big15 : Int := -9223372036854775808
def no15 : List (List Int) := [[-3], [1, -1], [7], [0], [-9223372036854775808]]
abbrev a15 : List (List Int) := [[1], [-1]]
abbrev b15 : List (List Int) := [[-1, -2], [1, 2], [2, 3], [-2, -3]]
abbrev c15 : List (List Int) := [[2]]
def clsB (x : Int) : Int := if x = 2 then -1 else if x = -2 then 1 else if x = 3 then 1 else if x = -3 then -1 else x
theorem eqLb15 : eqL ((3 : Nat) : Int) b15 3 = [1, -1, 1] := by
  refine eqL_class (n := 3) (by decide) clsB (by decide +kernel) _ rfl fun k hk => ?_
  have hk : k < 3 := hk
  have hk' : k = 0 ∨ k = 1 ∨ k = 2 := by omega
  rcases hk' with rfl | rfl | rfl
  · exact ⟨1, rfl, .inl rfl, 1, by decide, by decide, .inl rfl, fun z z1 z2 => by omega⟩
  · exact ⟨-1, rfl, .inr (by decide +kernel), 1, by decide, by decide, .inr ⟨rfl, by decide⟩, fun z z1 z2 => by omega⟩
  · exact ⟨1, rfl, .inr (by decide +kernel), 1, by decide, by decide, .inl rfl, fun z z1 z2 => by omega⟩
theorem no15_len : no15.length = 5 := rfl
theorem no15_all : ∀ k, k < 5 → probeT 6 ex15 (no15.getD k []) = none ∧ (no15.getD k []).length * 8 ≤ 140737488355328 := fun k hk => by
  have : k = 0 ∨ k = 1 ∨ k = 2 ∨ k = 3 ∨ k = 4 := by omega
  rcases this with rfl | rfl | rfl | rfl | rfl <;> exact ⟨by decide +kernel, by decide⟩
theorem rowsAt_nil (w : World) : RowsAt w (.slice none 0 0) [] := ⟨none, 0, rfl, Nat.le_refl _, Nat.zero_le _, fun k hk => by cases hk⟩
set_option maxRecDepth 100000 in
set_option maxHeartbeats 8000000 in
theorem ProbeKnown_any (w : World) : Calls Try.prog 10 #[] w fun e w' => e = .returned (.bool true) ∧ Ex w w' := by
  have H0 : Hid (∀ (wa : World) (lv : Value), RowsAt wa lv ex15 → Calls Try.prog 30 #[.agg #[.int .i64 6, lv], .slice none 0 0] wa (TermRet wa [] true)) := fun wa lv hR => by
    have := unitClosure_any 6 lv (.slice none 0 0) ex15 [] wa hR (IntsAt.nil wa)
    rwa [show closL 6 ex15 [] = [] by decide +kernel, show closB 6 ex15 [] = true by decide +kernel] at this
  have H1 : Hid (∀ (wa : World) (lv v : Value), RowsAt wa lv ex15 → IntsAt wa v [5] → Calls Try.prog 17 #[.agg #[.int .i64 6, lv], v] wa (TermRet wa [1, 3, 5, 6] true)) := fun wa lv v hR h => by
    have := probeProbe_any 6 lv v ex15 [5] wa hR h (by decide)
    rwa [show probeO 6 ex15 (termB [5] 6) (termL [5] 6) = some [1, 3, 5, 6] by decide +kernel] at this
  have H2 : Hid (∀ (wa : World) (lv v : Value) (k : Nat), k < 5 → RowsAt wa lv ex15 → IntsAt wa v (no15.getD k []) → Calls Try.prog 17 #[.agg #[.int .i64 6, lv], v] wa (TermRet wa [] false)) := fun wa lv v k hk hR h => by
    have := probeProbe_any 6 lv v ex15 _ wa hR h (no15_all k hk).2
    rwa [show probeO 6 ex15 (termB (no15.getD k []) 6) (termL (no15.getD k []) 6) = none from (no15_all k hk).1] at this
  have H3 : Hid (∀ (wa : World) (lv : Value), RowsAt wa lv a15 → Calls Try.prog 21 #[.agg #[.int .i64 1, lv]] wa (BoneRet wa [] false 0)) := fun wa lv hR => by
    have := Backbone_any 1 lv a15 wa hR
    rwa [show boneO 1 a15 = [] by decide +kernel, show boneB 1 a15 = false by decide +kernel, show theoryErr 1 a15 = 0 by decide +kernel] at this
  have H4 : Hid (∀ (wa : World), Calls Try.prog 21 #[.agg #[.int .i64 3, .slice none 0 0]] wa (BoneRet wa [] true 0)) := fun wa => by
    have := Backbone_any 3 _ [] wa (rowsAt_nil wa)
    rwa [show boneO 3 [] = [] by decide +kernel, show boneB 3 [] = true by decide +kernel, show theoryErr 3 [] = 0 by decide +kernel] at this
  have H5 : Hid (∀ (wa : World) (lv : Value), RowsAt wa lv b15 → Calls Try.prog 28 #[.agg #[.int .i64 3, lv]] wa (EqRet wa [1, -1, 1] 0)) := fun wa lv hR => by
    have := Equal_ok 3 lv b15 wa hR (by decide +kernel)
    rwa [eqLb15] at this
  have H6 : Hid (∀ (wa : World), Calls Try.prog 21 #[.agg #[.int .i64 129, .slice none 0 0]] wa (BoneRet wa [] false 6)) := fun wa => by
    have := Backbone_any 129 _ [] wa (rowsAt_nil wa)
    rwa [show boneO 129 [] = [] by decide +kernel, show boneB 129 [] = false by decide +kernel, show theoryErr 129 [] = 6 by decide +kernel] at this
  have H7 : Hid (∀ (wa : World) (lv : Value), RowsAt wa lv c15 → Calls Try.prog 28 #[.agg #[.int .i64 1, lv]] wa (EqRet wa [] 1)) := fun wa lv hR => by
    have := Equal_bad 1 lv c15 wa hR (by decide +kernel)
    rwa [show theoryErr 1 c15 = 1 by decide +kernel] at this
  have HS : Hid (∀ (wa : World) (u v : Value) (l : List Int), IntsAt wa u l → IntsAt wa v l → Calls Try.prog 25 #[u, v] wa fun e w' => e = .returned (.bool true) ∧ Ex wa w') := fun wa u v l h k => by
    have := r03Same_any u v l l wa h k
    rwa [decide_eq_true rfl] at this
  go_enter Try.func10, Try.ntmps10
  go_wp2_with fail
  refine (chapter15_any _).mono ?_
  rintro e w1 ⟨lv, rfl, hR, hx⟩
  go_wp2_with fail
  refine (H0.out _ _ hR).mono ?_
  rintro e w2 ⟨v1, rfl, ho, hx2⟩
  obtain ⟨p1, q1, rfl, _, _, _⟩ := ho.ints
  replace hx := hx.trans hx2
  clear ho hR hx2 H0
  go_wp2_with fail
  refine (chapter15_any _).mono ?_
  rintro e w3 ⟨lv2, rfl, hR, hx2⟩
  replace hx := hx.trans hx2
  clear hx2
  go_wp2_with fail
  have hl := litAtN w3 [5] 3 (by decide)
  refine (H1.out _ _ _ (hR.ex (Ex.alloc _ _)) hl).mono ?_
  rintro e w4 ⟨v2, rfl, ho, hx2⟩
  have hI2 := ho.ints
  obtain ⟨p2, q2, rfl, _, _, _⟩ := hI2
  have hI2 := ho.ints
  replace hx := hx.trans ((Ex.alloc _ _).trans hx2)
  clear ho hR hx2 hl H1
  go_wp2_with fail
  have hl := litAtN w4 [1, 3, 5, 6] 3 (by decide)
  refine (HS.out _ _ _ [1, 3, 5, 6] (hI2.ex (Ex.alloc _ _)) hl).mono ?_
  rintro e w5 ⟨rfl, hx2⟩
  replace hx := hx.trans ((Ex.alloc _ _).trans hx2)
  clear hx2 hl hI2
  have o0 := OwnB.new w5 [.int .i64 (-3)] 3
  have o1 := OwnB.new (w5.alloc (.cells #[.int .i64 (-3)] 3)) [.int .i64 1, .int .i64 (-1)] 3
  have o2 := OwnB.new ((w5.alloc (.cells #[.int .i64 (-3)] 3)).alloc (.cells #[.int .i64 1, .int .i64 (-1)] 3)) [.int .i64 7] 3
  have o3 := OwnB.new (((w5.alloc (.cells #[.int .i64 (-3)] 3)).alloc (.cells #[.int .i64 1, .int .i64 (-1)] 3)).alloc (.cells #[.int .i64 7] 3)) [.int .i64 0] 3
  have o4 := OwnB.new ((((w5.alloc (.cells #[.int .i64 (-3)] 3)).alloc (.cells #[.int .i64 1, .int .i64 (-1)] 3)).alloc (.cells #[.int .i64 7] 3)).alloc (.cells #[.int .i64 0] 3)) [.int .i64 (-9223372036854775808)] 3
  have o5 := OwnB.new (((((w5.alloc (.cells #[.int .i64 (-3)] 3)).alloc (.cells #[.int .i64 1, .int .i64 (-1)] 3)).alloc (.cells #[.int .i64 7] 3)).alloc (.cells #[.int .i64 0] 3)).alloc (.cells #[.int .i64 (-9223372036854775808)] 3)) [.slice (some ⟨w5.heap.size, 0, none⟩) 1 1, .slice (some ⟨w5.heap.size + 1, 0, none⟩) 2 2, .slice (some ⟨w5.heap.size + 1 + 1, 0, none⟩) 1 1, .slice (some ⟨w5.heap.size + 1 + 1 + 1, 0, none⟩) 1 1, .slice (some ⟨w5.heap.size + 1 + 1 + 1 + 1, 0, none⟩) 1 1] 25
  simp only [alloc_size] at o1 o2 o3 o4 o5
  replace o0 := o0.ex (Ex.alloc _ (.cells #[.int .i64 1, .int .i64 (-1)] 3))
  replace o0 := o0.ex (Ex.alloc _ (.cells #[.int .i64 7] 3))
  replace o0 := o0.ex (Ex.alloc _ (.cells #[.int .i64 0] 3))
  replace o0 := o0.ex (Ex.alloc _ (.cells #[.int .i64 (-9223372036854775808)] 3))
  replace o0 := o0.ex (Ex.alloc _ (.cells #[.slice (some ⟨w5.heap.size, 0, none⟩) 1 1, .slice (some ⟨w5.heap.size + 1, 0, none⟩) 2 2, .slice (some ⟨w5.heap.size + 1 + 1, 0, none⟩) 1 1, .slice (some ⟨w5.heap.size + 1 + 1 + 1, 0, none⟩) 1 1, .slice (some ⟨w5.heap.size + 1 + 1 + 1 + 1, 0, none⟩) 1 1] 25))
  replace o1 := o1.ex (Ex.alloc _ (.cells #[.int .i64 7] 3))
  replace o1 := o1.ex (Ex.alloc _ (.cells #[.int .i64 0] 3))
  replace o1 := o1.ex (Ex.alloc _ (.cells #[.int .i64 (-9223372036854775808)] 3))
  replace o1 := o1.ex (Ex.alloc _ (.cells #[.slice (some ⟨w5.heap.size, 0, none⟩) 1 1, .slice (some ⟨w5.heap.size + 1, 0, none⟩) 2 2, .slice (some ⟨w5.heap.size + 1 + 1, 0, none⟩) 1 1, .slice (some ⟨w5.heap.size + 1 + 1 + 1, 0, none⟩) 1 1, .slice (some ⟨w5.heap.size + 1 + 1 + 1 + 1, 0, none⟩) 1 1] 25))
  replace o2 := o2.ex (Ex.alloc _ (.cells #[.int .i64 0] 3))
  replace o2 := o2.ex (Ex.alloc _ (.cells #[.int .i64 (-9223372036854775808)] 3))
  replace o2 := o2.ex (Ex.alloc _ (.cells #[.slice (some ⟨w5.heap.size, 0, none⟩) 1 1, .slice (some ⟨w5.heap.size + 1, 0, none⟩) 2 2, .slice (some ⟨w5.heap.size + 1 + 1, 0, none⟩) 1 1, .slice (some ⟨w5.heap.size + 1 + 1 + 1, 0, none⟩) 1 1, .slice (some ⟨w5.heap.size + 1 + 1 + 1 + 1, 0, none⟩) 1 1] 25))
  replace o3 := o3.ex (Ex.alloc _ (.cells #[.int .i64 (-9223372036854775808)] 3))
  replace o3 := o3.ex (Ex.alloc _ (.cells #[.slice (some ⟨w5.heap.size, 0, none⟩) 1 1, .slice (some ⟨w5.heap.size + 1, 0, none⟩) 2 2, .slice (some ⟨w5.heap.size + 1 + 1, 0, none⟩) 1 1, .slice (some ⟨w5.heap.size + 1 + 1 + 1, 0, none⟩) 1 1, .slice (some ⟨w5.heap.size + 1 + 1 + 1 + 1, 0, none⟩) 1 1] 25))
  replace o4 := o4.ex (Ex.alloc _ (.cells #[.slice (some ⟨w5.heap.size, 0, none⟩) 1 1, .slice (some ⟨w5.heap.size + 1, 0, none⟩) 2 2, .slice (some ⟨w5.heap.size + 1 + 1, 0, none⟩) 1 1, .slice (some ⟨w5.heap.size + 1 + 1 + 1, 0, none⟩) 1 1, .slice (some ⟨w5.heap.size + 1 + 1 + 1 + 1, 0, none⟩) 1 1] 25))
  have ox : Ex w5 ((((((w5.alloc (.cells #[.int .i64 (-3)] 3)).alloc (.cells #[.int .i64 1, .int .i64 (-1)] 3)).alloc (.cells #[.int .i64 7] 3)).alloc (.cells #[.int .i64 0] 3)).alloc (.cells #[.int .i64 (-9223372036854775808)] 3)).alloc (.cells #[.slice (some ⟨w5.heap.size, 0, none⟩) 1 1, .slice (some ⟨w5.heap.size + 1, 0, none⟩) 2 2, .slice (some ⟨w5.heap.size + 1 + 1, 0, none⟩) 1 1, .slice (some ⟨w5.heap.size + 1 + 1 + 1, 0, none⟩) 1 1, .slice (some ⟨w5.heap.size + 1 + 1 + 1 + 1, 0, none⟩) 1 1] 25)) := Ex.refl w5 |>.alloc' (.cells #[.int .i64 (-3)] 3) |>.alloc' (.cells #[.int .i64 1, .int .i64 (-1)] 3) |>.alloc' (.cells #[.int .i64 7] 3) |>.alloc' (.cells #[.int .i64 0] 3) |>.alloc' (.cells #[.int .i64 (-9223372036854775808)] 3) |>.alloc' (.cells #[.slice (some ⟨w5.heap.size, 0, none⟩) 1 1, .slice (some ⟨w5.heap.size + 1, 0, none⟩) 2 2, .slice (some ⟨w5.heap.size + 1 + 1, 0, none⟩) 1 1, .slice (some ⟨w5.heap.size + 1 + 1 + 1, 0, none⟩) 1 1, .slice (some ⟨w5.heap.size + 1 + 1 + 1 + 1, 0, none⟩) 1 1] 25)
  have oR : RowsAt ((((((w5.alloc (.cells #[.int .i64 (-3)] 3)).alloc (.cells #[.int .i64 1, .int .i64 (-1)] 3)).alloc (.cells #[.int .i64 7] 3)).alloc (.cells #[.int .i64 0] 3)).alloc (.cells #[.int .i64 (-9223372036854775808)] 3)).alloc (.cells #[.slice (some ⟨w5.heap.size, 0, none⟩) 1 1, .slice (some ⟨w5.heap.size + 1, 0, none⟩) 2 2, .slice (some ⟨w5.heap.size + 1 + 1, 0, none⟩) 1 1, .slice (some ⟨w5.heap.size + 1 + 1 + 1, 0, none⟩) 1 1, .slice (some ⟨w5.heap.size + 1 + 1 + 1 + 1, 0, none⟩) 1 1] 25)) (.slice (some ⟨w5.heap.size + 1 + 1 + 1 + 1 + 1, 0, none⟩) 5 5) no15 := rowsAt_of (ll := no15) o5 rfl (by decide) (fun j hj => by
    have hj : j < 5 := hj
    rcases (show j = 0 ∨ j = 1 ∨ j = 2 ∨ j = 3 ∨ j = 4 by omega) with rfl | rfl | rfl | rfl | rfl
    · exact ⟨_, rfl, intsAt_of_block (l := [-3]) o0 (by decide)⟩
    · exact ⟨_, rfl, intsAt_of_block (l := [1, -1]) o1 (by decide)⟩
    · exact ⟨_, rfl, intsAt_of_block (l := [7]) o2 (by decide)⟩
    · exact ⟨_, rfl, intsAt_of_block (l := [0]) o3 (by decide)⟩
    · exact ⟨_, rfl, intsAt_of_block (l := [-9223372036854775808]) o4 (by decide)⟩)
  clear o0 o1 o2 o3 o4 o5
  have oH : Hid _ := oR
  clear oR
  go_wp2
  replace hx := hx.trans ox
  have hR5 := oH.out
  clear oH ox
  go_loopw [56] (fun i wr => ∃ k : Nat, k ≤ 5 ∧ i = .int .i64 k ∧ Ex w wr ∧ Hid (RowsAt wr (.slice (some ⟨w5.heap.size + 1 + 1 + 1 + 1 + 1, 0, none⟩) 5 5) no15)) (fun i _ => 5 - (intOf i).toNat)
  case atStart => exact ⟨0, Nat.zero_le _, rfl, hx, hR5⟩
  case round =>
    clear hR5 hx
    obtain ⟨k, hk, rfl, hx, hR5⟩ := hrel
    by_cases hlt : k < 5
    · obtain ⟨_, _, hv, _, _, h3⟩ := hR5.out
      cases hv
      obtain ⟨b, off, rv, hbe, hb, hcell, hrow⟩ := h3 k (by rw [no15_len]; exact hlt)
      clear h3
      cases hbe
      rw [Nat.zero_add] at hcell
      have HRow : Hid (IntsAt wr rv (no15.getD k [])) := hrow
      obtain ⟨ca, ccap, rfl, r1, r2, _⟩ := hrow
      generalize (no15.getD k []).length = cl at *
      go_wp2_with fail
      refine (chapter15_any _).mono ?_
      rintro e w6 ⟨lv3, rfl, hR, hx2⟩
      have HR6 : Hid _ := hR
      clear hR
      go_wp2_with fail
      refine (H2.out _ _ _ k hlt HR6.out (HRow.out.ex hx2)).mono ?_
      rintro e w7 ⟨v7, rfl, ho7, hx7⟩
      obtain ⟨p7, q7, rfl, _, _, _⟩ := ho7.ints
      have hR7 : Hid _ := hR5.out.ex (hx2.trans hx7)
      have hxx := (hx.trans hx2).trans hx7
      clear ho7 HR6 HRow hcell hR5 hx2 hx7
      have hl0 : ((([] : List Int).length : Nat) : Int) = 0 := rfl
      go_wp2
      go_roundw
      case rel => exact ⟨k + 1, by omega, by go_num, hxx, hR7⟩
      case measure => simp [intOf]; omega
    · obtain rfl : k = 5 := by omega
      clear hR5 H2
      have s0 := OwnB.new wr [.int .i64 1] 3
      have s1 := OwnB.new (wr.alloc (.cells #[.int .i64 1] 3)) [.int .i64 (-1)] 3
      have s2 := OwnB.new ((wr.alloc (.cells #[.int .i64 1] 3)).alloc (.cells #[.int .i64 (-1)] 3)) [.slice (some ⟨wr.heap.size, 0, none⟩) 1 1, .slice (some ⟨wr.heap.size + 1, 0, none⟩) 1 1] 25
      simp only [alloc_size] at s1 s2
      replace s0 := s0.ex (Ex.alloc _ (.cells #[.int .i64 (-1)] 3))
      replace s0 := s0.ex (Ex.alloc _ (.cells #[.slice (some ⟨wr.heap.size, 0, none⟩) 1 1, .slice (some ⟨wr.heap.size + 1, 0, none⟩) 1 1] 25))
      replace s1 := s1.ex (Ex.alloc _ (.cells #[.slice (some ⟨wr.heap.size, 0, none⟩) 1 1, .slice (some ⟨wr.heap.size + 1, 0, none⟩) 1 1] 25))
      have sx : Ex wr (((wr.alloc (.cells #[.int .i64 1] 3)).alloc (.cells #[.int .i64 (-1)] 3)).alloc (.cells #[.slice (some ⟨wr.heap.size, 0, none⟩) 1 1, .slice (some ⟨wr.heap.size + 1, 0, none⟩) 1 1] 25)) := Ex.refl wr |>.alloc' (.cells #[.int .i64 1] 3) |>.alloc' (.cells #[.int .i64 (-1)] 3) |>.alloc' (.cells #[.slice (some ⟨wr.heap.size, 0, none⟩) 1 1, .slice (some ⟨wr.heap.size + 1, 0, none⟩) 1 1] 25)
      have sR : RowsAt (((wr.alloc (.cells #[.int .i64 1] 3)).alloc (.cells #[.int .i64 (-1)] 3)).alloc (.cells #[.slice (some ⟨wr.heap.size, 0, none⟩) 1 1, .slice (some ⟨wr.heap.size + 1, 0, none⟩) 1 1] 25)) (.slice (some ⟨wr.heap.size + 1 + 1, 0, none⟩) 2 2) a15 := rowsAt_of (ll := a15) s2 rfl (by decide) (fun j hj => by
        have hj : j < 2 := hj
        rcases (show j = 0 ∨ j = 1 by omega) with rfl | rfl
        · exact ⟨_, rfl, intsAt_of_block (l := [1]) s0 (by decide)⟩
        · exact ⟨_, rfl, intsAt_of_block (l := [-1]) s1 (by decide)⟩)
      clear s0 s1 s2
      have sH : Hid _ := sR
      clear sR
      go_wp2_with fail
      refine (H3.out _ _ sH.out).mono ?_
      rintro e wa ⟨sv, rfl, so, sy⟩
      have sI := so.ints
      obtain ⟨sa, sc, rfl, _, _, _⟩ := sI
      have sI := so.ints
      have sX := sx
      have sY := sy
      replace hx := (hx.trans sx).trans sy
      clear so sx sy sH H3
      go_wp2_with fail
      refine (H4.out _).mono ?_
      rintro e wb ⟨gv, rfl, go, gy⟩
      obtain ⟨ga, gc, rfl, _, _, _⟩ := go.ints
      replace hx := hx.trans gy
      have m0 := OwnB.new wb [.int .i64 (-1), .int .i64 (-2)] 3
      have m1 := OwnB.new (wb.alloc (.cells #[.int .i64 (-1), .int .i64 (-2)] 3)) [.int .i64 1, .int .i64 2] 3
      have m2 := OwnB.new ((wb.alloc (.cells #[.int .i64 (-1), .int .i64 (-2)] 3)).alloc (.cells #[.int .i64 1, .int .i64 2] 3)) [.int .i64 2, .int .i64 3] 3
      have m3 := OwnB.new (((wb.alloc (.cells #[.int .i64 (-1), .int .i64 (-2)] 3)).alloc (.cells #[.int .i64 1, .int .i64 2] 3)).alloc (.cells #[.int .i64 2, .int .i64 3] 3)) [.int .i64 (-2), .int .i64 (-3)] 3
      have m4 := OwnB.new ((((wb.alloc (.cells #[.int .i64 (-1), .int .i64 (-2)] 3)).alloc (.cells #[.int .i64 1, .int .i64 2] 3)).alloc (.cells #[.int .i64 2, .int .i64 3] 3)).alloc (.cells #[.int .i64 (-2), .int .i64 (-3)] 3)) [.slice (some ⟨wb.heap.size, 0, none⟩) 2 2, .slice (some ⟨wb.heap.size + 1, 0, none⟩) 2 2, .slice (some ⟨wb.heap.size + 1 + 1, 0, none⟩) 2 2, .slice (some ⟨wb.heap.size + 1 + 1 + 1, 0, none⟩) 2 2] 25
      simp only [alloc_size] at m1 m2 m3 m4
      replace m0 := m0.ex (Ex.alloc _ (.cells #[.int .i64 1, .int .i64 2] 3))
      replace m0 := m0.ex (Ex.alloc _ (.cells #[.int .i64 2, .int .i64 3] 3))
      replace m0 := m0.ex (Ex.alloc _ (.cells #[.int .i64 (-2), .int .i64 (-3)] 3))
      replace m0 := m0.ex (Ex.alloc _ (.cells #[.slice (some ⟨wb.heap.size, 0, none⟩) 2 2, .slice (some ⟨wb.heap.size + 1, 0, none⟩) 2 2, .slice (some ⟨wb.heap.size + 1 + 1, 0, none⟩) 2 2, .slice (some ⟨wb.heap.size + 1 + 1 + 1, 0, none⟩) 2 2] 25))
      replace m1 := m1.ex (Ex.alloc _ (.cells #[.int .i64 2, .int .i64 3] 3))
      replace m1 := m1.ex (Ex.alloc _ (.cells #[.int .i64 (-2), .int .i64 (-3)] 3))
      replace m1 := m1.ex (Ex.alloc _ (.cells #[.slice (some ⟨wb.heap.size, 0, none⟩) 2 2, .slice (some ⟨wb.heap.size + 1, 0, none⟩) 2 2, .slice (some ⟨wb.heap.size + 1 + 1, 0, none⟩) 2 2, .slice (some ⟨wb.heap.size + 1 + 1 + 1, 0, none⟩) 2 2] 25))
      replace m2 := m2.ex (Ex.alloc _ (.cells #[.int .i64 (-2), .int .i64 (-3)] 3))
      replace m2 := m2.ex (Ex.alloc _ (.cells #[.slice (some ⟨wb.heap.size, 0, none⟩) 2 2, .slice (some ⟨wb.heap.size + 1, 0, none⟩) 2 2, .slice (some ⟨wb.heap.size + 1 + 1, 0, none⟩) 2 2, .slice (some ⟨wb.heap.size + 1 + 1 + 1, 0, none⟩) 2 2] 25))
      replace m3 := m3.ex (Ex.alloc _ (.cells #[.slice (some ⟨wb.heap.size, 0, none⟩) 2 2, .slice (some ⟨wb.heap.size + 1, 0, none⟩) 2 2, .slice (some ⟨wb.heap.size + 1 + 1, 0, none⟩) 2 2, .slice (some ⟨wb.heap.size + 1 + 1 + 1, 0, none⟩) 2 2] 25))
      have mx : Ex wb (((((wb.alloc (.cells #[.int .i64 (-1), .int .i64 (-2)] 3)).alloc (.cells #[.int .i64 1, .int .i64 2] 3)).alloc (.cells #[.int .i64 2, .int .i64 3] 3)).alloc (.cells #[.int .i64 (-2), .int .i64 (-3)] 3)).alloc (.cells #[.slice (some ⟨wb.heap.size, 0, none⟩) 2 2, .slice (some ⟨wb.heap.size + 1, 0, none⟩) 2 2, .slice (some ⟨wb.heap.size + 1 + 1, 0, none⟩) 2 2, .slice (some ⟨wb.heap.size + 1 + 1 + 1, 0, none⟩) 2 2] 25)) := Ex.refl wb |>.alloc' (.cells #[.int .i64 (-1), .int .i64 (-2)] 3) |>.alloc' (.cells #[.int .i64 1, .int .i64 2] 3) |>.alloc' (.cells #[.int .i64 2, .int .i64 3] 3) |>.alloc' (.cells #[.int .i64 (-2), .int .i64 (-3)] 3) |>.alloc' (.cells #[.slice (some ⟨wb.heap.size, 0, none⟩) 2 2, .slice (some ⟨wb.heap.size + 1, 0, none⟩) 2 2, .slice (some ⟨wb.heap.size + 1 + 1, 0, none⟩) 2 2, .slice (some ⟨wb.heap.size + 1 + 1 + 1, 0, none⟩) 2 2] 25)
      have mR : RowsAt (((((wb.alloc (.cells #[.int .i64 (-1), .int .i64 (-2)] 3)).alloc (.cells #[.int .i64 1, .int .i64 2] 3)).alloc (.cells #[.int .i64 2, .int .i64 3] 3)).alloc (.cells #[.int .i64 (-2), .int .i64 (-3)] 3)).alloc (.cells #[.slice (some ⟨wb.heap.size, 0, none⟩) 2 2, .slice (some ⟨wb.heap.size + 1, 0, none⟩) 2 2, .slice (some ⟨wb.heap.size + 1 + 1, 0, none⟩) 2 2, .slice (some ⟨wb.heap.size + 1 + 1 + 1, 0, none⟩) 2 2] 25)) (.slice (some ⟨wb.heap.size + 1 + 1 + 1 + 1, 0, none⟩) 4 4) b15 := rowsAt_of (ll := b15) m4 rfl (by decide) (fun j hj => by
        have hj : j < 4 := hj
        rcases (show j = 0 ∨ j = 1 ∨ j = 2 ∨ j = 3 by omega) with rfl | rfl | rfl | rfl
        · exact ⟨_, rfl, intsAt_of_block (l := [-1, -2]) m0 (by decide)⟩
        · exact ⟨_, rfl, intsAt_of_block (l := [1, 2]) m1 (by decide)⟩
        · exact ⟨_, rfl, intsAt_of_block (l := [2, 3]) m2 (by decide)⟩
        · exact ⟨_, rfl, intsAt_of_block (l := [-2, -3]) m3 (by decide)⟩)
      clear m0 m1 m2 m3 m4
      have mH : Hid _ := mR
      clear mR
      go_wp2_with fail
      refine (H5.out _ _ mH.out).mono ?_
      rintro e wc ⟨mv, rfl, mo, my⟩
      have mI := mo.ints
      obtain ⟨ma, mc, rfl, _, _, _⟩ := mI
      have mI := mo.ints
      have mX := mx
      have mY := my
      replace hx := (hx.trans mx).trans my
      clear mo mx my mH H5
      go_wp2_with fail
      refine (H6.out _).mono ?_
      rintro e wd ⟨rv, rfl, ro, ry⟩
      obtain ⟨ra, rc, rfl, _, _, _⟩ := ro.ints
      replace hx := hx.trans ry
      replace mI := mI.ex ry
      have n0 := OwnB.new wd [.int .i64 2] 3
      have n1 := OwnB.new (wd.alloc (.cells #[.int .i64 2] 3)) [.slice (some ⟨wd.heap.size, 0, none⟩) 1 1] 25
      simp only [alloc_size] at n1
      replace n0 := n0.ex (Ex.alloc _ (.cells #[.slice (some ⟨wd.heap.size, 0, none⟩) 1 1] 25))
      have nx : Ex wd ((wd.alloc (.cells #[.int .i64 2] 3)).alloc (.cells #[.slice (some ⟨wd.heap.size, 0, none⟩) 1 1] 25)) := Ex.refl wd |>.alloc' (.cells #[.int .i64 2] 3) |>.alloc' (.cells #[.slice (some ⟨wd.heap.size, 0, none⟩) 1 1] 25)
      have nR : RowsAt ((wd.alloc (.cells #[.int .i64 2] 3)).alloc (.cells #[.slice (some ⟨wd.heap.size, 0, none⟩) 1 1] 25)) (.slice (some ⟨wd.heap.size + 1, 0, none⟩) 1 1) c15 := rowsAt_of (ll := c15) n1 rfl (by decide) (fun j hj => by
        have hj : j < 1 := hj
        obtain rfl : j = 0 := by omega
        exact ⟨_, rfl, intsAt_of_block (l := [2]) n0 (by decide)⟩)
      clear n0 n1
      have nH : Hid _ := nR
      clear nR
      go_wp2_with fail
      refine (H7.out _ _ nH.out).mono ?_
      rintro e we ⟨nv, rfl, no, ny⟩
      have nI := no.ints
      obtain ⟨na, nc, rfl, _, _, _⟩ := nI
      have nI := no.ints
      have nX := nx
      have nY := ny
      replace hx := (hx.trans nx).trans ny
      clear no nx ny nH H7
      replace mI := (mI.ex nX).ex nY
      go_wp2_with fail
      have hl := litAtN we [1, -1, 1] 3 (by decide)
      refine (HS.out _ _ _ [1, -1, 1] (mI.ex (Ex.alloc _ _)) hl).mono ?_
      rintro e wf ⟨rfl, hxf⟩
      replace hx := hx.trans ((Ex.alloc _ _).trans hxf)
      clear hl hxf mI
      go_wp2_with (refine (works15_any _).mono ?_; rintro e w' ⟨rfl, hxw⟩)
      go_ret
      exact ⟨rfl, hx.trans hxw⟩
end Go.Proofs.Ytnhlfhoeglnajaa
