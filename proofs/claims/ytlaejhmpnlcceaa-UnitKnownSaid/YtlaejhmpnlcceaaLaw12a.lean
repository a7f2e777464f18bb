/- Chapter 12: the chapter's theory, its examples (works). No condition. -/
import Derived.Test.YtlaejhmpnlcceaaLaw12h
namespace Go.Proofs.Ytlaejhmpnlcceaa
set_option linter.unusedSimpArgs false
set_option linter.unusedVariables false
open Go.RowKit
theorem rowsAt_of {w : World} {g : Nat} {t : TypeId} {cs : List Value} {ll : List (List Int)} (h : OwnB w g cs t) (hl : cs.length = ll.length) (hm : ll.length ≤ maxLen)
    (hr : ∀ k, k < ll.length → ∃ rv, cs[k]? = some rv ∧ IntsAt w rv (ll.getD k [])) : RowsAt w (.slice (some ⟨g, 0, none⟩) ll.length ll.length) ll :=
  ⟨_, _, rfl, Nat.le_refl _, hm, fun k hk => by
    obtain ⟨rv, h1, h2⟩ := hr k hk
    exact ⟨g, 0, rv, rfl, h.lt, by rw [Nat.zero_add, h.cell]; exact h1, h2⟩⟩
theorem stepsAt_of_block {w : World} {g : Nat} {t : TypeId} {tr : List St} (h : OwnB w g (stepsV tr) t) (hm : tr.length ≤ maxLen) : StepsAt w (.slice (some ⟨g, 0, none⟩) tr.length tr.length) tr :=
  ⟨_, _, rfl, Nat.le_refl _, hm, fun k hk => ⟨g, 0, rfl, h.lt, by rw [Nat.zero_add, h.cell]; exact (stepsV_get tr k hk).1, by rw [Nat.zero_add, h.cell]; exact (stepsV_get tr k hk).2.1, by rw [Nat.zero_add, h.cell]; exact (stepsV_get tr k hk).2.2⟩⟩
theorem stepsAt0 (w : World) (tr : List St) (t : TypeId) (hm : tr.length ≤ maxLen) : StepsAt (w.alloc (.cells (stepsV tr).toArray t)) (.slice (some ⟨w.heap.size, 0, none⟩) tr.length tr.length) tr := stepsAt_of_block (OwnB.new w (stepsV tr) t) hm
abbrev ex12 : List (List Int) := [[-1, 2], [-2, 3], [-3, -1, 4], [-4, -2]]
set_option maxHeartbeats 2000000 in
theorem chapter12_any (w : World) : Calls Try.prog 26 #[] w fun e w' => ∃ lv, e = .returned (.agg #[.int .i64 4, lv]) ∧ RowsAt w' lv ex12 ∧ Ex w w' := by
  have o0 := OwnB.new w [.int .i64 4, .slice (some ⟨w.heap.size + 1 + 1 + 1 + 1 + 1, 0, none⟩) 4 4] 24
  have o1 := OwnB.new (w.alloc (.cells #[.int .i64 4, .slice (some ⟨w.heap.size + 1 + 1 + 1 + 1 + 1, 0, none⟩) 4 4] 24)) [.int .i64 (-1), .int .i64 2] 3
  have o2 := OwnB.new ((w.alloc (.cells #[.int .i64 4, .slice (some ⟨w.heap.size + 1 + 1 + 1 + 1 + 1, 0, none⟩) 4 4] 24)).alloc (.cells #[.int .i64 (-1), .int .i64 2] 3)) [.int .i64 (-2), .int .i64 3] 3
  have o3 := OwnB.new (((w.alloc (.cells #[.int .i64 4, .slice (some ⟨w.heap.size + 1 + 1 + 1 + 1 + 1, 0, none⟩) 4 4] 24)).alloc (.cells #[.int .i64 (-1), .int .i64 2] 3)).alloc (.cells #[.int .i64 (-2), .int .i64 3] 3)) [.int .i64 (-3), .int .i64 (-1), .int .i64 4] 3
  have o4 := OwnB.new ((((w.alloc (.cells #[.int .i64 4, .slice (some ⟨w.heap.size + 1 + 1 + 1 + 1 + 1, 0, none⟩) 4 4] 24)).alloc (.cells #[.int .i64 (-1), .int .i64 2] 3)).alloc (.cells #[.int .i64 (-2), .int .i64 3] 3)).alloc (.cells #[.int .i64 (-3), .int .i64 (-1), .int .i64 4] 3)) [.int .i64 (-4), .int .i64 (-2)] 3
  have o5 := OwnB.new (((((w.alloc (.cells #[.int .i64 4, .slice (some ⟨w.heap.size + 1 + 1 + 1 + 1 + 1, 0, none⟩) 4 4] 24)).alloc (.cells #[.int .i64 (-1), .int .i64 2] 3)).alloc (.cells #[.int .i64 (-2), .int .i64 3] 3)).alloc (.cells #[.int .i64 (-3), .int .i64 (-1), .int .i64 4] 3)).alloc (.cells #[.int .i64 (-4), .int .i64 (-2)] 3)) [.slice (some ⟨w.heap.size + 1, 0, none⟩) 2 2, .slice (some ⟨w.heap.size + 1 + 1, 0, none⟩) 2 2, .slice (some ⟨w.heap.size + 1 + 1 + 1, 0, none⟩) 3 3, .slice (some ⟨w.heap.size + 1 + 1 + 1 + 1, 0, none⟩) 2 2] 25
  simp only [alloc_size] at o1 o2 o3 o4 o5
  replace o0 := o0.ex (Ex.alloc _ (.cells #[.int .i64 (-1), .int .i64 2] 3))
  replace o0 := o0.ex (Ex.alloc _ (.cells #[.int .i64 (-2), .int .i64 3] 3))
  replace o0 := o0.ex (Ex.alloc _ (.cells #[.int .i64 (-3), .int .i64 (-1), .int .i64 4] 3))
  replace o0 := o0.ex (Ex.alloc _ (.cells #[.int .i64 (-4), .int .i64 (-2)] 3))
  replace o0 := o0.ex (Ex.alloc _ (.cells #[.slice (some ⟨w.heap.size + 1, 0, none⟩) 2 2, .slice (some ⟨w.heap.size + 1 + 1, 0, none⟩) 2 2, .slice (some ⟨w.heap.size + 1 + 1 + 1, 0, none⟩) 3 3, .slice (some ⟨w.heap.size + 1 + 1 + 1 + 1, 0, none⟩) 2 2] 25))
  replace o1 := o1.ex (Ex.alloc _ (.cells #[.int .i64 (-2), .int .i64 3] 3))
  replace o1 := o1.ex (Ex.alloc _ (.cells #[.int .i64 (-3), .int .i64 (-1), .int .i64 4] 3))
  replace o1 := o1.ex (Ex.alloc _ (.cells #[.int .i64 (-4), .int .i64 (-2)] 3))
  replace o1 := o1.ex (Ex.alloc _ (.cells #[.slice (some ⟨w.heap.size + 1, 0, none⟩) 2 2, .slice (some ⟨w.heap.size + 1 + 1, 0, none⟩) 2 2, .slice (some ⟨w.heap.size + 1 + 1 + 1, 0, none⟩) 3 3, .slice (some ⟨w.heap.size + 1 + 1 + 1 + 1, 0, none⟩) 2 2] 25))
  replace o2 := o2.ex (Ex.alloc _ (.cells #[.int .i64 (-3), .int .i64 (-1), .int .i64 4] 3))
  replace o2 := o2.ex (Ex.alloc _ (.cells #[.int .i64 (-4), .int .i64 (-2)] 3))
  replace o2 := o2.ex (Ex.alloc _ (.cells #[.slice (some ⟨w.heap.size + 1, 0, none⟩) 2 2, .slice (some ⟨w.heap.size + 1 + 1, 0, none⟩) 2 2, .slice (some ⟨w.heap.size + 1 + 1 + 1, 0, none⟩) 3 3, .slice (some ⟨w.heap.size + 1 + 1 + 1 + 1, 0, none⟩) 2 2] 25))
  replace o3 := o3.ex (Ex.alloc _ (.cells #[.int .i64 (-4), .int .i64 (-2)] 3))
  replace o3 := o3.ex (Ex.alloc _ (.cells #[.slice (some ⟨w.heap.size + 1, 0, none⟩) 2 2, .slice (some ⟨w.heap.size + 1 + 1, 0, none⟩) 2 2, .slice (some ⟨w.heap.size + 1 + 1 + 1, 0, none⟩) 3 3, .slice (some ⟨w.heap.size + 1 + 1 + 1 + 1, 0, none⟩) 2 2] 25))
  replace o4 := o4.ex (Ex.alloc _ (.cells #[.slice (some ⟨w.heap.size + 1, 0, none⟩) 2 2, .slice (some ⟨w.heap.size + 1 + 1, 0, none⟩) 2 2, .slice (some ⟨w.heap.size + 1 + 1 + 1, 0, none⟩) 3 3, .slice (some ⟨w.heap.size + 1 + 1 + 1 + 1, 0, none⟩) 2 2] 25))
  have hx : Ex w ((((((w.alloc (.cells #[.int .i64 4, .slice (some ⟨w.heap.size + 1 + 1 + 1 + 1 + 1, 0, none⟩) 4 4] 24)).alloc (.cells #[.int .i64 (-1), .int .i64 2] 3)).alloc (.cells #[.int .i64 (-2), .int .i64 3] 3)).alloc (.cells #[.int .i64 (-3), .int .i64 (-1), .int .i64 4] 3)).alloc (.cells #[.int .i64 (-4), .int .i64 (-2)] 3)).alloc (.cells #[.slice (some ⟨w.heap.size + 1, 0, none⟩) 2 2, .slice (some ⟨w.heap.size + 1 + 1, 0, none⟩) 2 2, .slice (some ⟨w.heap.size + 1 + 1 + 1, 0, none⟩) 3 3, .slice (some ⟨w.heap.size + 1 + 1 + 1 + 1, 0, none⟩) 2 2] 25)) := Ex.refl w |>.alloc' _ |>.alloc' _ |>.alloc' _ |>.alloc' _ |>.alloc' _ |>.alloc' _
  have HR : RowsAt ((((((w.alloc (.cells #[.int .i64 4, .slice (some ⟨w.heap.size + 1 + 1 + 1 + 1 + 1, 0, none⟩) 4 4] 24)).alloc (.cells #[.int .i64 (-1), .int .i64 2] 3)).alloc (.cells #[.int .i64 (-2), .int .i64 3] 3)).alloc (.cells #[.int .i64 (-3), .int .i64 (-1), .int .i64 4] 3)).alloc (.cells #[.int .i64 (-4), .int .i64 (-2)] 3)).alloc (.cells #[.slice (some ⟨w.heap.size + 1, 0, none⟩) 2 2, .slice (some ⟨w.heap.size + 1 + 1, 0, none⟩) 2 2, .slice (some ⟨w.heap.size + 1 + 1 + 1, 0, none⟩) 3 3, .slice (some ⟨w.heap.size + 1 + 1 + 1 + 1, 0, none⟩) 2 2] 25)) (.slice (some ⟨w.heap.size + 1 + 1 + 1 + 1 + 1, 0, none⟩) 4 4) ex12 := rowsAt_of (ll := ex12) o5 rfl (by decide) (fun j hj => by
    have hj : j < 4 := hj
    rcases (show j = 0 ∨ j = 1 ∨ j = 2 ∨ j = 3 by omega) with rfl | rfl | rfl | rfl
    · exact ⟨_, rfl, intsAt_of_block (l := [-1, 2]) o1 (by decide)⟩
    · exact ⟨_, rfl, intsAt_of_block (l := [-2, 3]) o2 (by decide)⟩
    · exact ⟨_, rfl, intsAt_of_block (l := [-3, -1, 4]) o3 (by decide)⟩
    · exact ⟨_, rfl, intsAt_of_block (l := [-4, -2]) o4 (by decide)⟩)
  have c0 := o0.cell 0
  have c1 := o0.cell 1
  clear o0 o1 o2 o3 o4 o5
  go_enter Try.func26, Try.ntmps26
  go_wp2_with fail
  refine bodyPost_ret (v := .agg #[.int .i64 4, .slice (some ⟨w.heap.size + 1 + 1 + 1 + 1 + 1, 0, none⟩) 4 4]) (by simp [results, Try.results26, go_sem, c0, c1]) rfl ⟨_, rfl, HR, hx⟩
abbrev tr12 : List St := [⟨1, -1, 1⟩, ⟨2, 0, 1⟩, ⟨3, 1, 1⟩, ⟨4, 2, 1⟩]
set_option maxRecDepth 20000 in
set_option maxHeartbeats 4000000 in
theorem works12_any (w : World) : Calls Try.prog 11 #[] w fun e w' => e = .returned (.bool true) ∧ Ex w w' := by
  have H1 : Hid (∀ (wa : World) (lv v : Value), RowsAt wa lv ex12 → IntsAt wa v [1] → Calls Try.prog 12 #[.agg #[.int .i64 4, lv], v] wa (TrailRet 50 wa tr12 3 0)) := fun wa lv v hR h => by
    have := unitTrail_any 4 lv v ex12 [1] wa hR h
    rwa [show trailL 4 ex12 [1] = tr12 by decide +kernel, show trailC 4 ex12 [1] = 3 by decide +kernel, show trailE 4 ex12 [1] = 0 by decide +kernel] at this
  have H2 : Hid (∀ (wa : World) (lv v : Value), RowsAt wa lv ex12 → IntsAt wa v [-2, 4] → Calls Try.prog 12 #[.agg #[.int .i64 4, lv], v] wa (TrailRet 50 wa [⟨-2, -1, 1⟩, ⟨-1, 0, 1⟩, ⟨4, -1, 2⟩] (-1) 0)) := fun wa lv v hR h => by
    have := unitTrail_any 4 lv v ex12 [-2, 4] wa hR h
    rwa [show trailL 4 ex12 [-2, 4] = [⟨-2, -1, 1⟩, ⟨-1, 0, 1⟩, ⟨4, -1, 2⟩] by decide +kernel, show trailC 4 ex12 [-2, 4] = -1 by decide +kernel, show trailE 4 ex12 [-2, 4] = 0 by decide +kernel] at this
  have H3 : Hid (∀ (wa : World) (lv v : Value), RowsAt wa lv ex12 → IntsAt wa v [-2, 4] → Calls Try.prog 16 #[.agg #[.int .i64 4, lv], v] wa (TermRet wa [-1, -2, 4] true)) := fun wa lv v hR h => by
    have := unitClosure_any 4 lv v ex12 [-2, 4] wa hR h
    rwa [show closL 4 ex12 [-2, 4] = [-1, -2, 4] by decide +kernel, show closB 4 ex12 [-2, 4] = true by decide +kernel] at this
  have H4 : Hid (∀ (wa : World) (u v : Value), StepsAt wa u tr12 → StepsAt wa v tr12 → Calls Try.prog 14 #[u, v] wa fun e w' => e = .returned (.bool true) ∧ Ex wa w') := fun wa u v h k => by
    have := r12Same_any u v tr12 tr12 wa h k
    rwa [decide_eq_true rfl] at this
  have H5 : Hid (∀ (wa : World) (u v : Value), IntsAt wa u [-1, -2, 4] → IntsAt wa v [-1, -2, 4] → Calls Try.prog 18 #[u, v] wa fun e w' => e = .returned (.bool true) ∧ Ex wa w') := fun wa u v h k => by
    have := r04Same_any u v _ _ wa h k
    rwa [decide_eq_true rfl] at this
  have H6 : Hid (∀ (wa : World) (u : Value), StepsAt wa u tr12 → Calls Try.prog 15 #[u] wa (GivenRet wa tr12)) := fun wa u h => given12_any u tr12 wa h (by decide)
  go_enter Try.func11, Try.ntmps11
  go_wp2_with fail
  refine (chapter12_any _).mono ?_
  rintro e w1 ⟨lv, rfl, hR, hx⟩
  go_wp2_with fail
  have hl := litAt0 w1 [1] 3 (by decide)
  refine (H1.out _ _ _ (hR.ex (Ex.alloc _ _)) hl).mono ?_
  rintro e w2 ⟨v1, rfl, ho, hx2⟩
  have hT1 := ho.steps
  obtain ⟨p1, q1, rfl, _, _, _⟩ := hT1
  have hT1 := ho.steps
  replace hx := hx.trans ((Ex.alloc _ _).trans hx2)
  clear ho hl hR hx2 H1
  go_wp2_with fail
  refine (chapter12_any _).mono ?_
  rintro e w3 ⟨lv2, rfl, hR, hx2⟩
  replace hT1 := hT1.ex hx2
  replace hx := hx.trans hx2
  clear hx2
  go_wp2_with fail
  have hl := litAt0 w3 [-2, 4] 3 (by decide)
  refine (H2.out _ _ _ (hR.ex (Ex.alloc _ _)) hl).mono ?_
  rintro e w4 ⟨v2, rfl, ho, hx2⟩
  obtain ⟨p2, q2, rfl, _, _, _⟩ := ho.steps
  replace hx2 := (Ex.alloc _ _).trans hx2
  replace hT1 := hT1.ex hx2
  replace hx := hx.trans hx2
  clear ho hl hR hx2 H2
  go_wp2_with fail
  refine (chapter12_any _).mono ?_
  rintro e w5 ⟨lv3, rfl, hR, hx2⟩
  replace hT1 := hT1.ex hx2
  replace hx := hx.trans hx2
  clear hx2
  go_wp2_with fail
  have hl := litAt0 w5 [-2, 4] 3 (by decide)
  refine (H3.out _ _ _ (hR.ex (Ex.alloc _ _)) hl).mono ?_
  rintro e w6 ⟨v3, rfl, ho, hx2⟩
  have hI3 := ho.ints
  obtain ⟨p3, q3, rfl, _, _, _⟩ := hI3
  have hI3 := ho.ints
  replace hx2 := (Ex.alloc _ _).trans hx2
  replace hT1 := hT1.ex hx2
  replace hx := hx.trans hx2
  clear ho hl hR hx2 H3
  go_wp2_with fail
  refine (H6.out _ _ hT1).mono ?_
  rintro e w7 ⟨v7, rfl, ho, hx2⟩
  have hT7 := ho.steps
  obtain ⟨p7, q7, rfl, _, _, _⟩ := hT7
  have hT7 := ho.steps
  replace hI3 := hI3.ex hx2
  replace hx := hx.trans hx2
  clear ho hx2 hT1 H6
  go_wp2_with fail
  have hl := stepsAt0 w7 tr12 42 (by decide)
  refine (H4.out _ _ _ (hT7.ex (Ex.alloc _ _)) hl).mono ?_
  rintro e w8 ⟨rfl, hx2⟩
  replace hx2 := (Ex.alloc _ _).trans hx2
  replace hI3 := hI3.ex hx2
  replace hx := hx.trans hx2
  clear hl hx2 hT7 H4
  go_wp2_with fail
  have hl := litAt0 w8 [-1, -2, 4] 3 (by decide)
  refine (H5.out _ _ _ (hI3.ex (Ex.alloc _ _)) hl).mono ?_
  rintro e w9 ⟨rfl, hx2⟩
  replace hx := hx.trans ((Ex.alloc _ _).trans hx2)
  go_wp2
  go_ret
  exact ⟨rfl, hx⟩
end Go.Proofs.Ytlaejhmpnlcceaa
