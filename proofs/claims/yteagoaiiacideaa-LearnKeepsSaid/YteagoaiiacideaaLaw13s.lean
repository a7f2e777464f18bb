/- Chapter 13: the theory and the trail of the examples (sample). No condition. -/
import Derived.Test.YteagoaiiacideaaStp
import Derived.Test.YteagoaiiacideaaLight05
namespace Go.Proofs.Yteagoaiiacideaa
set_option linter.unusedSimpArgs false
set_option linter.unusedVariables false
open Go.RowKit
set_option maxRecDepth 20000
theorem stepsAt_of_block {w : World} {g : Nat} {t : TypeId} {tr : List St} (h : OwnB w g (stepsV tr) t) (hm : tr.length ≤ maxLen) : StepsAt w (.slice (some ⟨g, 0, none⟩) tr.length tr.length) tr :=
  ⟨_, _, rfl, Nat.le_refl _, hm, fun k hk => ⟨g, 0, rfl, h.lt, by rw [Nat.zero_add, h.cell]; exact (stepsV_get tr k hk).1, by rw [Nat.zero_add, h.cell]; exact (stepsV_get tr k hk).2.1, by rw [Nat.zero_add, h.cell]; exact (stepsV_get tr k hk).2.2⟩⟩
abbrev ex13 : List (List Int) := [[-1, 2], [-2, 3], [-3, -1, 4], [-4, -2]]
abbrev tr13 : List St := [⟨1, -1, 1⟩, ⟨2, 0, 1⟩, ⟨3, 1, 1⟩, ⟨4, 2, 1⟩]
set_option maxHeartbeats 2000000 in
theorem sample13_any (w : World) : Calls Try.prog 27 #[] w fun e w' => ∃ lv sv, e = .returned (.tuple #[.agg #[.int .i64 4, lv], sv]) ∧ RowsAt w' lv ex13 ∧ StepsAt w' sv tr13 ∧ Ex w w' := by
  have o0 := OwnB.new w [.int .i64 4, .slice (some ⟨w.heap.size + 1 + 1 + 1 + 1 + 1, 0, none⟩) 4 4] 24
  have o1 := OwnB.new (w.alloc (.cells #[.int .i64 4, .slice (some ⟨w.heap.size + 1 + 1 + 1 + 1 + 1, 0, none⟩) 4 4] 24)) [.int .i64 (-1), .int .i64 2] 3
  have o2 := OwnB.new ((w.alloc (.cells #[.int .i64 4, .slice (some ⟨w.heap.size + 1 + 1 + 1 + 1 + 1, 0, none⟩) 4 4] 24)).alloc (.cells #[.int .i64 (-1), .int .i64 2] 3)) [.int .i64 (-2), .int .i64 3] 3
  have o3 := OwnB.new (((w.alloc (.cells #[.int .i64 4, .slice (some ⟨w.heap.size + 1 + 1 + 1 + 1 + 1, 0, none⟩) 4 4] 24)).alloc (.cells #[.int .i64 (-1), .int .i64 2] 3)).alloc (.cells #[.int .i64 (-2), .int .i64 3] 3)) [.int .i64 (-3), .int .i64 (-1), .int .i64 4] 3
  have o4 := OwnB.new ((((w.alloc (.cells #[.int .i64 4, .slice (some ⟨w.heap.size + 1 + 1 + 1 + 1 + 1, 0, none⟩) 4 4] 24)).alloc (.cells #[.int .i64 (-1), .int .i64 2] 3)).alloc (.cells #[.int .i64 (-2), .int .i64 3] 3)).alloc (.cells #[.int .i64 (-3), .int .i64 (-1), .int .i64 4] 3)) [.int .i64 (-4), .int .i64 (-2)] 3
  have o5 := OwnB.new (((((w.alloc (.cells #[.int .i64 4, .slice (some ⟨w.heap.size + 1 + 1 + 1 + 1 + 1, 0, none⟩) 4 4] 24)).alloc (.cells #[.int .i64 (-1), .int .i64 2] 3)).alloc (.cells #[.int .i64 (-2), .int .i64 3] 3)).alloc (.cells #[.int .i64 (-3), .int .i64 (-1), .int .i64 4] 3)).alloc (.cells #[.int .i64 (-4), .int .i64 (-2)] 3)) [.slice (some ⟨w.heap.size + 1, 0, none⟩) 2 2, .slice (some ⟨w.heap.size + 1 + 1, 0, none⟩) 2 2, .slice (some ⟨w.heap.size + 1 + 1 + 1, 0, none⟩) 3 3, .slice (some ⟨w.heap.size + 1 + 1 + 1 + 1, 0, none⟩) 2 2] 26
  have o6 := OwnB.new ((((((w.alloc (.cells #[.int .i64 4, .slice (some ⟨w.heap.size + 1 + 1 + 1 + 1 + 1, 0, none⟩) 4 4] 24)).alloc (.cells #[.int .i64 (-1), .int .i64 2] 3)).alloc (.cells #[.int .i64 (-2), .int .i64 3] 3)).alloc (.cells #[.int .i64 (-3), .int .i64 (-1), .int .i64 4] 3)).alloc (.cells #[.int .i64 (-4), .int .i64 (-2)] 3)).alloc (.cells #[.slice (some ⟨w.heap.size + 1, 0, none⟩) 2 2, .slice (some ⟨w.heap.size + 1 + 1, 0, none⟩) 2 2, .slice (some ⟨w.heap.size + 1 + 1 + 1, 0, none⟩) 3 3, .slice (some ⟨w.heap.size + 1 + 1 + 1 + 1, 0, none⟩) 2 2] 26)) [.int .i64 1, .int .i64 (-1), .int .i64 1, .int .i64 2, .int .i64 0, .int .i64 1, .int .i64 3, .int .i64 1, .int .i64 1, .int .i64 4, .int .i64 2, .int .i64 1] 55
  simp only [alloc_size] at o1 o2 o3 o4 o5 o6
  replace o0 := o0.ex (Ex.alloc _ (.cells #[.int .i64 (-1), .int .i64 2] 3))
  replace o0 := o0.ex (Ex.alloc _ (.cells #[.int .i64 (-2), .int .i64 3] 3))
  replace o0 := o0.ex (Ex.alloc _ (.cells #[.int .i64 (-3), .int .i64 (-1), .int .i64 4] 3))
  replace o0 := o0.ex (Ex.alloc _ (.cells #[.int .i64 (-4), .int .i64 (-2)] 3))
  replace o0 := o0.ex (Ex.alloc _ (.cells #[.slice (some ⟨w.heap.size + 1, 0, none⟩) 2 2, .slice (some ⟨w.heap.size + 1 + 1, 0, none⟩) 2 2, .slice (some ⟨w.heap.size + 1 + 1 + 1, 0, none⟩) 3 3, .slice (some ⟨w.heap.size + 1 + 1 + 1 + 1, 0, none⟩) 2 2] 26))
  replace o0 := o0.ex (Ex.alloc _ (.cells #[.int .i64 1, .int .i64 (-1), .int .i64 1, .int .i64 2, .int .i64 0, .int .i64 1, .int .i64 3, .int .i64 1, .int .i64 1, .int .i64 4, .int .i64 2, .int .i64 1] 55))
  replace o1 := o1.ex (Ex.alloc _ (.cells #[.int .i64 (-2), .int .i64 3] 3))
  replace o1 := o1.ex (Ex.alloc _ (.cells #[.int .i64 (-3), .int .i64 (-1), .int .i64 4] 3))
  replace o1 := o1.ex (Ex.alloc _ (.cells #[.int .i64 (-4), .int .i64 (-2)] 3))
  replace o1 := o1.ex (Ex.alloc _ (.cells #[.slice (some ⟨w.heap.size + 1, 0, none⟩) 2 2, .slice (some ⟨w.heap.size + 1 + 1, 0, none⟩) 2 2, .slice (some ⟨w.heap.size + 1 + 1 + 1, 0, none⟩) 3 3, .slice (some ⟨w.heap.size + 1 + 1 + 1 + 1, 0, none⟩) 2 2] 26))
  replace o1 := o1.ex (Ex.alloc _ (.cells #[.int .i64 1, .int .i64 (-1), .int .i64 1, .int .i64 2, .int .i64 0, .int .i64 1, .int .i64 3, .int .i64 1, .int .i64 1, .int .i64 4, .int .i64 2, .int .i64 1] 55))
  replace o2 := o2.ex (Ex.alloc _ (.cells #[.int .i64 (-3), .int .i64 (-1), .int .i64 4] 3))
  replace o2 := o2.ex (Ex.alloc _ (.cells #[.int .i64 (-4), .int .i64 (-2)] 3))
  replace o2 := o2.ex (Ex.alloc _ (.cells #[.slice (some ⟨w.heap.size + 1, 0, none⟩) 2 2, .slice (some ⟨w.heap.size + 1 + 1, 0, none⟩) 2 2, .slice (some ⟨w.heap.size + 1 + 1 + 1, 0, none⟩) 3 3, .slice (some ⟨w.heap.size + 1 + 1 + 1 + 1, 0, none⟩) 2 2] 26))
  replace o2 := o2.ex (Ex.alloc _ (.cells #[.int .i64 1, .int .i64 (-1), .int .i64 1, .int .i64 2, .int .i64 0, .int .i64 1, .int .i64 3, .int .i64 1, .int .i64 1, .int .i64 4, .int .i64 2, .int .i64 1] 55))
  replace o3 := o3.ex (Ex.alloc _ (.cells #[.int .i64 (-4), .int .i64 (-2)] 3))
  replace o3 := o3.ex (Ex.alloc _ (.cells #[.slice (some ⟨w.heap.size + 1, 0, none⟩) 2 2, .slice (some ⟨w.heap.size + 1 + 1, 0, none⟩) 2 2, .slice (some ⟨w.heap.size + 1 + 1 + 1, 0, none⟩) 3 3, .slice (some ⟨w.heap.size + 1 + 1 + 1 + 1, 0, none⟩) 2 2] 26))
  replace o3 := o3.ex (Ex.alloc _ (.cells #[.int .i64 1, .int .i64 (-1), .int .i64 1, .int .i64 2, .int .i64 0, .int .i64 1, .int .i64 3, .int .i64 1, .int .i64 1, .int .i64 4, .int .i64 2, .int .i64 1] 55))
  replace o4 := o4.ex (Ex.alloc _ (.cells #[.slice (some ⟨w.heap.size + 1, 0, none⟩) 2 2, .slice (some ⟨w.heap.size + 1 + 1, 0, none⟩) 2 2, .slice (some ⟨w.heap.size + 1 + 1 + 1, 0, none⟩) 3 3, .slice (some ⟨w.heap.size + 1 + 1 + 1 + 1, 0, none⟩) 2 2] 26))
  replace o4 := o4.ex (Ex.alloc _ (.cells #[.int .i64 1, .int .i64 (-1), .int .i64 1, .int .i64 2, .int .i64 0, .int .i64 1, .int .i64 3, .int .i64 1, .int .i64 1, .int .i64 4, .int .i64 2, .int .i64 1] 55))
  replace o5 := o5.ex (Ex.alloc _ (.cells #[.int .i64 1, .int .i64 (-1), .int .i64 1, .int .i64 2, .int .i64 0, .int .i64 1, .int .i64 3, .int .i64 1, .int .i64 1, .int .i64 4, .int .i64 2, .int .i64 1] 55))
  have hx : Ex w (((((((w.alloc (.cells #[.int .i64 4, .slice (some ⟨w.heap.size + 1 + 1 + 1 + 1 + 1, 0, none⟩) 4 4] 24)).alloc (.cells #[.int .i64 (-1), .int .i64 2] 3)).alloc (.cells #[.int .i64 (-2), .int .i64 3] 3)).alloc (.cells #[.int .i64 (-3), .int .i64 (-1), .int .i64 4] 3)).alloc (.cells #[.int .i64 (-4), .int .i64 (-2)] 3)).alloc (.cells #[.slice (some ⟨w.heap.size + 1, 0, none⟩) 2 2, .slice (some ⟨w.heap.size + 1 + 1, 0, none⟩) 2 2, .slice (some ⟨w.heap.size + 1 + 1 + 1, 0, none⟩) 3 3, .slice (some ⟨w.heap.size + 1 + 1 + 1 + 1, 0, none⟩) 2 2] 26)).alloc (.cells #[.int .i64 1, .int .i64 (-1), .int .i64 1, .int .i64 2, .int .i64 0, .int .i64 1, .int .i64 3, .int .i64 1, .int .i64 1, .int .i64 4, .int .i64 2, .int .i64 1] 55)) := Ex.refl w |>.alloc' _ |>.alloc' _ |>.alloc' _ |>.alloc' _ |>.alloc' _ |>.alloc' _ |>.alloc' _
  have HR : RowsAt (((((((w.alloc (.cells #[.int .i64 4, .slice (some ⟨w.heap.size + 1 + 1 + 1 + 1 + 1, 0, none⟩) 4 4] 24)).alloc (.cells #[.int .i64 (-1), .int .i64 2] 3)).alloc (.cells #[.int .i64 (-2), .int .i64 3] 3)).alloc (.cells #[.int .i64 (-3), .int .i64 (-1), .int .i64 4] 3)).alloc (.cells #[.int .i64 (-4), .int .i64 (-2)] 3)).alloc (.cells #[.slice (some ⟨w.heap.size + 1, 0, none⟩) 2 2, .slice (some ⟨w.heap.size + 1 + 1, 0, none⟩) 2 2, .slice (some ⟨w.heap.size + 1 + 1 + 1, 0, none⟩) 3 3, .slice (some ⟨w.heap.size + 1 + 1 + 1 + 1, 0, none⟩) 2 2] 26)).alloc (.cells #[.int .i64 1, .int .i64 (-1), .int .i64 1, .int .i64 2, .int .i64 0, .int .i64 1, .int .i64 3, .int .i64 1, .int .i64 1, .int .i64 4, .int .i64 2, .int .i64 1] 55)) (.slice (some ⟨w.heap.size + 1 + 1 + 1 + 1 + 1, 0, none⟩) 4 4) ex13 := rowsAt_of (ll := ex13) o5 rfl (by decide) (fun j hj => by
    have hj : j < 4 := hj
    rcases (show j = 0 ∨ j = 1 ∨ j = 2 ∨ j = 3 by omega) with rfl | rfl | rfl | rfl
    · exact ⟨_, rfl, intsAt_of_block (l := [-1, 2]) o1 (by decide)⟩
    · exact ⟨_, rfl, intsAt_of_block (l := [-2, 3]) o2 (by decide)⟩
    · exact ⟨_, rfl, intsAt_of_block (l := [-3, -1, 4]) o3 (by decide)⟩
    · exact ⟨_, rfl, intsAt_of_block (l := [-4, -2]) o4 (by decide)⟩)
  have HS : StepsAt (((((((w.alloc (.cells #[.int .i64 4, .slice (some ⟨w.heap.size + 1 + 1 + 1 + 1 + 1, 0, none⟩) 4 4] 24)).alloc (.cells #[.int .i64 (-1), .int .i64 2] 3)).alloc (.cells #[.int .i64 (-2), .int .i64 3] 3)).alloc (.cells #[.int .i64 (-3), .int .i64 (-1), .int .i64 4] 3)).alloc (.cells #[.int .i64 (-4), .int .i64 (-2)] 3)).alloc (.cells #[.slice (some ⟨w.heap.size + 1, 0, none⟩) 2 2, .slice (some ⟨w.heap.size + 1 + 1, 0, none⟩) 2 2, .slice (some ⟨w.heap.size + 1 + 1 + 1, 0, none⟩) 3 3, .slice (some ⟨w.heap.size + 1 + 1 + 1 + 1, 0, none⟩) 2 2] 26)).alloc (.cells #[.int .i64 1, .int .i64 (-1), .int .i64 1, .int .i64 2, .int .i64 0, .int .i64 1, .int .i64 3, .int .i64 1, .int .i64 1, .int .i64 4, .int .i64 2, .int .i64 1] 55)) (.slice (some ⟨w.heap.size + 1 + 1 + 1 + 1 + 1 + 1, 0, none⟩) 4 4) tr13 := stepsAt_of_block (tr := tr13) o6 (by decide)
  have c0 := o0.cell 0
  have c1 := o0.cell 1
  clear o0 o1 o2 o3 o4 o5 o6
  go_enter Try.func27, Try.ntmps27
  go_wp2_with fail
  refine bodyPost_ret (v := .tuple #[.agg #[.int .i64 4, .slice (some ⟨w.heap.size + 1 + 1 + 1 + 1 + 1, 0, none⟩) 4 4], .slice (some ⟨w.heap.size + 1 + 1 + 1 + 1 + 1 + 1, 0, none⟩) 4 4]) (by simp [results, Try.results27, go_sem, c0, c1]) rfl ⟨_, _, rfl, HR, HS, hx⟩
end Go.Proofs.Yteagoaiiacideaa
