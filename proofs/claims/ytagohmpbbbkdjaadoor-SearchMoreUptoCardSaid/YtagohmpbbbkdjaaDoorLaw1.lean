/- The chapter's example: the theory, whether its examples hold (works), whether an input is looked at (light, few). No condition. -/
import Derived.Test.YtagohmpbbbkdjaaDoorSearch3
import Derived.Test.YtagohmpbbbkdjaaDoorEqSet
namespace Go.Proofs.YtagohmpbbbkdjaaDoor
set_option linter.unusedSimpArgs false
set_option linter.unusedVariables false
open Go.RowKit

/-- The clauses of the chapter's example. -/
abbrev exL : List (List Int) := [[1, 2], [-1, 3]]
theorem rowsAt_two {w : World} {g a b : Nat} {t : TypeId} {x1 x2 y1 y2 : Int} (h : OwnB w g [.slice (some ⟨a, 0, none⟩) 2 2, .slice (some ⟨b, 0, none⟩) 2 2] t)
    (ha : OwnB w a [.int .i64 x1, .int .i64 x2] 3) (hb : OwnB w b [.int .i64 y1, .int .i64 y2] 3) : RowsAt w (.slice (some ⟨g, 0, none⟩) 2 2) [[x1, x2], [y1, y2]] :=
  ⟨_, _, rfl, Nat.le_refl _, by decide, fun k hk => by
    have hk : k < 2 := hk
    rcases (show k = 0 ∨ k = 1 by omega) with rfl | rfl
    · exact ⟨g, 0, _, rfl, h.lt, h.cell 0, intsAt_of_block (l := [x1, x2]) ha (by show 2 ≤ maxLen; decide)⟩
    · exact ⟨g, 0, _, rfl, h.lt, h.cell 1, intsAt_of_block (l := [y1, y2]) hb (by show 2 ≤ maxLen; decide)⟩⟩

set_option maxHeartbeats 1000000 in
theorem chapter14_any (w : World) : Calls Tryd.prog 15 #[] w fun e w' => ∃ lv, e = .returned (.agg #[.int .i64 3, lv]) ∧ RowsAt w' lv exL ∧ Ex w w' := by
  have o1 := OwnB.new (w.alloc (.cells #[.int .i64 3, .slice (some ⟨w.heap.size + 1 + 1 + 1, 0, none⟩) 2 2] 24)) [.int .i64 1, .int .i64 2] 3
  have o2 := OwnB.new ((w.alloc (.cells #[.int .i64 3, .slice (some ⟨w.heap.size + 1 + 1 + 1, 0, none⟩) 2 2] 24)).alloc (.cells #[.int .i64 1, .int .i64 2] 3)) [.int .i64 (-1), .int .i64 3] 3
  have o3 := OwnB.new (((w.alloc (.cells #[.int .i64 3, .slice (some ⟨w.heap.size + 1 + 1 + 1, 0, none⟩) 2 2] 24)).alloc (.cells #[.int .i64 1, .int .i64 2] 3)).alloc (.cells #[.int .i64 (-1), .int .i64 3] 3))
    [.slice (some ⟨w.heap.size + 1, 0, none⟩) 2 2, .slice (some ⟨w.heap.size + 1 + 1, 0, none⟩) 2 2] 25
  have o0 := OwnB.new w [.int .i64 3, .slice (some ⟨w.heap.size + 1 + 1 + 1, 0, none⟩) 2 2] 24
  have o1' := (o1.ex (Ex.alloc _ (.cells #[.int .i64 (-1), .int .i64 3] 3))).ex (Ex.alloc _ (.cells #[.slice (some ⟨w.heap.size + 1, 0, none⟩) 2 2, .slice (some ⟨w.heap.size + 1 + 1, 0, none⟩) 2 2] 25))
  have o2' := o2.ex (Ex.alloc _ (.cells #[.slice (some ⟨w.heap.size + 1, 0, none⟩) 2 2, .slice (some ⟨w.heap.size + 1 + 1, 0, none⟩) 2 2] 25))
  have o0' := ((o0.ex (Ex.alloc _ (.cells #[.int .i64 1, .int .i64 2] 3))).ex (Ex.alloc _ (.cells #[.int .i64 (-1), .int .i64 3] 3))).ex (Ex.alloc _ (.cells #[.slice (some ⟨w.heap.size + 1, 0, none⟩) 2 2, .slice (some ⟨w.heap.size + 1 + 1, 0, none⟩) 2 2] 25))
  have es : ∀ (w : World) (o : Obj), (w.alloc o).heap.size = w.heap.size + 1 := fun w o => by show (w.heap.push o).size = _; simp
  simp only [es] at o1' o2' o3
  have HR := rowsAt_two o3 o1' o2'
  have c0 := o0'.cell 0
  have c1 := o0'.cell 1
  have hx : Ex w _ := (((Ex.alloc w (.cells #[.int .i64 3, .slice (some ⟨w.heap.size + 1 + 1 + 1, 0, none⟩) 2 2] 24)).alloc' (.cells #[.int .i64 1, .int .i64 2] 3)).alloc' (.cells #[.int .i64 (-1), .int .i64 3] 3)).alloc' (.cells #[.slice (some ⟨w.heap.size + 1, 0, none⟩) 2 2, .slice (some ⟨w.heap.size + 1 + 1, 0, none⟩) 2 2] 25)
  clear o0 o1 o2 o3 o0' o1' o2'
  go_enter Tryd.func15, Tryd.ntmps15
  go_wp2_with fail
  refine bodyPost_ret (v := .agg #[.int .i64 3, .slice (some ⟨w.heap.size + 1 + 1 + 1, 0, none⟩) 2 2]) (by simp [results, Tryd.results15, go_sem, c0, c1]) rfl ⟨_, rfl, HR, hx⟩
theorem exErr : searchErr 3 exL [1] = 0 ∧ searchErr 3 exL [2, 1, -3, 1] = 0 ∧ searchErr 3 exL [2, 3] = 0 := by decide +kernel
theorem exLeast : least 3 exL [1] = some (5, 0) := by decide +kernel
theorem exSat : satB 3 exL [2, 1, -3, 1] = false := by decide +kernel
theorem exCore : coreL 3 exL [2, 1, -3, 1] = [-3, 1] := by decide +kernel
theorem exEntails : entailsB 3 exL [2, 3] = true := by decide +kernel
set_option maxHeartbeats 2000000 in
theorem works14_any (w : World) : Calls Tryd.prog 6 #[] w fun e w' => e = .returned (.bool true) ∧ Ex w w' := by
  have H1 : Hid (∀ (wa : World) (lv av : Value) (hR : RowsAt wa lv exL) (hl : IntsAt wa av [1]), Calls Tryd.prog 7 #[.agg #[.int .i64 3, lv], av] wa fun e w' => e = .returned (.tuple #[.agg #[.int .u64 5, .int .u64 0], .bool true, .int .i64 0]) ∧ Ex wa w') := fun wa lv av hR hl => by
    have := Solve_ok 3 lv av exL [1] wa hR hl exErr.1
    rwa [exLeast] at this
  have H2 : Hid (∀ (wa : World) (lv av : Value) (hR : RowsAt wa lv exL) (hl : IntsAt wa av [2, 1, -3, 1]), Calls Tryd.prog 16 #[.agg #[.int .i64 3, lv], av] wa (CoreRet wa [-3, 1] true 0)) := fun wa lv av hR hl => by
    have := Core_ok 3 lv av exL [2, 1, -3, 1] wa hR hl exErr.2.1 (by decide)
    rwa [exSat, exCore] at this
  have H3 : Hid (∀ (wa : World) (lv av : Value) (hR : RowsAt wa lv exL) (hl : IntsAt wa av [2, 3]), Calls Tryd.prog 17 #[.agg #[.int .i64 3, lv], av] wa fun e w' => e = .returned (.tuple #[.bool true, .int .i64 0]) ∧ Ex wa w') := fun wa lv av hR hl => by
    have := Entails_ok 3 lv av exL [2, 3] wa hR hl exErr.2.2 (by decide)
    rwa [exEntails] at this
  have H4 : Hid (∀ (wa : World) (av bv : Value) (h1 : IntsAt wa av [-3, 1]) (h2 : IntsAt wa bv [-3, 1]), Calls Tryd.prog 18 #[av, bv] wa fun e w' => e = .returned (.bool true) ∧ Ex wa w') := fun wa av bv h1 h2 => r06SameInts_any _ _ _ _ _ h1 h2
  go_enter Tryd.func6, Tryd.ntmps6
  go_wp2_with fail
  refine (chapter14_any _).mono ?_
  rintro e w1 ⟨lv, rfl, hR, hx⟩
  go_wp2_with fail
  have hl := intsAt_of_block (l := [1]) (OwnB.new w1 [.int .i64 1] 3) (by decide)
  refine (H1.out _ _ _ (hR.ex (Ex.alloc _ _)) hl).mono ?_
  rintro e w2 ⟨rfl, hx2⟩
  replace hx := hx.trans ((Ex.alloc _ _).trans hx2)
  clear hx2 hl hR H1
  go_wp2_with fail
  have oS := OwnB.new w2 [.int .u64 5, .int .u64 0] 30
  have hxa := Ex.alloc w2 (.cells #[.int .u64 5, .int .u64 0] 30)
  generalize hH : w2.heap.size = H at *
  have oS' : OwnB (w2.alloc (.cells #[.int .u64 5, .int .u64 0] 30)) H [.int .u64 5, .int .u64 0] 30 := oS
  clear oS hH
  generalize w2.alloc (.cells #[.int .u64 5, .int .u64 0] 30) = wa at *
  replace hx := hx.trans hxa
  clear hxa
  refine (chapter14_any _).mono ?_
  rintro e w3 ⟨lv3, rfl, hR, hx2⟩
  replace oS' := oS'.ex hx2
  replace hx := hx.trans hx2
  clear hx2
  go_wp2_with fail
  have hl := intsAt_of_block (l := [2, 1, -3, 1]) (OwnB.new w3 [.int .i64 2, .int .i64 1, .int .i64 (-3), .int .i64 1] 3) (by decide)
  have hxb := Ex.alloc w3 (.cells #[.int .i64 2, .int .i64 1, .int .i64 (-3), .int .i64 1] 3)
  refine (H2.out _ _ _ (hR.ex (Ex.alloc _ _)) hl).mono ?_
  rintro e w4 ⟨cv, rfl, hc, hx2⟩
  have hx3 := hxb.trans hx2
  replace oS' := oS'.ex hx3
  replace hx := hx.trans hx3
  clear hx2 hx3 hl hR H2 hxb
  have hcI := hc.ints
  clear hc
  obtain ⟨ca, cc, rfl, q1, q2, q3⟩ := hcI
  have hcI : IntsAt w4 (.slice ca 2 cc) [-3, 1] := ⟨ca, cc, rfl, q1, q2, q3⟩
  clear q1 q2 q3
  go_wp2_with fail
  refine (chapter14_any _).mono ?_
  rintro e w5 ⟨lv5, rfl, hR, hx2⟩
  replace oS' := oS'.ex hx2
  replace hx := hx.trans hx2
  replace hcI := hcI.ex hx2
  clear hx2
  go_wp2_with fail
  have hl := intsAt_of_block (l := [2, 3]) (OwnB.new w5 [.int .i64 2, .int .i64 3] 3) (by decide)
  have hxb := Ex.alloc w5 (.cells #[.int .i64 2, .int .i64 3] 3)
  refine (H3.out _ _ _ (hR.ex (Ex.alloc _ _)) hl).mono ?_
  rintro e w6 ⟨rfl, hx2⟩
  have hx3 := hxb.trans hx2
  replace oS' := oS'.ex hx3
  replace hx := hx.trans hx3
  replace hcI := hcI.ex hx3
  clear hx2 hx3 hl hR H3 hxb
  have s0 : w6.cell? ⟨H, 0, none⟩ = some (.int .u64 5) := oS'.cell 0
  have s1 : w6.cell? ⟨H, 1, none⟩ = some (.int .u64 0) := oS'.cell 1
  go_wp2_with fail
  have hl := intsAt_of_block (l := [-3, 1]) (OwnB.new w6 [.int .i64 (-3), .int .i64 1] 3) (by decide)
  have hxb := Ex.alloc w6 (.cells #[.int .i64 (-3), .int .i64 1] 3)
  refine (H4.out _ _ _ (hcI.ex hxb) hl).mono ?_
  rintro e w7 ⟨rfl, hx2⟩
  go_wp2
  go_ret
  exact ⟨rfl, hx.trans (hxb.trans hx2)⟩
end Go.Proofs.YtagohmpbbbkdjaaDoor
