/- The laws that hold search against the document: the walks. No condition. -/
import Derived.Test.YtagohmpbbbkdjaaLaw2
namespace Go.Proofs.Ytagohmpbbbkdjaa
set_option linter.unusedSimpArgs false
set_option linter.unusedVariables false
open Go.RowKit

theorem nat_of_ok {n : Int} {ll : List (List Int)} (h : theoryErr n ll = 0) : ∃ k : Nat, n = k := by
  have h1 : 0 ≤ n := by
    rcases Int.lt_or_le n 0 with h2 | h2
    · simp [theoryErr, h2] at h
    · exact h2
  exact ⟨n.toNat, by omega⟩
theorem light_nat {n : Int} {ll : List (List Int)} {l : List Int} (h : LightOk n ll l) (hs : searchErr n ll l = 0) : ∃ k : Nat, n = k ∧ k ≤ 12 ∧ l.length * 8 ≤ 140737488355328 := by
  obtain ⟨he, _⟩ := searchErr_zero hs
  obtain ⟨k, rfl⟩ := nat_of_ok he
  have := h.1
  rcases h.2 with h2 | h2
  · exact ⟨k, rfl, by omega, by omega⟩
  · exact absurd he h2
theorem light_solve {n : Int} {ll : List (List Int)} {l : List Int} (h : LightOk n ll l) : ∃ (x y : Nat) (s : Bool) (er : Int), ∀ (lv av : Value) (w : World), RowsAt w lv ll → IntsAt w av l →
    (Calls Try.prog 12 #[.agg #[.int .i64 n, lv], av] w fun e w' => e = .returned (.tuple #[.agg #[.int .u64 x, .int .u64 y], .bool s, .int .i64 er]) ∧ Ex w w') ∧
    (Calls Try.prog 13 #[.agg #[.int .i64 n, lv], av] w fun e w' => e = .returned (.tuple #[.agg #[.int .u64 x, .int .u64 y], .bool s, .int .i64 er]) ∧ Ex w w') := by
  by_cases hs : searchErr n ll l = 0
  · obtain ⟨k, rfl, hk, hb⟩ := light_nat h hs
    exact ⟨_, _, _, _, fun lv av w hR hl => ⟨Solve_ok k lv av ll l w hR hl hs, r14Solve_ok k lv av ll l w hR hl hs hk⟩⟩
  · exact ⟨_, _, _, _, fun lv av w hR hl => ⟨Solve_bad n lv av ll l w hR hl hs, r14Solve_bad n lv av ll l w hR hl hs⟩⟩
theorem light_core {n : Int} {ll : List (List Int)} {l : List Int} (h : LightOk n ll l) : ∃ (L : List Int) (s : Bool) (er : Int), ∀ (lv av : Value) (w : World), RowsAt w lv ll → IntsAt w av l →
    (Calls Try.prog 14 #[.agg #[.int .i64 n, lv], av] w (CoreRet w L s er)) ∧ (Calls Try.prog 15 #[.agg #[.int .i64 n, lv], av] w (CoreRet w L s er)) := by
  by_cases hs : searchErr n ll l = 0
  · obtain ⟨k, rfl, hk, hb⟩ := light_nat h hs
    exact ⟨_, _, _, fun lv av w hR hl => ⟨Core_ok k lv av ll l w hR hl hs hb, r14Core_ok k lv av ll l w hR hl hs hk hb⟩⟩
  · exact ⟨_, _, _, fun lv av w hR hl => ⟨Core_bad n lv av ll l w hR hl hs, r14Core_bad n lv av ll l w hR hl hs⟩⟩
theorem light_entails {n : Int} {ll : List (List Int)} {l : List Int} (h : LightOk n ll l) : ∃ (s : Bool) (er : Int), ∀ (lv av : Value) (w : World), RowsAt w lv ll → IntsAt w av l →
    (Calls Try.prog 17 #[.agg #[.int .i64 n, lv], av] w fun e w' => e = .returned (.tuple #[.bool s, .int .i64 er]) ∧ Ex w w') ∧
    (Calls Try.prog 18 #[.agg #[.int .i64 n, lv], av] w fun e w' => e = .returned (.tuple #[.bool s, .int .i64 er]) ∧ Ex w w') := by
  by_cases hs : searchErr n ll l = 0
  · obtain ⟨k, rfl, hk, hb⟩ := light_nat h hs
    exact ⟨_, _, fun lv av w hR hl => ⟨Entails_ok k lv av ll l w hR hl hs hb, r14Entails_ok k lv av ll l w hR hl hs hk⟩⟩
  · exact ⟨_, _, fun lv av w hR hl => ⟨Entails_bad n lv av ll l w hR hl hs, r14Entails_bad n lv av ll l w hR hl hs⟩⟩
set_option maxHeartbeats 2000000 in
theorem SearchSolves_any (n : Int) (lv av : Value) (ll : List (List Int)) (l : List Int) (w : World) (hR : RowsAt w lv ll) (hl : IntsAt w av l) :
    Calls Try.prog 3 #[.agg #[.int .i64 n, lv], av] w fun e w' => e = .returned (.bool true) ∧ Ex w w' := by
  have HL : Hid (∀ wa (hRa : RowsAt wa lv ll) (hIa : IntsAt wa av l), Calls Try.prog 10 #[.agg #[.int .i64 n, lv], av] wa (Yes wa (LightOk n ll l))) := fun wa hRa hIa => light14_any n lv av ll l wa hRa hIa
  have HB : Hid _ := box_theory (n := n) hR hl 24
  have HS : Hid (LightOk n ll l → _) := fun h => light_solve h
  obtain ⟨a, cap, rfl, _, _, _⟩ := hR
  obtain ⟨a', cap', rfl, _, _, _⟩ := hl
  go_enter Try.func3, Try.ntmps3
  go_wp2_with fail
  obtain ⟨wa, hwa, hxa, hRa, hIa, hT⟩ := HB.out
  rw [← hwa]; clear HB hwa
  refine (HL.out _ hRa hIa).mono ?_
  rintro e w2 ⟨b, rfl, hb, hx2⟩
  have Hb : Hid (b = true → LightOk n ll l) := hb
  clear hb HL
  replace hT := hT.ex hx2
  replace hRa := hRa.ex hx2
  replace hIa := hIa.ex hx2
  replace hxa := hxa.trans hx2
  clear hx2
  have c0 := hT.c0
  have c1 := hT.c1
  cases b
  · go_wp2_with (refine (works14_any _).mono ?_; rintro e w' ⟨rfl, hx2⟩)
    go_ret
    exact ⟨rfl, hxa.trans hx2⟩
  · have hK := HS.out (Hb.out rfl)
    clear HS Hb
    obtain ⟨x, y, s, er, hK⟩ := hK
    have HK : Hid _ := hK
    clear hK
    go_wp2_with fail
    refine (HK.out _ _ _ hRa hIa).1.mono ?_
    rintro e w3 ⟨rfl, hx2⟩
    replace hT := hT.ex hx2
    replace hRa := hRa.ex hx2
    replace hIa := hIa.ex hx2
    replace hxa := hxa.trans hx2
    clear hx2 c0 c1
    have c0 := hT.c0
    have c1 := hT.c1
    have hb0 : w.heap.size < w3.heap.size := cell_lt c0
    have oS := OwnB.new w3 [.int .u64 x, .int .u64 y] 30
    have hxs := Ex.alloc w3 (.cells #[.int .u64 x, .int .u64 y] 30)
    go_wp2_with fail
    refine (HK.out _ _ _ (hRa.ex hxs) (hIa.ex hxs)).2.mono ?_
    rintro e w4 ⟨rfl, hx2⟩
    have oS2 : OwnB w4 w3.heap.size [.int .u64 x, .int .u64 y] 30 := oS.ex hx2
    replace hxa := hxa.trans (hxs.trans hx2)
    clear hx2 oS c0 c1 hT hRa hIa hxs hb0 HK
    have s0 : w4.cell? ⟨w3.heap.size, 0, none⟩ = some (.int .u64 x) := oS2.cell 0
    have s1 : w4.cell? ⟨w3.heap.size, 1, none⟩ = some (.int .u64 y) := oS2.cell 1
    have hb0 : w3.heap.size < w4.heap.size := oS2.lt
    clear oS2
    go_wp2_with (refine (works14_any _).mono ?_; rintro e w' ⟨rfl, hx2⟩)
    go_ret
    exact ⟨rfl, (hxa.alloc' _).trans hx2⟩
set_option maxHeartbeats 2000000 in
theorem SearchCores_any (n : Int) (lv av : Value) (ll : List (List Int)) (l : List Int) (w : World) (hR : RowsAt w lv ll) (hl : IntsAt w av l) :
    Calls Try.prog 4 #[.agg #[.int .i64 n, lv], av] w fun e w' => e = .returned (.bool true) ∧ Ex w w' := by
  have HL : Hid (∀ wa (hRa : RowsAt wa lv ll) (hIa : IntsAt wa av l), Calls Try.prog 10 #[.agg #[.int .i64 n, lv], av] wa (Yes wa (LightOk n ll l))) := fun wa hRa hIa => light14_any n lv av ll l wa hRa hIa
  have HB : Hid _ := box_theory (n := n) hR hl 24
  have HS : Hid (LightOk n ll l → _) := fun h => light_core h
  obtain ⟨a, cap, rfl, _, _, _⟩ := hR
  obtain ⟨a', cap', rfl, _, _, _⟩ := hl
  go_enter Try.func4, Try.ntmps4
  go_wp2_with fail
  obtain ⟨wa, hwa, hxa, hRa, hIa, hT⟩ := HB.out
  rw [← hwa]; clear HB hwa
  refine (HL.out _ hRa hIa).mono ?_
  rintro e w2 ⟨b, rfl, hb, hx2⟩
  have Hb : Hid (b = true → LightOk n ll l) := hb
  clear hb HL
  replace hT := hT.ex hx2
  replace hRa := hRa.ex hx2
  replace hIa := hIa.ex hx2
  replace hxa := hxa.trans hx2
  clear hx2
  have c0 := hT.c0
  have c1 := hT.c1
  cases b
  · go_wp2_with (refine (works14_any _).mono ?_; rintro e w' ⟨rfl, hx2⟩)
    go_ret
    exact ⟨rfl, hxa.trans hx2⟩
  · have hK := HS.out (Hb.out rfl)
    clear HS Hb
    obtain ⟨L, s, er, hK⟩ := hK
    have HK : Hid _ := hK
    clear hK
    go_wp2_with fail
    refine (HK.out _ _ _ hRa hIa).1.mono ?_
    rintro e w3 ⟨v1, rfl, hv1, hx2⟩
    have hI1 := hv1.ints
    obtain ⟨p1, q1, rfl, _, _, _⟩ := hI1
    have hI1 := hv1.ints
    replace hT := hT.ex hx2
    replace hRa := hRa.ex hx2
    replace hIa := hIa.ex hx2
    replace hxa := hxa.trans hx2
    clear hx2 c0 c1 hv1
    have c0 := hT.c0
    have c1 := hT.c1
    go_wp2_with fail
    refine (HK.out _ _ _ hRa hIa).2.mono ?_
    rintro e w4 ⟨v2, rfl, hv2, hx2⟩
    have hI2 := hv2.ints
    obtain ⟨p2, q2, rfl, _, _, _⟩ := hI2
    have hI2 := hv2.ints
    replace hI1 := hI1.ex hx2
    replace hxa := hxa.trans hx2
    clear hx2 c0 c1 hT hRa hIa HK hv2
    have HQ := r06SameInts_any _ _ _ _ _ hI1 hI2
    simp only [decide_true] at HQ
    have HQ' : Hid _ := HQ
    clear HQ hI1 hI2
    go_wp2_with fail
    refine Calls.mono HQ'.out ?_
    rintro e w5 ⟨rfl, hx2⟩
    go_wp2_with (refine (works14_any _).mono ?_; rintro e w' ⟨rfl, hx3⟩)
    go_ret
    exact ⟨rfl, (hxa.trans hx2).trans hx3⟩
set_option maxHeartbeats 2000000 in
theorem SearchEntails_any (n : Int) (lv av : Value) (ll : List (List Int)) (l : List Int) (w : World) (hR : RowsAt w lv ll) (hl : IntsAt w av l) :
    Calls Try.prog 5 #[.agg #[.int .i64 n, lv], av] w fun e w' => e = .returned (.bool true) ∧ Ex w w' := by
  have HL : Hid (∀ wa (hRa : RowsAt wa lv ll) (hIa : IntsAt wa av l), Calls Try.prog 10 #[.agg #[.int .i64 n, lv], av] wa (Yes wa (LightOk n ll l))) := fun wa hRa hIa => light14_any n lv av ll l wa hRa hIa
  have HB : Hid _ := box_theory (n := n) hR hl 24
  have HS : Hid (LightOk n ll l → _) := fun h => light_entails h
  obtain ⟨a, cap, rfl, _, _, _⟩ := hR
  obtain ⟨a', cap', rfl, _, _, _⟩ := hl
  go_enter Try.func5, Try.ntmps5
  go_wp2_with fail
  obtain ⟨wa, hwa, hxa, hRa, hIa, hT⟩ := HB.out
  rw [← hwa]; clear HB hwa
  refine (HL.out _ hRa hIa).mono ?_
  rintro e w2 ⟨b, rfl, hb, hx2⟩
  have Hb : Hid (b = true → LightOk n ll l) := hb
  clear hb HL
  replace hT := hT.ex hx2
  replace hRa := hRa.ex hx2
  replace hIa := hIa.ex hx2
  replace hxa := hxa.trans hx2
  clear hx2
  have c0 := hT.c0
  have c1 := hT.c1
  cases b
  · go_wp2_with (refine (works14_any _).mono ?_; rintro e w' ⟨rfl, hx2⟩)
    go_ret
    exact ⟨rfl, hxa.trans hx2⟩
  · have hK := HS.out (Hb.out rfl)
    clear HS Hb
    obtain ⟨s, er, hK⟩ := hK
    have HK : Hid _ := hK
    clear hK
    go_wp2_with fail
    refine (HK.out _ _ _ hRa hIa).1.mono ?_
    rintro e w3 ⟨rfl, hx2⟩
    replace hT := hT.ex hx2
    replace hRa := hRa.ex hx2
    replace hIa := hIa.ex hx2
    replace hxa := hxa.trans hx2
    clear hx2 c0 c1
    have c0 := hT.c0
    have c1 := hT.c1
    go_wp2_with fail
    refine (HK.out _ _ _ hRa hIa).2.mono ?_
    rintro e w4 ⟨rfl, hx2⟩
    replace hxa := hxa.trans hx2
    clear hx2 c0 c1 hT hRa hIa HK
    go_wp2_with (refine (works14_any _).mono ?_; rintro e w' ⟨rfl, hx2⟩)
    go_ret
    exact ⟨rfl, hxa.trans hx2⟩
end Go.Proofs.Ytagohmpbbbkdjaa
