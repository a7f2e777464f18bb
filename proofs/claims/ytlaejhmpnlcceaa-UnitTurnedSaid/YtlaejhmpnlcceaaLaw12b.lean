/- Chapter 12: UnitTrails, UnitCloses: the walks. No condition. -/
import Derived.Test.YtlaejhmpnlcceaaLaw12a
import Derived.Test.YtlaejhmpnlcceaaTerm04b
namespace Go.Proofs.Ytlaejhmpnlcceaa
set_option linter.unusedSimpArgs false
set_option linter.unusedVariables false
open Go.RowKit
set_option maxRecDepth 100000 in
set_option maxHeartbeats 4000000 in
theorem UnitTrails_any (n : Int) (lv av : Value) (ll : List (List Int)) (ds : List Int) (w : World) (hR : RowsAt w lv ll) (hl : IntsAt w av ds) :
    Calls Try.prog 3 #[.agg #[.int .i64 n, lv], av] w fun e w' => e = .returned (.bool true) ∧ Ex w w' := by
  have HL : Hid (∀ wa, Ex w wa → Calls Try.prog 10 #[.agg #[.int .i64 n, lv]] wa (AnyB wa)) := fun wa hx => few12_any n lv ll wa (hR.ex hx)
  have H1 : Hid (∀ wa, Ex w wa → Calls Try.prog 12 #[.agg #[.int .i64 n, lv], av] wa (TrailRet 50 wa (trailL n ll ds) (trailC n ll ds) (trailE n ll ds))) := fun wa hx => unitTrail_any n lv av ll ds wa (hR.ex hx) (hl.ex hx)
  have H2 : Hid (∀ wa, Ex w wa → Calls Try.prog 13 #[.agg #[.int .i64 n, lv], av] wa (TrailRetR 42 wa (trailL n ll ds) (trailC n ll ds) (trailE n ll ds))) := fun wa hx => r12Trail_any n lv av ll ds wa (hR.ex hx) (hl.ex hx)
  have hgl : Hid ((trailL n ll ds).length ≤ 257) := (trail_good (n := n) (ll := ll) (ds := ds)).length
  generalize trailL n ll ds = tr at *
  generalize trailC n ll ds = tc at *
  generalize trailE n ll ds = te at *
  have H3 : Hid (∀ wa u, StepsAt wa u tr → Calls Try.prog 15 #[u] wa (GivenRet wa tr)) := fun wa u h => given12_any u tr wa h (by have := hgl.out; omega)
  have H4 : Hid (∀ wa u v, StepsAt wa u tr → StepsAt wa v tr → Calls Try.prog 14 #[u, v] wa fun e w' => e = .returned (.bool true) ∧ Ex wa w') := fun wa u v h k => by
    have := r12Same_any u v tr tr wa h k
    rwa [decide_eq_true rfl] at this
  have hR0 := hR
  have hl0 := hl
  obtain ⟨ra, rcap, rfl, r1, r2, r3⟩ := hR
  obtain ⟨a, cap, rfl, h1, h2, h3⟩ := hl
  unfold maxLen at r2 h2
  clear r3 h3
  go_enter Try.func3, Try.ntmps3
  go_wp2_with fail
  generalize hwa : w.alloc (.cells #[.int .i64 n, .slice ra ll.length rcap] 24) = wa
  have hxa : Ex w wa := hwa ▸ Ex.alloc _ _
  have hT : OwnB wa w.heap.size [.int .i64 n, .slice ra ll.length rcap] 24 := hwa ▸ OwnB.new w [.int .i64 n, .slice ra ll.length rcap] 24
  clear hwa
  refine (HL.out _ hxa).mono ?_
  rintro e w2 ⟨b, rfl, hx2⟩
  replace hxa := hxa.trans hx2
  replace hT := hT.ex hx2
  clear hx2 HL
  have c0 := hT.cell 0
  have c1 := hT.cell 1
  have zB := hT.lt
  cases b
  · go_wp2_with (refine (works12_any _).mono ?_; rintro e w' ⟨rfl, hx⟩)
    go_ret
    exact ⟨rfl, hxa.trans hx⟩
  by_cases hlen : 100 < ds.length
  · go_wp2_with (refine (works12_any _).mono ?_; rintro e w' ⟨rfl, hx⟩)
    go_ret
    exact ⟨rfl, hxa.trans hx⟩
  go_wp2_with fail
  refine (H1.out _ hxa).mono ?_
  rintro e w3 ⟨v1, rfl, ho1, hx2⟩
  have hI1 := ho1.steps
  obtain ⟨p1, q1, rfl, _, _, _⟩ := hI1
  have hI1 := ho1.steps
  clear ho1
  replace hxa := hxa.trans hx2
  replace hT := hT.ex hx2
  clear c0 c1 zB
  have c0 := hT.cell 0
  have c1 := hT.cell 1
  have zB := hT.lt
  clear hx2 H1
  go_wp2_with fail
  refine (H2.out _ hxa).mono ?_
  rintro e w4 ⟨v2, rfl, ho2, hx2⟩
  have hI2 := ho2.steps
  obtain ⟨p2, q2, rfl, _, _, _⟩ := hI2
  have hI2 := ho2.steps
  clear ho2
  replace hI1 := hI1.ex hx2
  replace hxa := hxa.trans hx2
  clear hx2 H2 hT c0 c1 zB
  go_wp2_with fail
  refine (H3.out _ _ hI1).mono ?_
  rintro e w5 ⟨v3, rfl, ho3, hx2⟩
  have hI3 := ho3.steps
  obtain ⟨p3, q3, rfl, _, _, _⟩ := hI3
  have hI3 := ho3.steps
  clear ho3
  replace hI2 := hI2.ex hx2
  replace hxa := hxa.trans hx2
  clear hx2 H3 hI1
  go_wp2_with fail
  refine (H4.out _ _ _ hI3 hI2).mono ?_
  rintro e w6 ⟨rfl, hx2⟩
  replace hxa := hxa.trans hx2
  clear hx2 H4 hI2 hI3
  go_wp2_with (refine (works12_any _).mono ?_; rintro e w' ⟨rfl, hx⟩)
  go_ret
  exact ⟨rfl, hxa.trans hx⟩
set_option maxRecDepth 100000 in
set_option maxHeartbeats 4000000 in
theorem UnitCloses_any (n : Int) (lv av : Value) (ll : List (List Int)) (ds : List Int) (w : World) (hR : RowsAt w lv ll) (hl : IntsAt w av ds) :
    Calls Try.prog 4 #[.agg #[.int .i64 n, lv], av] w fun e w' => e = .returned (.bool true) ∧ Ex w w' := by
  have HL : Hid (∀ wa, Ex w wa → Calls Try.prog 10 #[.agg #[.int .i64 n, lv]] wa (AnyB wa)) := fun wa hx => few12_any n lv ll wa (hR.ex hx)
  have H1 : Hid (∀ wa, Ex w wa → Calls Try.prog 16 #[.agg #[.int .i64 n, lv], av] wa (TermRet wa (closL n ll ds) (closB n ll ds))) := fun wa hx => unitClosure_any n lv av ll ds wa (hR.ex hx) (hl.ex hx)
  have H2 : Hid (∀ wa, Ex w wa → Calls Try.prog 17 #[.agg #[.int .i64 n, lv], av] wa (TermRet wa (closL n ll ds) (closB n ll ds))) := fun wa hx => r12Closure_any n lv av ll ds wa (hR.ex hx) (hl.ex hx)
  generalize closL n ll ds = cl at *
  generalize closB n ll ds = cb at *
  have H4 : Hid (∀ wa u v, IntsAt wa u cl → IntsAt wa v cl → Calls Try.prog 18 #[u, v] wa fun e w' => e = .returned (.bool true) ∧ Ex wa w') := fun wa u v h k => by
    have := r04Same_any u v cl cl wa h k
    rwa [decide_eq_true rfl] at this
  have hR0 := hR
  have hl0 := hl
  obtain ⟨ra, rcap, rfl, r1, r2, r3⟩ := hR
  obtain ⟨a, cap, rfl, h1, h2, h3⟩ := hl
  unfold maxLen at r2 h2
  clear r3 h3
  go_enter Try.func4, Try.ntmps4
  go_wp2_with fail
  generalize hwa : w.alloc (.cells #[.int .i64 n, .slice ra ll.length rcap] 24) = wa
  have hxa : Ex w wa := hwa ▸ Ex.alloc _ _
  have hT : OwnB wa w.heap.size [.int .i64 n, .slice ra ll.length rcap] 24 := hwa ▸ OwnB.new w [.int .i64 n, .slice ra ll.length rcap] 24
  clear hwa
  refine (HL.out _ hxa).mono ?_
  rintro e w2 ⟨b, rfl, hx2⟩
  replace hxa := hxa.trans hx2
  replace hT := hT.ex hx2
  clear hx2 HL
  have c0 := hT.cell 0
  have c1 := hT.cell 1
  have zB := hT.lt
  cases b
  · go_wp2_with (refine (works12_any _).mono ?_; rintro e w' ⟨rfl, hx⟩)
    go_ret
    exact ⟨rfl, hxa.trans hx⟩
  by_cases hlen : 100 < ds.length
  · go_wp2_with (refine (works12_any _).mono ?_; rintro e w' ⟨rfl, hx⟩)
    go_ret
    exact ⟨rfl, hxa.trans hx⟩
  go_wp2_with fail
  refine (H1.out _ hxa).mono ?_
  rintro e w3 ⟨v1, rfl, ho1, hx2⟩
  have hI1 := ho1.ints
  obtain ⟨p1, q1, rfl, _, _, _⟩ := hI1
  have hI1 := ho1.ints
  clear ho1
  replace hxa := hxa.trans hx2
  replace hT := hT.ex hx2
  clear c0 c1 zB
  have c0 := hT.cell 0
  have c1 := hT.cell 1
  have zB := hT.lt
  clear hx2 H1
  go_wp2_with fail
  refine (H2.out _ hxa).mono ?_
  rintro e w4 ⟨v2, rfl, ho2, hx2⟩
  have hI2 := ho2.ints
  obtain ⟨p2, q2, rfl, _, _, _⟩ := hI2
  have hI2 := ho2.ints
  clear ho2
  replace hI1 := hI1.ex hx2
  replace hxa := hxa.trans hx2
  clear hx2 H2 hT c0 c1 zB
  go_wp2_with fail
  refine (H4.out _ _ _ hI1 hI2).mono ?_
  rintro e w6 ⟨rfl, hx2⟩
  replace hxa := hxa.trans hx2
  clear hx2 H4 hI1 hI2
  go_wp2_with (refine (works12_any _).mono ?_; rintro e w' ⟨rfl, hx⟩)
  go_ret
  exact ⟨rfl, hxa.trans hx⟩
end Go.Proofs.Ytlaejhmpnlcceaa
