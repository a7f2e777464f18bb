/- The exported functions Solve, Core and Entails: what they return; old memory stays. -/
import Derived.Test.YtnhlfhoeglnajaaSolve
namespace Go.Proofs.Ytnhlfhoeglnajaa
set_option linter.unusedSimpArgs false
set_option linter.unusedVariables false
open Go.RowKit
set_option maxRecDepth 20000

set_option maxHeartbeats 1000000 in
theorem Solve_bad (n : Int) (lv av : Value) (ll : List (List Int)) (l : List Int) (w : World) (hR : RowsAt w lv ll) (hl : IntsAt w av l) (hs : searchErr n ll l ≠ 0) :
    Calls Try.prog 47 #[.agg #[.int .i64 n, lv], av] w fun e w' => e = .returned (.tuple #[setV 0 0, .bool false, .int .i64 (searchErr n ll l)]) ∧ Ex w w' := by
  unfold setV
  have hs' : (searchErr n ll l != 0) = true := by simp [hs]
  have HC : Hid (∀ wa (hRa : RowsAt wa lv ll) (hIa : IntsAt wa av l), _) := fun wa hRa hIa => searchCheck_any n lv av ll l wa hRa hIa
  have HB : Hid _ := box_theory_set (n := n) hR hl 24 28
  obtain ⟨a, cap, rfl, _, _, _⟩ := hR
  obtain ⟨a', cap', rfl, _, _, _⟩ := hl
  clear hs
  generalize searchErr n ll l = sE at *
  go_enter Try.func47, Try.ntmps47
  go_wp2_with fail
  obtain ⟨wa, hwa, hxa, hRa, hIa, hT, hO⟩ := HB.out
  rw [← hwa]; clear HB hwa
  refine (HC.out _ hRa hIa).mono ?_
  rintro e w2 ⟨rfl, hx2⟩
  clear HC
  replace hO := hO.ex hx2
  replace hxa := hxa.trans hx2
  have s0 : w2.cell? ⟨w.heap.size + 1, 0, none⟩ = some (.int .u64 0) := hO.cell 0
  have s1 : w2.cell? ⟨w.heap.size + 1, 1, none⟩ = some (.int .u64 0) := hO.cell 1
  have f0 := hO.free 0
  have f1 := hO.free 1
  clear hx2 hRa hIa hT hO
  go_wp2
  refine bodyPost_ret (v := .tuple #[.agg #[.int .u64 0, .int .u64 0], .bool false, .int .i64 sE]) (by simp [results, Try.results47, go_sem, s0, s1]) rfl ⟨rfl, ?_⟩
  refine Ex.setCell (Ex.setCell hxa ?_ _) ?_ _ <;> exact Nat.le_succ _
set_option maxHeartbeats 1000000 in
theorem Solve_ok (n : Nat) (lv av : Value) (ll : List (List Int)) (l : List Int) (w : World) (hR : RowsAt w lv ll) (hl : IntsAt w av l) (hs : searchErr n ll l = 0) :
    Calls Try.prog 47 #[.agg #[.int .i64 n, lv], av] w fun e w' => e = .returned (.tuple #[setV ((least n ll l).getD (0, 0)).1 ((least n ll l).getD (0, 0)).2, .bool (least n ll l).isSome, .int .i64 0]) ∧ Ex w w' := by
  unfold setV
  obtain ⟨he, hlv⟩ := searchErr_zero hs
  have HC : Hid (∀ wa (hRa : RowsAt wa lv ll) (hIa : IntsAt wa av l), _) := fun wa hRa hIa => searchCheck_any n lv av ll l wa hRa hIa
  have HM : Hid (∀ wa (hRa : RowsAt wa lv ll) (hIa : IntsAt wa av l), _) := fun wa hRa hIa => solve_any n lv av ll l wa hRa hIa he hlv
  have HB : Hid _ := box_theory_set (n := n) hR hl 24 28
  obtain ⟨a, cap, rfl, _, _, _⟩ := hR
  obtain ⟨a', cap', rfl, _, _, _⟩ := hl
  rw [hs] at HC
  clear hs he hlv
  generalize least n ll l = F at *
  go_enter Try.func47, Try.ntmps47
  go_wp2_with fail
  obtain ⟨wa, hwa, hxa, hRa, hIa, hT, hO⟩ := HB.out
  rw [← hwa]; clear HB hwa
  refine (HC.out _ hRa hIa).mono ?_
  rintro e w2 ⟨rfl, hx2⟩
  clear HC
  replace hO := hO.ex hx2
  replace hT := hT.ex hx2
  replace hRa := hRa.ex hx2
  replace hIa := hIa.ex hx2
  replace hxa := hxa.trans hx2
  clear hx2
  have c0 := hT.1
  have c1 := hT.2
  go_wp2_with fail
  refine (HM.out _ hRa hIa).mono ?_
  rintro e w4 ⟨rfl, hx2⟩
  clear HM c0 c1
  replace hO := hO.ex hx2
  replace hxa := hxa.trans hx2
  have s0 : w4.cell? ⟨w.heap.size + 1, 0, none⟩ = some (.int .u64 0) := hO.cell 0
  have s1 : w4.cell? ⟨w.heap.size + 1, 1, none⟩ = some (.int .u64 0) := hO.cell 1
  have f0 := hO.free 0
  have f1 := hO.free 1
  have hlt := hO.lt
  clear hx2 hO hRa hIa hT
  go_wp2
  refine bodyPost_ret (v := .tuple #[.agg #[.int .u64 (F.getD (0, 0)).1, .int .u64 (F.getD (0, 0)).2], .bool F.isSome, .int .i64 0]) (by simp [results, Try.results47, go_sem, s0, s1, hlt]) rfl ⟨rfl, ?_⟩
  refine Ex.alloc' (Ex.setCell (Ex.setCell hxa ?_ _) ?_ _) _ <;> exact Nat.le_succ _
theorem trueL_neg {α : Nat → Bool} {x : Int} (hx : x ≠ 0) : trueL α (-x) = !trueL α x := by
  unfold trueL
  rw [Int.natAbs_neg]
  by_cases h : x < 0
  · rw [if_neg (by omega), if_pos h]; simp
  · rw [if_pos (by omega), if_neg h]
theorem valid_neg {x n : Int} (h : litValid x n = true) : litValid (-x) n = true := by rw [litValid_iff] at *; omega
theorem entails_sat {n : Nat} {ll : List (List Int)} {l : List Int} (he : theoryErr n ll = 0) (hl : ∀ x ∈ l, litValid x n = true) : entailsB n ll l = !satB n ll (l.map fun x => -x) := by
  have hn : n ≤ 128 := by have := (theoryErr_zero he).2.1; omega
  have hl' : ∀ x ∈ l.map (fun x => -x), litValid x n = true := by
    intro x hx
    obtain ⟨y, hy, rfl⟩ := List.mem_map.1 hx
    exact valid_neg (hl y hy)
  have key : ∀ k, (l.any (holdsB (assign k n).1 (assign k n).2) = false ↔ (l.map fun x => -x).all (holdsB (assign k n).1 (assign k n).2) = true) := by
    intro k
    rw [List.any_eq_false, List.all_eq_true]
    constructor
    · intro h x hx
      obtain ⟨y, hy, rfl⟩ := List.mem_map.1 hx
      have := h y hy
      rw [holds_assign hn (hl y hy)] at this
      rw [holds_assign hn (hl' _ hx), trueL_neg (by have := hl y hy; rw [litValid_iff] at this; omega)]
      simpa using this
    · intro h y hy
      have := h (-y) (List.mem_map.2 ⟨y, hy, rfl⟩)
      rw [holds_assign hn (valid_neg (hl y hy)), trueL_neg (by have := hl y hy; rw [litValid_iff] at this; omega)] at this
      rw [holds_assign hn (hl y hy)]
      simpa using this
  unfold entailsB satB least
  rw [Bool.eq_iff_iff, List.all_eq_true]
  simp only [Bool.not_eq_true', Option.isSome_eq_false_iff, Option.isNone_iff_eq_none, List.find?_eq_none]
  constructor
  · intro h s hs
    have h1 := h s hs
    obtain ⟨hs', hp⟩ := List.mem_filter.1 hs
    obtain ⟨k, _, rfl⟩ := List.mem_map.1 hs'
    intro h2
    rw [← key k] at h2
    rw [h2] at h1; cases h1
  · intro h s hs
    have h1 := h s hs
    obtain ⟨hs', hp⟩ := List.mem_filter.1 hs
    obtain ⟨k, _, rfl⟩ := List.mem_map.1 hs'
    cases h2 : l.any (holdsB (assign k n).1 (assign k n).2)
    · rw [key k] at h2; exact absurd h2 h1
    · rfl
end Go.Proofs.Ytnhlfhoeglnajaa
