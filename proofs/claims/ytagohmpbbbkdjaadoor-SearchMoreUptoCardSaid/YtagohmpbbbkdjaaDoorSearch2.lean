/- The exported functions Solve, Core and Entails: what they return; old memory stays. -/
import Derived.Test.YtagohmpbbbkdjaaDoorSolve
namespace Go.Proofs.YtagohmpbbbkdjaaDoor
set_option linter.unusedSimpArgs false
set_option linter.unusedVariables false
open Go.RowKit
set_option maxRecDepth 20000

set_option maxHeartbeats 1000000 in
theorem Solve_bad (n : Int) (lv av : Value) (ll : List (List Int)) (l : List Int) (w : World) (hR : RowsAt w lv ll) (hl : IntsAt w av l) (hs : searchErr n ll l ≠ 0) :
    Calls Tryd.prog 7 #[.agg #[.int .i64 n, lv], av] w fun e w' => e = .returned (.tuple #[setV 0 0, .bool false, .int .i64 (searchErr n ll l)]) ∧ Ex w w' := by
  unfold setV
  have hs' : (searchErr n ll l != 0) = true := by simp [hs]
  have HC : Hid (∀ wa (hRa : RowsAt wa lv ll) (hIa : IntsAt wa av l), _) := fun wa hRa hIa => searchCheck_any n lv av ll l wa hRa hIa
  have HB : Hid _ := box_theory_set (n := n) hR hl 24 30
  obtain ⟨a, cap, rfl, _, _, _⟩ := hR
  obtain ⟨a', cap', rfl, _, _, _⟩ := hl
  clear hs
  generalize searchErr n ll l = sE at *
  go_enter Tryd.func7, Tryd.ntmps7
  go_wp2_with fail
  obtain ⟨wa, hwa, hxa, hRa, hIa, hT, hO⟩ := HB.out
  rw [← hwa]; clear HB hwa
  refine (HC.out _ hRa hIa).mono ?_
  rintro e w2 ⟨rfl, hx2⟩
  clear HC
  replace hO := hO.ex hx2
  replace hxa := hxa.trans hx2
  have s0 : w2.cell? ⟨w.heap.size + 1, 0, none⟩ = some (.int .u64 0) := hO.cell 0
  have s1 : w2.cell? ⟨w.heap.size + 1, 1, none⟩ = some (.int .u64 0) := hO.cell 1
  have f0 := hO.free 0
  have f1 := hO.free 1
  clear hx2 hRa hIa hT hO
  go_wp2
  refine bodyPost_ret (v := .tuple #[.agg #[.int .u64 0, .int .u64 0], .bool false, .int .i64 sE]) (by simp [results, Tryd.results7, go_sem, s0, s1]) rfl ⟨rfl, ?_⟩
  refine Ex.setCell (Ex.setCell hxa ?_ _) ?_ _ <;> exact Nat.le_succ _
set_option maxHeartbeats 1000000 in
theorem Solve_ok (n : Nat) (lv av : Value) (ll : List (List Int)) (l : List Int) (w : World) (hR : RowsAt w lv ll) (hl : IntsAt w av l) (hs : searchErr n ll l = 0) :
    Calls Tryd.prog 7 #[.agg #[.int .i64 n, lv], av] w fun e w' => e = .returned (.tuple #[setV ((least n ll l).getD (0, 0)).1 ((least n ll l).getD (0, 0)).2, .bool (least n ll l).isSome, .int .i64 0]) ∧ Ex w w' := by
  unfold setV
  obtain ⟨he, hlv⟩ := searchErr_zero hs
  have HC : Hid (∀ wa (hRa : RowsAt wa lv ll) (hIa : IntsAt wa av l), _) := fun wa hRa hIa => searchCheck_any n lv av ll l wa hRa hIa
  have HM : Hid (∀ wa (hRa : RowsAt wa lv ll) (hIa : IntsAt wa av l), _) := fun wa hRa hIa => solve_any n lv av ll l wa hRa hIa he hlv
  have HB : Hid _ := box_theory_set (n := n) hR hl 24 30
  obtain ⟨a, cap, rfl, _, _, _⟩ := hR
  obtain ⟨a', cap', rfl, _, _, _⟩ := hl
  rw [hs] at HC
  clear hs he hlv
  generalize least n ll l = F at *
  go_enter Tryd.func7, Tryd.ntmps7
  go_wp2_with fail
  obtain ⟨wa, hwa, hxa, hRa, hIa, hT, hO⟩ := HB.out
  rw [← hwa]; clear HB hwa
  refine (HC.out _ hRa hIa).mono ?_
  rintro e w2 ⟨rfl, hx2⟩
  clear HC
  replace hO := hO.ex hx2
  replace hT := hT.ex hx2
  replace hRa := hRa.ex hx2
  replace hIa := hIa.ex hx2
  replace hxa := hxa.trans hx2
  clear hx2
  have c0 := hT.1
  have c1 := hT.2
  go_wp2_with fail
  refine (HM.out _ hRa hIa).mono ?_
  rintro e w4 ⟨rfl, hx2⟩
  clear HM c0 c1
  replace hO := hO.ex hx2
  replace hxa := hxa.trans hx2
  have s0 : w4.cell? ⟨w.heap.size + 1, 0, none⟩ = some (.int .u64 0) := hO.cell 0
  have s1 : w4.cell? ⟨w.heap.size + 1, 1, none⟩ = some (.int .u64 0) := hO.cell 1
  have f0 := hO.free 0
  have f1 := hO.free 1
  have hlt := hO.lt
  clear hx2 hO hRa hIa hT
  go_wp2
  refine bodyPost_ret (v := .tuple #[.agg #[.int .u64 (F.getD (0, 0)).1, .int .u64 (F.getD (0, 0)).2], .bool F.isSome, .int .i64 0]) (by simp [results, Tryd.results7, go_sem, s0, s1, hlt]) rfl ⟨rfl, ?_⟩
  refine Ex.alloc' (Ex.setCell (Ex.setCell hxa ?_ _) ?_ _) _ <;> exact Nat.le_succ _
theorem trueL_neg {α : Nat → Bool} {x : Int} (hx : x ≠ 0) : trueL α (-x) = !trueL α x := by
  unfold trueL
  rw [Int.natAbs_neg]
  by_cases h : x < 0
  · rw [if_neg (by omega), if_pos h]; simp
  · rw [if_pos (by omega), if_neg h]
theorem valid_neg {x n : Int} (h : litValid x n = true) : litValid (-x) n = true := by rw [litValid_iff] at *; omega
theorem entails_sat {n : Nat} {ll : List (List Int)} {l : List Int} (he : theoryErr n ll = 0) (hl : ∀ x ∈ l, litValid x n = true) : entailsB n ll l = !satB n ll (l.map fun x => -x) := by
  have hn : n ≤ 128 := by have := (theoryErr_zero he).2.1; omega
  have hl' : ∀ x ∈ l.map (fun x => -x), litValid x n = true := by
    intro x hx
    obtain ⟨y, hy, rfl⟩ := List.mem_map.1 hx
    exact valid_neg (hl y hy)
  have key : ∀ k, (l.any (holdsB (assign k n).1 (assign k n).2) = false ↔ (l.map fun x => -x).all (holdsB (assign k n).1 (assign k n).2) = true) := by
    intro k
    rw [List.any_eq_false, List.all_eq_true]
    constructor
    · intro h x hx
      obtain ⟨y, hy, rfl⟩ := List.mem_map.1 hx
      have := h y hy
      rw [holds_assign hn (hl y hy)] at this
      rw [holds_assign hn (hl' _ hx), trueL_neg (by have := hl y hy; rw [litValid_iff] at this; omega)]
      simpa using this
    · intro h y hy
      have := h (-y) (List.mem_map.2 ⟨y, hy, rfl⟩)
      rw [holds_assign hn (valid_neg (hl y hy)), trueL_neg (by have := hl y hy; rw [litValid_iff] at this; omega)] at this
      rw [holds_assign hn (hl y hy)]
      simpa using this
  unfold entailsB satB least
  rw [Bool.eq_iff_iff, List.all_eq_true]
  simp only [Bool.not_eq_true', Option.isSome_eq_false_iff, Option.isNone_iff_eq_none, List.find?_eq_none]
  constructor
  · intro h s hs
    have h1 := h s hs
    obtain ⟨hs', hp⟩ := List.mem_filter.1 hs
    obtain ⟨k, _, rfl⟩ := List.mem_map.1 hs'
    intro h2
    rw [← key k] at h2
    rw [h2] at h1; cases h1
  · intro h s hs
    have h1 := h s hs
    obtain ⟨hs', hp⟩ := List.mem_filter.1 hs
    obtain ⟨k, _, rfl⟩ := List.mem_map.1 hs'
    cases h2 : l.any (holdsB (assign k n).1 (assign k n).2)
    · rw [key k] at h2; exact absurd h2 h1
    · rfl
set_option maxHeartbeats 1000000 in
theorem Core_bad (n : Int) (lv av : Value) (ll : List (List Int)) (l : List Int) (w : World) (hR : RowsAt w lv ll) (hl : IntsAt w av l) (hs : searchErr n ll l ≠ 0) :
    Calls Tryd.prog 16 #[.agg #[.int .i64 n, lv], av] w (CoreRet w [] false (searchErr n ll l)) := by
  have hs' : (searchErr n ll l != 0) = true := by simp [hs]
  have HC : Hid (∀ wa (hRa : RowsAt wa lv ll) (hIa : IntsAt wa av l), _) := fun wa hRa hIa => searchCheck_any n lv av ll l wa hRa hIa
  have HB : Hid _ := box_theory (n := n) hR hl 24
  obtain ⟨a, cap, rfl, _, _, _⟩ := hR
  obtain ⟨a', cap', rfl, _, _, _⟩ := hl
  clear hs
  generalize searchErr n ll l = sE at *
  go_enter Tryd.func16, Tryd.ntmps16
  go_wp2_with fail
  obtain ⟨wa, hwa, hxa, hRa, hIa, hT⟩ := HB.out
  rw [← hwa]; clear HB hwa
  refine (HC.out _ hRa hIa).mono ?_
  rintro e w2 ⟨rfl, hx2⟩
  go_wp2
  go_ret3
  exact ⟨_, rfl, OwnI.nil _ _, hxa.trans hx2⟩
set_option maxHeartbeats 2000000 in
theorem Core_ok (n : Nat) (lv av : Value) (ll : List (List Int)) (l : List Int) (w : World) (hR : RowsAt w lv ll) (hl : IntsAt w av l) (hs : searchErr n ll l = 0) (hb : l.length * 8 ≤ 140737488355328) :
    Calls Tryd.prog 16 #[.agg #[.int .i64 n, lv], av] w (CoreRet w (if satB n ll l then [] else coreL n ll l) (!satB n ll l) 0) := by
  obtain ⟨he, hlv⟩ := searchErr_zero hs
  have HC : Hid (∀ wa (hRa : RowsAt wa lv ll) (hIa : IntsAt wa av l), _) := fun wa hRa hIa => searchCheck_any n lv av ll l wa hRa hIa
  have HM : Hid (∀ wa sv q (hRa : RowsAt wa lv ll) (hIa : IntsAt wa sv q) (hq : ∀ x ∈ q, litValid x n = true), Calls Tryd.prog 20 #[.agg #[.int .i64 n, lv], sv] wa fun e w' => e = .returned (.tuple #[setV ((least n ll q).getD (0, 0)).1 ((least n ll q).getD (0, 0)).2, .bool (satB n ll q)]) ∧ Ex wa w') := fun wa sv q hRa hIa hq => solve_any n lv sv ll q wa hRa hIa he hq
  have HL : Hid (∀ x ∈ l, litValid x n = true) := hlv
  have HB : Hid _ := box_theory (n := n) hR hl 24
  obtain ⟨a, cap, rfl, _, _, _⟩ := hR
  obtain ⟨a', cap', rfl, g1, g2, _⟩ := hl
  unfold maxLen at g2
  rw [hs] at HC
  have hco : Hid (coreL n ll l = coreF (satB n ll) l.length l 0) := rfl
  clear hs he hlv
  obtain ⟨res, hRes0⟩ : ∃ res, res = (if satB n ll l then [] else coreL n ll l) := ⟨_, rfl⟩
  rw [← hRes0]
  have hRes : Hid _ := hRes0
  clear hRes0
  generalize coreL n ll l = core at *
  generalize satB n ll = sat at *
  go_enter Tryd.func16, Tryd.ntmps16
  go_wp2_with fail
  obtain ⟨wa, hwa, hxa, hRa, hIa, hT⟩ := HB.out
  rw [← hwa]; clear HB hwa
  refine (HC.out _ hRa hIa).mono ?_
  rintro e w2 ⟨rfl, hx2⟩
  clear HC
  replace hT := hT.ex hx2
  replace hRa := hRa.ex hx2
  replace hIa := hIa.ex hx2
  replace hxa := hxa.trans hx2
  clear hx2
  have c0 := hT.1
  have c1 := hT.2
  go_wp2_with fail
  refine (HM.out _ _ _ hRa hIa HL.out).mono ?_
  rintro e w4 ⟨rfl, hx2⟩
  replace hIa := hIa.ex hx2
  replace hRa := hRa.ex hx2
  replace hT := hT.ex hx2
  replace hxa := hxa.trans hx2
  clear hx2 c0 c1
  generalize hst : sat l = st at *
  cases st
  · clear hst
    have hr : res = core := hRes.out
    subst hr
    clear hRes
    go_wp2_with fail
    have hxs := Ex.alloc w4 (.cells #[.int .u64 ((least n ll l).getD (0, 0)).1, .int .u64 ((least n ll l).getD (0, 0)).2] 30)
    refine (slicesClone_any _ l _ (hIa.ex hxs) hb).mono ?_
    rintro e w5 ⟨v5, rfl, hown5, hx5⟩
    have hx45 := hxs.trans hx5
    have hown2 : OwnI w5 w.heap.size v5 l := hown5.base (Nat.le_trans hxa.size hxs.size)
    replace hRa := hRa.ex hx45
    replace hT := hT.ex hx45
    replace hxa := hxa.trans hx45
    clear hown5 hx5 hxs hx45 hIa
    go_wp2_with fail
    go_loopw [10, 11] (fun v i wr => ∃ (k : Nat) (lc : List Int), k ≤ lc.length ∧ lc.length ≤ l.length ∧ i = .int .i64 k ∧ Hid (res = coreF sat (lc.length - k) lc k) ∧ Hid (∀ x ∈ lc, litValid x n = true) ∧ OwnI wr w.heap.size v lc ∧ Ex w5 wr) (fun v i _ => (match v with | .slice _ n _ => n | _ => 0) - (intOf i).toNat)
    case atStart => exact ⟨0, l, Nat.zero_le _, Nat.le_refl _, rfl, hco, HL, hown2, Ex.refl _⟩
    case round =>
      obtain ⟨k, lc, hk, hlc, rfl, hF, hLc, ho, hxr⟩ := hrel
      have hIc := ho.ints
      obtain ⟨la, lcap, rfl, q1, q2, q3⟩ := hIc
      unfold maxLen at q2
      clear q3
      by_cases hlt : k < lc.length
      · have hF1 : Hid (sat (lc.eraseIdx k) = true → res = coreF sat (lc.length - (k + 1)) lc (k + 1)) := fun h => by rw [hF.out]; exact coreF_yes hlt h
        have hF2 : Hid (sat (lc.eraseIdx k) = false → res = coreF sat ((lc.eraseIdx k).length - k) (lc.eraseIdx k) k) := fun h => by rw [hF.out]; exact coreF_no hlt h
        have hle : Hid ((lc.eraseIdx k).length = lc.length - 1) := List.length_eraseIdx_of_lt hlt
        have hLe : Hid (∀ x ∈ lc.eraseIdx k, litValid x n = true) := fun x hx => hLc.out x (List.mem_of_mem_eraseIdx hx)
        clear hF
        go_wp2_with fail
        refine (slicesClone_any _ lc _ ho.ints (by omega)).mono ?_
        rintro e w6 ⟨v6, rfl, ho6, hx6⟩
        go_wp2_with fail
        refine (slicesDelete_any _ _ lc k _ ho6 hlt).mono ?_
        rintro e w7 ⟨v7, g, rfl, hg, ho7, hW⟩
        have hx7 : Ex wr w7 := hW.ex hx6 hg
        have ho7' : OwnI w7 w.heap.size v7 (lc.eraseIdx k) := ho7.base (Nat.le_trans hxa.size hxr.size)
        replace ho := ho.ex hx7
        replace hxr := hxr.trans hx7
        have hRr := hRa.ex hxr
        have hTr := hT.ex hxr
        have c0 := hTr.1
        have c1 := hTr.2
        clear ho6 ho7 hx6 hW hx7
        have HM2 : Hid _ := HM.out w7 v7 (lc.eraseIdx k) hRr ho7'.ints hLe.out
        go_wp2_with fail
        refine Calls.mono HM2.out ?_
        rintro e w8 ⟨rfl, hx8⟩
        clear HM2 c0 c1 hRr hTr
        replace ho := ho.ex hx8
        replace ho7' := ho7'.ex hx8
        replace hxr := hxr.trans hx8
        clear hx8
        generalize sat (lc.eraseIdx k) = st at *
        cases st
        · have hF3 : Hid (res = coreF sat ((lc.eraseIdx k).length - k) (lc.eraseIdx k) k) := hF2.out rfl
          clear hF1 hF2 ho
          have hxs := Ex.alloc w8 (.cells #[.int .u64 ((least n ll (lc.eraseIdx k)).getD (0, 0)).1, .int .u64 ((least n ll (lc.eraseIdx k)).getD (0, 0)).2] 30)
          replace ho7' := ho7'.ex hxs
          replace hxr := hxr.trans hxs
          obtain ⟨sa, scap, rfl, _, _, _⟩ := ho7'.ints
          go_wp2
          go_roundw
          case rel => exact ⟨k, _, by have := hle.out; omega, by have := hle.out; omega, rfl, hF3, hLe, ho7', hxr⟩
          case measure => have := hle.out; simp [intOf]; omega
        · have hF3 : Hid (res = coreF sat (lc.length - (k + 1)) lc (k + 1)) := hF1.out rfl
          clear hF1 hF2 ho7'
          go_wp2
          go_roundw
          case rel => exact ⟨k + 1, lc, by omega, by omega, by go_num, hF3, hLc, ho.alloc _, hxr.alloc' _⟩
          case measure => simp [intOf]; omega
      · have hF3 : res = lc := by rw [hF.out]; exact coreF_end hlt
        subst hF3
        clear hF hco
        go_wp2
        go_ret3
        exact ⟨_, rfl, ho, hxa.trans hxr⟩
  · clear hst
    have hr : res = [] := hRes.out
    subst hr
    clear hRes
    go_wp2
    go_ret3
    exact ⟨_, rfl, OwnI.nil _ _, hxa.alloc' _⟩
end Go.Proofs.YtagohmpbbbkdjaaDoor
