/- The laws that do without the document: SearchRefutes, SearchOwn, SearchMinimal: the walks. No condition. -/
import Derived.Test.YtagohmpbbbkdjaaLaw3
import Derived.Test.YtagohmpbbbkdjaaMin
namespace Go.Proofs.Ytagohmpbbbkdjaa
set_option linter.unusedSimpArgs false
set_option linter.unusedVariables false
open Go.RowKit

theorem searchErr_ok {n : Int} {ll : List (List Int)} {l : List Int} (he : theoryErr n ll = 0) (hl : ∀ x ∈ l, litValid x n = true) : searchErr n ll l = 0 := by
  unfold searchErr
  rw [if_pos he, if_pos (List.all_eq_true.2 hl)]
theorem intsAt_fresh (w : World) (x : Int) (t : TypeId) : IntsAt (w.alloc (.cells #[.int .i64 x] t)) (.slice (some ⟨w.heap.size, 0, none⟩) 1 1) [x] :=
  intsAt_of_block (l := [x]) (OwnB.new w [.int .i64 x] t) (by show 1 ≤ maxLen; decide)
set_option maxHeartbeats 2000000 in
theorem SearchRefutes_any (n : Int) (lv av : Value) (ll : List (List Int)) (l : List Int) (w : World) (hR : RowsAt w lv ll) (hl : IntsAt w av l) :
    Calls Try.prog 7 #[.agg #[.int .i64 n, lv], av] w fun e w' => e = .returned (.bool true) ∧ Ex w w' := by
  have HF : Hid (∀ wa (hRa : RowsAt wa lv ll) (hIa : IntsAt wa av l), Calls Try.prog 19 #[.agg #[.int .i64 n, lv], av] wa (Yes wa (FewOk n ll l))) := fun wa hRa hIa => few14_any n lv av ll l wa hRa hIa
  have HB : Hid _ := box_theory (n := n) hR hl 24
  have HK : Hid (FewOk n ll l → l.length ≤ 30 ∧ (∀ j, j < l.length → -128 ≤ l.getD j 0 ∧ l.getD j 0 ≤ 128) ∧ ∃ s : Bool,
      (∀ wa (hRa : RowsAt wa lv ll) (hIa : IntsAt wa av l), Calls Try.prog 17 #[.agg #[.int .i64 n, lv], av] wa fun e w' => e = .returned (.tuple #[.bool (!s), .int .i64 0]) ∧ Ex wa w') ∧
      ∃ x y : Nat, ∀ wa sv (hRa : RowsAt wa lv ll) (hIa : IntsAt wa sv (l.map fun x => -x)), Calls Try.prog 12 #[.agg #[.int .i64 n, lv], sv] wa fun e w' => e = .returned (.tuple #[.agg #[.int .u64 x, .int .u64 y], .bool s, .int .i64 0]) ∧ Ex wa w') := fun h => by
    obtain ⟨h1, h2, he, hv⟩ := h
    obtain ⟨k, rfl⟩ := nat_of_ok he
    refine ⟨h1, fun j hj => ?_, satB k ll (l.map fun x => -x), fun wa hRa hIa => ?_, _, _, fun wa sv hRa hIa => Solve_ok k lv sv ll _ wa hRa hIa (searchErr_ok he fun x hx => ?_)⟩
    · have := hv _ (show l.getD j 0 ∈ l by rw [getD_getElem hj]; exact List.getElem_mem hj)
      rw [litValid_iff] at this; omega
    · rw [← entails_sat he hv]
      exact Entails_ok k lv av ll l wa hRa hIa (searchErr_ok he hv) (by omega)
    · obtain ⟨y, hy, rfl⟩ := List.mem_map.1 hx
      exact valid_neg (hv y hy)
  obtain ⟨a, cap, rfl, _, _, _⟩ := hR
  obtain ⟨a', cap', rfl, g3, g4, _⟩ := hl
  unfold maxLen at g4
  go_enter Try.func7, Try.ntmps7
  go_wp2_with fail
  obtain ⟨wa, hwa, hxa, hRa, hIa, hT⟩ := HB.out
  rw [← hwa]; clear HB hwa
  refine (HF.out _ hRa hIa).mono ?_
  rintro e w2 ⟨b, rfl, hb, hx2⟩
  have Hb : Hid (b = true → FewOk n ll l) := hb
  clear hb HF
  replace hT := hT.ex hx2
  replace hRa := hRa.ex hx2
  replace hIa := hIa.ex hx2
  replace hxa := hxa.trans hx2
  clear hx2
  cases b
  · go_wp2_with (refine (works14_any _).mono ?_; rintro e w' ⟨rfl, hx2⟩)
    go_ret
    exact ⟨rfl, hxa.trans hx2⟩
  · obtain ⟨h30, hlv, s, hE, x, y, hS⟩ := HK.out (Hb.out rfl)
    clear HK Hb
    have HE : Hid (∀ wa (hRa : RowsAt wa (.slice a ll.length cap) ll) (hIa : IntsAt wa (.slice a' l.length cap') l), _) := hE
    have HS : Hid (∀ wa sv (hRa : RowsAt wa (.slice a ll.length cap) ll) (hIa : IntsAt wa sv (l.map fun x => -x)), _) := hS
    have HV : Hid (∀ j, j < l.length → -128 ≤ l.getD j 0 ∧ l.getD j 0 ≤ 128) := hlv
    clear hE hS hlv
    go_wp2_with fail
    go_loopw [5, 6] (fun v i wr => ∃ j : Nat, j ≤ l.length ∧ i = .int .i64 j ∧ OwnI wr w2.heap.size v ((l.take j).map fun x => -x) ∧ Ex w2 wr) (fun v i _ => l.length - (intOf i).toNat)
    case atStart => exact ⟨0, Nat.zero_le _, rfl, OwnI.nil _ _, Ex.refl _⟩
    case round =>
      obtain ⟨j, hj, rfl, hO, hxr⟩ := hrel
      by_cases hlt : j < l.length
      · obtain ⟨_, _, hv, _, _, h3⟩ := hIa.ex hxr
        cases hv
        obtain ⟨b, off, rfl, hb, hc⟩ := h3 j hlt
        clear h3
        obtain ⟨r1, r2⟩ := HV.out j hlt
        have hL : Hid ((l.take j).map (fun x => -x) ++ [-(l.getD j 0)] = (l.take (j + 1)).map fun x => -x) := by
          show _ = _
          rw [List.take_succ_eq_append_getElem hlt, List.map_append, getD_getElem hlt]; rfl
        have hlen : Hid (((l.take j).map (fun x => -x)).length = j) := by show _ = _; rw [List.length_map, List.length_take]; omega
        generalize (l.take j).map (fun x => -x) = L at *
        generalize l.getD j 0 = q at *
        obtain ⟨L', hL'⟩ : ∃ L', L' = (l.take (j + 1)).map (fun x => -x) := ⟨_, rfl⟩
        rw [← hL'] at hL
        have HL' : Hid _ := hL'
        clear hL'
        have hsr := hxr.size
        have hI1 := intsAt_fresh wr (-q) 3
        go_wp2_with (at_builtin; refine wpList_append_ints rfl (.tmp 23) (.tmp 29) rfl rfl rfl (hO.ex (Ex.alloc _ _)) hI1 ?c1 ?c2 ?_)
        case c1 => rw [hlen.out]; simp only [List.length_cons, List.length_nil]; omega
        case c2 => exact Nat.le_trans hsr (by show _ ≤ (wr.heap.push _).size; simp)
        intro v' w5 hown hg
        rw [hL.out] at hown
        have hx5 : Ex w2 w5 := grown_ex (hxr.alloc' _) hg (ownsRow_block hO)
        clear hg hO hL hlen
        go_wp2
        go_roundw
        case rel => exact ⟨j + 1, by omega, by go_num, HL'.out ▸ hown, hx5⟩
        case measure => simp [intOf]; omega
      · obtain rfl : j = l.length := by omega
        rw [List.take_length] at hO
        have hI := hO.ints
        have hTr := hT.ex hxr
        have c0 := hTr.c0
        have c1 := hTr.c1
        clear hO
        go_wp2_with fail
        refine (HE.out _ (hRa.ex hxr) (hIa.ex hxr)).mono ?_
        rintro e w3 ⟨rfl, hx2⟩
        have c0 := ex_cell c0 hx2
        have c1 := ex_cell c1 hx2
        have hRb := (hRa.ex hxr).ex hx2
        replace hI := hI.ex hx2
        replace hxa := (hxa.trans hxr).trans hx2
        clear hxr hx2 hT hTr hRa hIa
        go_wp2_with fail
        refine (HS.out _ _ hRb hI).mono ?_
        rintro e w4 ⟨rfl, hx2⟩
        replace hxa := hxa.trans hx2
        clear hx2 c0 c1 hI hRb HE HS HV
        cases s
        · go_wp2_with (refine (works14_any _).mono ?_; rintro e w' ⟨rfl, hx2⟩)
          go_ret
          exact ⟨rfl, (hxa.alloc' _).trans hx2⟩
        · go_wp2_with (refine (works14_any _).mono ?_; rintro e w' ⟨rfl, hx2⟩)
          go_ret
          exact ⟨rfl, (hxa.alloc' _).trans hx2⟩
/-- A slice of integers whose block is the call's own: from 'base' on, below 'top'. -/
def Mine (w : World) (base top : Nat) (p : Option Addr) (n : Nat) : Prop := 0 < n → ∃ g cs, p = some ⟨g, 0, none⟩ ∧ base ≤ g ∧ g < top ∧ OwnB w g cs 3 ∧ n ≤ cs.length
theorem Mine.of_own {w : World} {base cap : Nat} {p : Option Addr} {l : List Int} (h : OwnI w base (.slice p l.length cap) l) : Mine w base w.heap.size p l.length := fun hl => by
  obtain ⟨g, cap', rest, hv, hb, hO, hn, _⟩ := h.form hl
  cases hv
  exact ⟨g, _, rfl, hb, hO.lt, hO, by simp [intsV]⟩
theorem Mine.ex {w w' : World} {base top n : Nat} {p : Option Addr} (h : Mine w base top p n) (hx : Ex w w') : Mine w' base top p n := fun hn => by
  obtain ⟨g, cs, h1, h2, h3, h4, h5⟩ := h hn
  exact ⟨g, cs, h1, h2, h3, h4.ex hx, h5⟩
theorem Mine.set {w : World} {base top n g j : Nat} (h : Mine w base top (some ⟨g, 0, none⟩) n) (v : Value) : Mine (w.setCell ⟨g, j, none⟩ v) base top (some ⟨g, 0, none⟩) n := fun hn => by
  obtain ⟨g', cs, h1, h2, h3, h4, h5⟩ := h hn
  cases h1
  exact ⟨g, _, rfl, h2, h3, h4.set j v, by rw [List.length_set]; exact h5⟩
theorem few_core {n : Int} {ll : List (List Int)} {l : List Int} (h : FewOk n ll l) : ∃ (L : List Int) (s : Bool), L.length ≤ 30 ∧ l.length ≤ 30 ∧ ∀ (lv av : Value) (w : World), RowsAt w lv ll → IntsAt w av l →
    Calls Try.prog 14 #[.agg #[.int .i64 n, lv], av] w (CoreRet w L s 0) := by
  obtain ⟨h1, h2, he, hv⟩ := h
  obtain ⟨k, rfl⟩ := nat_of_ok he
  refine ⟨_, _, ?_, h1, fun lv av w hR hl => Core_ok k lv av ll l w hR hl (searchErr_ok he hv) (by omega)⟩
  split
  · exact Nat.zero_le _
  · exact Nat.le_trans (core_sublist k ll l).length_le h1
set_option maxHeartbeats 2000000 in
theorem SearchOwn_any (n : Int) (lv av : Value) (ll : List (List Int)) (l : List Int) (w : World) (hR : RowsAt w lv ll) (hl : IntsAt w av l) :
    Calls Try.prog 8 #[.agg #[.int .i64 n, lv], av] w fun e w' => e = .returned (.bool true) ∧ Ex w w' := by
  have HF : Hid (∀ wa (hRa : RowsAt wa lv ll) (hIa : IntsAt wa av l), Calls Try.prog 19 #[.agg #[.int .i64 n, lv], av] wa (Yes wa (FewOk n ll l))) := fun wa hRa hIa => few14_any n lv av ll l wa hRa hIa
  have HB : Hid _ := box_theory (n := n) hR hl 24
  have HK : Hid (FewOk n ll l → _) := fun h => few_core h
  obtain ⟨a, cap, rfl, _, _, _⟩ := hR
  obtain ⟨a', cap', rfl, g3, g4, _⟩ := hl
  unfold maxLen at g4
  go_enter Try.func8, Try.ntmps8
  go_wp2_with fail
  obtain ⟨wa, hwa, hxa, hRa, hIa, hT⟩ := HB.out
  rw [← hwa]; clear HB hwa
  refine (HF.out _ hRa hIa).mono ?_
  rintro e w2 ⟨b, rfl, hb, hx2⟩
  have Hb : Hid (b = true → FewOk n ll l) := hb
  clear hb HF
  replace hT := hT.ex hx2
  replace hRa := hRa.ex hx2
  replace hIa := hIa.ex hx2
  replace hxa := hxa.trans hx2
  clear hx2
  cases b
  · go_wp2_with (refine (works14_any _).mono ?_; rintro e w' ⟨rfl, hx2⟩)
    go_ret
    exact ⟨rfl, hxa.trans hx2⟩
  · obtain ⟨L, s, hL, h30, hC⟩ := HK.out (Hb.out rfl)
    clear HK Hb
    have HC : Hid _ := hC
    clear hC
    have HQ : Hid (∀ (wa : World) (u v : Value) (m : List Int) (h1 : IntsAt wa u m) (h2 : IntsAt wa v m), Calls Try.prog 16 #[u, v] wa fun e w' => e = .returned (.bool true) ∧ Ex wa w') := fun wa u v m h1 h2 => by
      have := r06SameInts_any u v m m wa h1 h2
      rwa [decide_eq_true rfl] at this
    go_wp2_with (at_builtin; refine wpList_append_ints rfl (.tmp 19) (.tmp 20) rfl rfl rfl (OwnI.empty' (base := w2.heap.size) rfl (Nat.le_refl _)) (hIa.ex (Ex.alloc _ _)) ?c1 ?c2 ?_)
    case c1 => simp only [List.length_nil]; omega
    case c2 => simp
    intro vw w3 hown hg
    have hx3 : Ex w2 w3 := grown_ex (Ex.alloc _ _) hg (by intro k hk; cases hk; exact Nat.le_refl _)
    have hwas : IntsAt w3 vw l := hown.ints
    have hT3 := hT.ex hx3
    have hR3 := hRa.ex hx3
    have hI3 := hIa.ex hx3
    have hx03 := hxa.trans hx3
    clear hT hRa hIa hxa hg hown hx3
    have c0 := hT3.c0
    have c1 := hT3.c1
    go_wp2_with fail
    refine (HC.out _ _ _ hR3 hI3).mono ?_
    rintro e w4 ⟨lc, rfl, hlc, hx4⟩
    have hs34 := hx4.size
    clear c0 c1
    go_wp2_with (at_builtin; refine wpList_append_ints rfl (.tmp 29) (.tmp 30) rfl rfl rfl (OwnI.empty' (base := w4.heap.size) rfl (Nat.le_refl _)) (hlc.ints.ex (Ex.alloc _ _)) ?c1 ?c2 ?_)
    case c1 => simp only [List.length_nil]; omega
    case c2 => simp
    intro vn w5 hown hg
    have hx5 : Ex w4 w5 := grown_ex (Ex.alloc _ _) hg (by intro k hk; cases hk; exact Nat.le_refl _)
    have hw5 : OwnI w5 w4.heap.size vn L := hown
    have hlcI := hlc.ints
    obtain ⟨p1, q1, rfl, _, _, _⟩ := hlcI
    have hM := (Mine.of_own hlc).ex hx5
    have hx45 : Ex w3 w5 := hx4.trans hx5
    clear hown hg hlc
    go_wp2_with fail
    go_loopw [10] (fun i wr => ∃ j : Nat, j ≤ L.length ∧ i = .int .i64 j ∧ Ex w3 wr ∧ OwnI wr w4.heap.size vn L ∧ Mine wr w3.heap.size w4.heap.size p1 L.length) (fun i _ => L.length - (intOf i).toNat)
    case atStart => exact ⟨0, Nat.zero_le _, rfl, hx45, hw5, hM⟩
    case round =>
      obtain ⟨j, hj, rfl, hxr, hO, hMr⟩ := hrel
      by_cases hlt : j < L.length
      · have hMr0 := hMr
        obtain ⟨g, cs, rfl, hg1, hg2, hB, hn⟩ := hMr (by omega)
        have hc : wr.cell? ⟨g, j, none⟩ = some (cs.getD j (.int .i64 0)) := by
          rw [hB.cell, List.getD_eq_getElem?_getD, List.getElem?_eq_getElem (by omega)]; rfl
        have hf := hB.free j
        have hM2 := hMr0.set (j := j) (.int .i64 0)
        have hO2 := hO.setOther hg2 j (.int .i64 0)
        have hx2 := hxr.setCell (p := ⟨g, j, none⟩) hg1 (.int .i64 0)
        generalize cs.getD j (.int .i64 0) = old at *
        clear hB hO hMr hMr0 hxr hn
        go_wp2
        go_roundw
        case rel => exact ⟨j + 1, by omega, by go_num, hx2, hO2, hM2⟩
        case measure => simp [intOf]; omega
      · obtain rfl : j = L.length := by omega
        have hT5 := hT3.ex hxr
        have hI5 := hI3.ex hxr
        have c0 := hT5.c0
        have c1 := hT5.c1
        go_wp2_with fail
        refine (HC.out _ _ _ (hR3.ex hxr) hI5).mono ?_
        rintro e w6 ⟨lm, rfl, hlm, hx6⟩
        have hlmI := hlm.ints
        have hwas6 := (hwas.ex hxr).ex hx6
        have hI6 := hI5.ex hx6
        have hwant := hO.ints.ex hx6
        have hx06 := (hx03.trans hxr).trans hx6
        clear hlm hx6 c0 c1 hO hMr hxr hT5 hI5 hT3 hI3 hR3 HC hM hx45 hw5 hx03 hx5 hwas
        go_wp2_with fail
        refine (HQ.out _ _ _ _ hI6 hwas6).mono ?_
        rintro e w7 ⟨rfl, hx7⟩
        go_wp2_with fail
        refine (HQ.out _ _ _ _ (hlmI.ex hx7) (hwant.ex hx7)).mono ?_
        rintro e w8 ⟨rfl, hx8⟩
        go_wp2_with (refine (works14_any _).mono ?_; rintro e w' ⟨rfl, hx9⟩)
        go_ret
        exact ⟨rfl, ((hx06.trans hx7).trans hx8).trans hx9⟩
/-- Under q, Solve finds a model, or not, without an error. -/
def SolveIs (n : Int) (ll : List (List Int)) (q : List Int) (b : Bool) : Prop := ∃ x y : Nat, ∀ (lv sv : Value) (w : World), RowsAt w lv ll → IntsAt w sv q →
  Calls Try.prog 12 #[.agg #[.int .i64 n, lv], sv] w fun e w' => e = .returned (.tuple #[.agg #[.int .u64 x, .int .u64 y], .bool b, .int .i64 0]) ∧ Ex w w'
theorem few_solve {k : Nat} {ll : List (List Int)} {q : List Int} (he : theoryErr k ll = 0) (hq : ∀ x ∈ q, litValid x k = true) : SolveIs k ll q (satB k ll q) :=
  ⟨_, _, fun lv sv w hR hl => Solve_ok k lv sv ll q w hR hl (searchErr_ok he hq)⟩
theorem few_min {n : Int} {ll : List (List Int)} {l : List Int} (h : FewOk n ll l) : l.length ≤ 30 ∧
    ((SolveIs n ll l true ∧ ∀ (lv av : Value) (w : World), RowsAt w lv ll → IntsAt w av l → Calls Try.prog 14 #[.agg #[.int .i64 n, lv], av] w (CoreRet w [] false 0)) ∨
     (SolveIs n ll l false ∧ ∃ C : List Int, C.Sublist l ∧ SolveIs n ll C false ∧ SolveIs n ll [] (!decide ((C.length : Int) = 0)) ∧ (∀ j, j < C.length → SolveIs n ll (C.eraseIdx j) true) ∧
        ∀ (lv av : Value) (w : World), RowsAt w lv ll → IntsAt w av l → Calls Try.prog 14 #[.agg #[.int .i64 n, lv], av] w (CoreRet w C true 0))) := by
  obtain ⟨h1, h2, he, hv⟩ := h
  obtain ⟨k, rfl⟩ := nat_of_ok he
  have hc : ∀ (lv av : Value) (w : World), RowsAt w lv ll → IntsAt w av l → _ := fun lv av w hR hl => Core_ok k lv av ll l w hR hl (searchErr_ok he hv) (by omega)
  have hs := few_solve he hv
  refine ⟨h1, ?_⟩
  cases hsat : satB k ll l with
  | true =>
    rw [hsat] at hs
    simp only [hsat, if_true, Bool.not_true] at hc
    exact .inl ⟨hs, hc⟩
  | false =>
    rw [hsat] at hs
    simp only [hsat, if_false, Bool.not_false, Bool.false_eq_true] at hc
    have hCv : ∀ x ∈ coreL k ll l, litValid x k = true := fun x hx => hv x ((core_sublist k ll l).subset hx)
    refine .inr ⟨hs, coreL k ll l, core_sublist k ll l, ?_, ?_, fun j hj => ?_, hc⟩
    · have := few_solve he hCv
      rwa [core_unsat hsat] at this
    · have := few_solve (q := []) he (fun x hx => by cases hx)
      rw [core_any hsat] at this
      have e : decide ((coreL k ll l).length = 0) = decide (((coreL k ll l).length : Int) = 0) := by
        rw [decide_eq_decide]; omega
      rwa [e] at this
    · have := few_solve he (fun x hx => hCv x ((List.eraseIdx_sublist _ j).subset hx))
      rwa [core_min k ll l hj] at this
set_option maxHeartbeats 4000000 in
theorem SearchMinimal_any (n : Int) (lv av : Value) (ll : List (List Int)) (l : List Int) (w : World) (hR : RowsAt w lv ll) (hl : IntsAt w av l) :
    Calls Try.prog 6 #[.agg #[.int .i64 n, lv], av] w fun e w' => e = .returned (.bool true) ∧ Ex w w' := by
  have HF : Hid (∀ wa (hRa : RowsAt wa lv ll) (hIa : IntsAt wa av l), Calls Try.prog 19 #[.agg #[.int .i64 n, lv], av] wa (Yes wa (FewOk n ll l))) := fun wa hRa hIa => few14_any n lv av ll l wa hRa hIa
  have HB : Hid _ := box_theory (n := n) hR hl 24
  have HK : Hid (FewOk n ll l → _) := fun h => few_min h
  obtain ⟨a, cap, rfl, _, _, _⟩ := hR
  obtain ⟨a', cap', rfl, g3, g4, _⟩ := hl
  unfold maxLen at g4
  go_enter Try.func6, Try.ntmps6
  go_wp2_with fail
  obtain ⟨wa, hwa, hxa, hRa, hIa, hT⟩ := HB.out
  rw [← hwa]; clear HB hwa
  refine (HF.out _ hRa hIa).mono ?_
  rintro e w2 ⟨b, rfl, hb, hx2⟩
  have Hb : Hid (b = true → FewOk n ll l) := hb
  clear hb HF
  replace hT := hT.ex hx2
  replace hRa := hRa.ex hx2
  replace hIa := hIa.ex hx2
  replace hxa := hxa.trans hx2
  clear hx2
  cases b
  · go_wp2_with (refine (works14_any _).mono ?_; rintro e w' ⟨rfl, hx2⟩)
    go_ret
    exact ⟨rfl, hxa.trans hx2⟩
  · have c0 := hT.c0
    have c1 := hT.c1
    obtain ⟨h30, hK⟩ := HK.out (Hb.out rfl)
    clear HK Hb
    rcases hK with ⟨⟨x, y, hS⟩, hC⟩ | ⟨⟨x, y, hS⟩, C, hsub, ⟨x1, y1, hS1⟩, ⟨x2, y2, hS2⟩, hS3, hC⟩
    · have HS : Hid _ := hS
      have HC : Hid _ := hC
      clear hS hC
      go_wp2_with fail
      refine (HC.out _ _ _ hRa hIa).mono ?_
      rintro e w3 ⟨lc, rfl, hlc, hx3⟩
      obtain ⟨p1, q1, rfl, _, _, _⟩ := hlc.ints
      have c0 := ex_cell c0 hx3
      have c1 := ex_cell c1 hx3
      go_wp2_with fail
      refine (HS.out _ _ _ (hRa.ex hx3) (hIa.ex hx3)).mono ?_
      rintro e w4 ⟨rfl, hx4⟩
      clear hlc c0 c1 HS HC
      go_wp2_with (refine (works14_any _).mono ?_; rintro e w' ⟨rfl, hx5⟩)
      go_ret
      exact ⟨rfl, (((hxa.trans hx3).trans hx4).alloc' _).trans hx5⟩
    · have HS : Hid _ := hS
      have HC : Hid _ := hC
      have HS1 : Hid _ := hS1
      have HS2 : Hid _ := hS2
      have HS3 : Hid (∀ j, j < C.length → SolveIs n ll (C.eraseIdx j) true) := hS3
      have Hsub : Hid (List.Sublist C l) := hsub
      have hC30 := Nat.le_trans hsub.length_le h30
      clear hS hC hS1 hS2 hS3 hsub
      go_wp2_with fail
      refine (HC.out _ _ _ hRa hIa).mono ?_
      rintro e w3 ⟨lc, rfl, hlc, hx3⟩
      have hIc := hlc.ints
      obtain ⟨p1, q1, rfl, gc1, gc2, _⟩ := hIc
      have hIc := hlc.ints
      unfold maxLen at gc2
      replace hT := hT.ex hx3
      replace hRa := hRa.ex hx3
      replace hIa := hIa.ex hx3
      replace hxa := hxa.trans hx3
      clear hlc hx3 c0 c1 HC
      have c0 := hT.c0
      have c1 := hT.c1
      go_wp2_with fail
      refine (HS.out _ _ _ hRa hIa).mono ?_
      rintro e w4 ⟨rfl, hx4⟩
      replace hT := hT.ex hx4
      replace hRa := hRa.ex hx4
      replace hIa := hIa.ex hx4
      replace hIc := hIc.ex hx4
      replace hxa := hxa.trans hx4
      clear hx4 c0 c1 HS
      have c0 := hT.c0
      have c1 := hT.c1
      have hb0 : w.heap.size < w4.heap.size := cell_lt c0
      have hxs := Ex.alloc w4 (.cells #[.int .u64 x, .int .u64 y] 30)
      go_wp2_with fail
      refine (HS1.out _ _ _ (hRa.ex hxs) (hIc.ex hxs)).mono ?_
      rintro e w5 ⟨rfl, hx5⟩
      replace hx5 := hxs.trans hx5
      replace hT := hT.ex hx5
      replace hRa := hRa.ex hx5
      replace hIa := hIa.ex hx5
      replace hIc := hIc.ex hx5
      replace hxa := hxa.trans hx5
      clear hx5 c0 c1 HS1 hxs hb0
      have c0 := hT.c0
      have c1 := hT.c1
      have hb0 : w.heap.size < w5.heap.size := cell_lt c0
      have hxs := Ex.alloc w5 (.cells #[.int .u64 x1, .int .u64 y1] 30)
      go_wp2_with fail
      refine (HS2.out _ _ _ (hRa.ex hxs) (IntsAt.nil _)).mono ?_
      rintro e w6 ⟨rfl, hx6⟩
      replace hx6 := hxs.trans hx6
      replace hT := hT.ex hx6
      replace hRa := hRa.ex hx6
      replace hIa := hIa.ex hx6
      replace hIc := hIc.ex hx6
      replace hxa := hxa.trans hx6
      clear hx6 c0 c1 HS2 hxs hb0
      have hneq : ((!decide (C = [])) == ((C.length : Int) == 0)) = false := by
        cases C <;> simp
        omega
      have hw7 := Ex.alloc w6 (.cells #[.int .u64 x2, .int .u64 y2] 30)
      go_wp2_with fail
      generalize w6.alloc (.cells #[.int .u64 x2, .int .u64 y2] 30) = w7 at *
      replace hT := hT.ex hw7
      replace hRa := hRa.ex hw7
      replace hIa := hIa.ex hw7
      replace hIc := hIc.ex hw7
      replace hxa := hxa.trans hw7
      clear hw7 hneq
      generalize (!decide (C = [])) = bb
      go_loopw [17, 18] (fun u i wr => ∃ k j : Nat, k ≤ C.length ∧ j ≤ l.length ∧ u = .int .i64 k ∧ i = .int .i64 j ∧ Hid (List.Sublist (C.drop k) (l.drop j)) ∧ Ex w7 wr) (fun u i _ => l.length - (intOf i).toNat)
      case atStart => exact ⟨0, 0, Nat.zero_le _, Nat.zero_le _, rfl, rfl, Hsub.out, Ex.refl _⟩
      case round =>
        obtain ⟨k, j, hk, hj, rfl, rfl, hS, hxr⟩ := hrel
        by_cases hcont : j < l.length ∧ k < C.length
        · obtain ⟨hlt, hkt⟩ := hcont
          obtain ⟨_, _, hv, _, _, h3⟩ := hIa.ex hxr
          cases hv
          obtain ⟨b, off, rfl, hb, hc⟩ := h3 j hlt
          obtain ⟨_, _, hv, _, _, h4⟩ := hIc.ex hxr
          cases hv
          obtain ⟨b', off', rfl, hb', hc'⟩ := h4 k hkt
          clear h3 h4
          have q1 : (j : Int) < (l.length : Int) := by omega
          have q2 : (k : Int) < (C.length : Int) := by omega
          by_cases he : l.getD j 0 = C.getD k 0
          · have hS2 : Hid (List.Sublist (C.drop (k + 1)) (l.drop (j + 1))) := greedy_yes hkt hlt hS.out he
            have he' : (l.getD j 0 == C.getD k 0) = true := by simp only [beq_iff_eq]; exact he
            clear hS he
            generalize l.getD j 0 = q at *
            generalize C.getD k 0 = q' at *
            have hcx := ext_cell hc
            have gcx := ext_cell hc'
            go_wp2
            refine wp_region_quiet_ext (by kernel_rfl) (by kernel_rfl) ?_
            repeat (go_big_quiet_step ((fail)))
            refine wpQuiet_nil ?_
            intro w8 hx8
            go_wp2
            go_roundw
            case rel => exact ⟨k + 1, j + 1, by omega, by omega, by go_num, by go_num, hS2, hxr.trans hx8⟩
            case measure => simp [intOf]; omega
          · have hS2 : Hid (List.Sublist (C.drop k) (l.drop (j + 1))) := greedy_no hkt hlt hS.out he
            have he' : (l.getD j 0 == C.getD k 0) = false := by simp only [beq_eq_false_iff_ne]; exact he
            clear hS he
            generalize l.getD j 0 = q at *
            generalize C.getD k 0 = q' at *
            have hcx := ext_cell hc
            have gcx := ext_cell hc'
            go_wp2
            refine wp_region_quiet_ext (by kernel_rfl) (by kernel_rfl) ?_
            repeat (go_big_quiet_step ((fail)))
            refine wpQuiet_nil ?_
            intro w8 hx8
            go_wp2
            go_roundw
            case rel => exact ⟨k, j + 1, by omega, by omega, rfl, by go_num, hS2, hxr.trans hx8⟩
            case measure => simp [intOf]; omega
        · have hkC : k = C.length := by
            by_cases h : j < l.length
            · omega
            · exact greedy_end hk h hS.out
          subst hkC
          clear hS
          have hT8 := hT.ex hxr
          have hR8 := hRa.ex hxr
          have hI8 := hIc.ex hxr
          have hx8 := hxa.trans hxr
          clear hT hRa hIa hIc hxa hxr Hsub hcont
          by_cases hlt : j < l.length
          all_goals
            go_wp2_with fail
            obtain ⟨wk, rfl⟩ : ∃ wo : World, wo = wr := ⟨_, rfl⟩
            go_loopw [19] (fun i wr => ∃ m : Nat, m ≤ C.length ∧ i = .int .i64 m ∧ Ex wk wr) (fun i _ => C.length - (intOf i).toNat)
            case atStart => exact ⟨0, Nat.zero_le _, rfl, Ex.refl _⟩
            case round =>
              obtain ⟨m, hm, rfl, hxm⟩ := hrel
              by_cases hmt : m < C.length
              · have hIm := hI8.ex hxm
                have hTm := hT8.ex hxm
                have hRm := hR8.ex hxm
                have b1 : (m : Int) + 1 ≤ C.length := by omega
                have b2 : (m : Int) ≤ q1 := by omega
                have b3 : (0 : Int) ≤ m := by omega
                have b4 : IntKind.i64.wrap ((m : Int) + 1) = (m : Int) + 1 := IntWalk.i64_in _ (by omega)
                have b5 : (0 : Int) ≤ (m : Int) + 1 := by omega
                have b6 : ((m : Int) + 1).toNat = m + 1 := by omega
                have hd0 := hIm.drop (i := m + 1) (by omega)
                have ht0 := hIm.take (i := m) (by omega)
                have L1 : Hid ((C.take m).length = m) := List.length_take_of_le (by omega)
                have L2 : Hid ((C.drop (m + 1)).length = C.length - (m + 1)) := List.length_drop
                have hfin : Hid (C.eraseIdx m = C.take m ++ C.drop (m + 1)) := eraseIdx_pieces
                obtain ⟨_, _, hv, _, _, h4⟩ := hI8.ex hxm
                cases hv
                obtain ⟨b', off', rfl, _, _⟩ := h4 m hmt
                clear h4
                obtain ⟨xx, yy, hSm⟩ := HS3.out m hmt
                have HSm : Hid _ := hSm
                clear hSm
                generalize C.eraseIdx m = le at *
                go_wp2_with fail
                go_region_held3 (fun _ => True) (trivial) (first | (refine step_append_ints (by rfl) (.tmp 112) (.tmp 115) (by rfl) (by rfl) (by rfl) ((OwnI.empty (Nat.le_refl _)).ex (Ex.refl _).drew) (ht0.ex ((Ex.alloc _ _).drew)) (by rw [L1.out]; simp only [List.length_nil]; omega) (by simp) ?_; intro v1 w1 hown1 hg1; have hx1 : Ex wr w1 := grown_ex ((Ex.alloc _ _).drew) hg1 (by intro k hk; cases hk; exact Nat.le_refl _); rw [List.nil_append] at hown1) | (refine step_append_ints (by rfl) (.tmp 116) (.tmp 120) (by rfl) (by rfl) (by rfl) hown1 (hd0.ex hx1) (by rw [L1.out, L2.out]; omega) hx1.size ?_; intro v2 w2 hown2 hg2; have hx2 : Ex wr w2 := grown_ex hx1 hg2 (ownsRow_block hown1)))
                have hI2 := hown2.ints
                rw [← hfin.out] at hI2
                have c0 := (hTm.ex hx2).c0
                have c1 := (hTm.ex hx2).c1
                go_wp2_with fail
                all_goals
                  refine (HSm.out _ _ _ (hRm.ex hx2) hI2).mono ?_
                  rintro e w3 ⟨rfl, hx3⟩
                  go_wp2
                  try subst h
                  go_roundw
                  case rel => exact ⟨m + 1, by omega, by go_num, (((hxm.trans hx2).trans hx3).alloc' _)⟩
                  case measure => simp [intOf]; omega
              · obtain rfl : m = C.length := by omega
                clear hT8 hR8 hI8
                go_wp2_with (refine (works14_any _).mono ?_; rintro e w' ⟨rfl, hx9⟩)
                go_ret
                exact ⟨rfl, (hx8.trans hxm).trans hx9⟩
end Go.Proofs.Ytagohmpbbbkdjaa
