/- The reference of the chapter on search: Solve, Core and Entails return what the plain definitions say, and old memory stays. -/
import Derived.Test.YtagohmpbbbkdjaaRef14
namespace Go.Proofs.Ytagohmpbbbkdjaa
set_option linter.unusedSimpArgs false
set_option linter.unusedVariables false
open Go.RowKit

theorem searchErr_zero {n : Int} {ll : List (List Int)} {l : List Int} (h : searchErr n ll l = 0) : theoryErr n ll = 0 ∧ ∀ x ∈ l, litValid x n = true := by
  unfold searchErr at h
  split at h
  · rename_i h0
    split at h
    · rename_i h1; rw [List.all_eq_true] at h1; exact ⟨h0, h1⟩
    · cases h
  · rename_i h0; exact absurd h h0
/-- A theory and a list, and the world in which the theory has been boxed. -/
theorem box_theory {n : Int} {lv av : Value} {ll : List (List Int)} {l : List Int} {w : World} (hR : RowsAt w lv ll) (hl : IntsAt w av l) (t : TypeId) :
    ∃ wa : World, wa = w.alloc (.cells #[.int .i64 n, lv] t) ∧ Ex w wa ∧ RowsAt wa lv ll ∧ IntsAt wa av l ∧ BoxT wa w.heap.size n lv :=
  ⟨_, rfl, Ex.alloc _ _, hR.ex (Ex.alloc _ _), hl.ex (Ex.alloc _ _), ⟨by simp, by simp⟩⟩

/-- The same with a set for the result. -/
theorem box_theory_set {n : Int} {lv av : Value} {ll : List (List Int)} {l : List Int} {w : World} (hR : RowsAt w lv ll) (hl : IntsAt w av l) (t t' : TypeId) :
    ∃ wa : World, wa = (w.alloc (.cells #[.int .i64 n, lv] t)).alloc (.cells #[.int .u64 0, .int .u64 0] t') ∧ Ex w wa ∧ RowsAt wa lv ll ∧ IntsAt wa av l ∧ BoxT wa w.heap.size n lv ∧
      OwnB wa (w.heap.size + 1) [.int .u64 0, .int .u64 0] t' := by
  have hx : Ex w ((w.alloc (.cells #[.int .i64 n, lv] t)).alloc (.cells #[.int .u64 0, .int .u64 0] t')) := (Ex.alloc _ _).alloc' _
  refine ⟨_, rfl, hx, hR.ex hx, hl.ex hx, ⟨by simp, by simp⟩, ?_⟩
  have := OwnB.new (w.alloc (.cells #[.int .i64 n, lv] t)) [.int .u64 0, .int .u64 0] t'
  rwa [World.size_alloc] at this

set_option maxHeartbeats 1000000 in
theorem r14Solve_bad (n : Int) (lv av : Value) (ll : List (List Int)) (l : List Int) (w : World) (hR : RowsAt w lv ll) (hl : IntsAt w av l) (hs : searchErr n ll l ≠ 0) :
    Calls Try.prog 13 #[.agg #[.int .i64 n, lv], av] w fun e w' => e = .returned (.tuple #[setV 0 0, .bool false, .int .i64 (searchErr n ll l)]) ∧ Ex w w' := by
  unfold setV
  have hs' : (searchErr n ll l != 0) = true := by simp [hs]
  have HC : Hid (∀ wa (hRa : RowsAt wa lv ll) (hIa : IntsAt wa av l), _) := fun wa hRa hIa => r14check_any n lv av ll l wa hRa hIa
  have HB : Hid _ := box_theory_set (n := n) hR hl 24 30
  obtain ⟨a, cap, rfl, _, _, _⟩ := hR
  obtain ⟨a', cap', rfl, _, _, _⟩ := hl
  clear hs
  generalize searchErr n ll l = sE at *
  go_enter Try.func13, Try.ntmps13
  go_wp2_with fail
  obtain ⟨wa, hwa, hxa, hRa, hIa, hT, hO⟩ := HB.out
  rw [← hwa]; clear HB hwa
  refine (HC.out _ hRa hIa).mono ?_
  rintro e w2 ⟨rfl, hx2⟩
  clear HC
  replace hO := hO.ex hx2
  replace hxa := hxa.trans hx2
  have s0 : w2.cell? ⟨w.heap.size + 1, 0, none⟩ = some (.int .u64 0) := hO.cell 0
  have s1 : w2.cell? ⟨w.heap.size + 1, 1, none⟩ = some (.int .u64 0) := hO.cell 1
  have f0 := hO.free 0
  have f1 := hO.free 1
  clear hx2 hRa hIa hT hO
  go_wp2
  refine bodyPost_ret (v := .tuple #[.agg #[.int .u64 0, .int .u64 0], .bool false, .int .i64 sE]) (by simp [results, Try.results13, go_sem, s0, s1]) rfl ⟨rfl, ?_⟩
  refine Ex.setCell (Ex.setCell hxa ?_ _) ?_ _ <;> exact Nat.le_succ _
set_option maxHeartbeats 1000000 in
theorem r14Solve_ok (n : Nat) (lv av : Value) (ll : List (List Int)) (l : List Int) (w : World) (hR : RowsAt w lv ll) (hl : IntsAt w av l) (hs : searchErr n ll l = 0) (hn : n ≤ 12) :
    Calls Try.prog 13 #[.agg #[.int .i64 n, lv], av] w fun e w' => e = .returned (.tuple #[setV ((least n ll l).getD (0, 0)).1 ((least n ll l).getD (0, 0)).2, .bool (least n ll l).isSome, .int .i64 0]) ∧ Ex w w' := by
  unfold setV
  obtain ⟨he, _⟩ := searchErr_zero hs
  have HC : Hid (∀ wa (hRa : RowsAt wa lv ll) (hIa : IntsAt wa av l), _) := fun wa hRa hIa => r14check_any n lv av ll l wa hRa hIa
  have HM : Hid (∀ wa (hRa : RowsAt wa lv ll), _) := fun wa hRa => r05Models_any n lv ll wa hRa he hn
  have HU : Hid (∀ (wa : World) (mv : Value) (hm : SetsAt wa mv (modelsL n ll)) (hIa : IntsAt wa av l), Calls Try.prog 25 #[mv, av] wa fun e w' => e = .returned (.tuple #[setV ((least n ll l).getD (0, 0)).1 ((least n ll l).getD (0, 0)).2, .bool (least n ll l).isSome]) ∧ Ex wa w') := fun wa mv hm hIa => r14under_any _ mv av l wa hm hIa
  have HB : Hid _ := box_theory_set (n := n) hR hl 24 30
  obtain ⟨a, cap, rfl, _, _, _⟩ := hR
  obtain ⟨a', cap', rfl, _, _, _⟩ := hl
  rw [hs] at HC
  clear hs he
  generalize least n ll l = F at *
  generalize modelsL n ll = M at *
  go_enter Try.func13, Try.ntmps13
  go_wp2_with fail
  obtain ⟨wa, hwa, hxa, hRa, hIa, hT, hO⟩ := HB.out
  rw [← hwa]; clear HB hwa
  refine (HC.out _ hRa hIa).mono ?_
  rintro e w2 ⟨rfl, hx2⟩
  clear HC
  replace hO := hO.ex hx2
  replace hT := hT.ex hx2
  replace hRa := hRa.ex hx2
  replace hIa := hIa.ex hx2
  replace hxa := hxa.trans hx2
  clear hx2
  have c0 := hT.1
  have c1 := hT.2
  go_wp2_with fail
  refine (HM.out _ hRa).mono ?_
  rintro e w3 ⟨mv, rfl, hm, hx2⟩
  clear HM c0 c1
  replace hO := hO.ex hx2
  replace hIa := hIa.ex hx2
  replace hxa := hxa.trans hx2
  clear hx2 hRa hT
  go_wp2_with fail
  refine (HU.out _ _ hm hIa).mono ?_
  rintro e w4 ⟨rfl, hx2⟩
  clear HU hm hIa
  replace hO := hO.ex hx2
  replace hxa := hxa.trans hx2
  have s0 : w4.cell? ⟨w.heap.size + 1, 0, none⟩ = some (.int .u64 0) := hO.cell 0
  have s1 : w4.cell? ⟨w.heap.size + 1, 1, none⟩ = some (.int .u64 0) := hO.cell 1
  have f0 := hO.free 0
  have f1 := hO.free 1
  have hlt := hO.lt
  clear hx2 hO
  go_wp2
  refine bodyPost_ret (v := .tuple #[.agg #[.int .u64 (F.getD (0, 0)).1, .int .u64 (F.getD (0, 0)).2], .bool F.isSome, .int .i64 0]) (by simp [results, Try.results13, go_sem, s0, s1, hlt]) rfl ⟨rfl, ?_⟩
  refine Ex.alloc' (Ex.setCell (Ex.setCell hxa ?_ _) ?_ _) _ <;> exact Nat.le_succ _
theorem entails_no {n : Nat} {ll : List (List Int)} {l : List Int} {k : Nat} (hk : k < (modelsL n ll).length) (h : l.any (holdsB ((modelsL n ll).getD k (0, 0)).1 ((modelsL n ll).getD k (0, 0)).2) = false) : entailsB n ll l = false := by
  unfold entailsB
  generalize modelsL n ll = M at *
  exact not_all_of_getD (d := (0, 0)) hk h
theorem entails_yes {n : Nat} {ll : List (List Int)} {l : List Int} (h : ∀ k, k < (modelsL n ll).length → l.any (holdsB ((modelsL n ll).getD k (0, 0)).1 ((modelsL n ll).getD k (0, 0)).2) = true) : entailsB n ll l = true := by
  unfold entailsB
  generalize modelsL n ll = M at *
  exact all_of_getD (d := (0, 0)) h
set_option maxHeartbeats 1000000 in
theorem r14Entails_bad (n : Int) (lv av : Value) (ll : List (List Int)) (l : List Int) (w : World) (hR : RowsAt w lv ll) (hl : IntsAt w av l) (hs : searchErr n ll l ≠ 0) :
    Calls Try.prog 18 #[.agg #[.int .i64 n, lv], av] w fun e w' => e = .returned (.tuple #[.bool false, .int .i64 (searchErr n ll l)]) ∧ Ex w w' := by
  have hs' : (searchErr n ll l != 0) = true := by simp [hs]
  have HC : Hid (∀ wa (hRa : RowsAt wa lv ll) (hIa : IntsAt wa av l), _) := fun wa hRa hIa => r14check_any n lv av ll l wa hRa hIa
  have HB : Hid _ := box_theory (n := n) hR hl 24
  obtain ⟨a, cap, rfl, _, _, _⟩ := hR
  obtain ⟨a', cap', rfl, _, _, _⟩ := hl
  clear hs
  generalize searchErr n ll l = sE at *
  go_enter Try.func18, Try.ntmps18
  go_wp2_with fail
  obtain ⟨wa, hwa, hxa, hRa, hIa, hT⟩ := HB.out
  rw [← hwa]; clear HB hwa
  refine (HC.out _ hRa hIa).mono ?_
  rintro e w2 ⟨rfl, hx2⟩
  go_wp2
  go_ret2
  exact ⟨rfl, hxa.trans hx2⟩
set_option maxHeartbeats 1000000 in
theorem r14Entails_ok (n : Nat) (lv av : Value) (ll : List (List Int)) (l : List Int) (w : World) (hR : RowsAt w lv ll) (hl : IntsAt w av l) (hs : searchErr n ll l = 0) (hn : n ≤ 12) :
    Calls Try.prog 18 #[.agg #[.int .i64 n, lv], av] w fun e w' => e = .returned (.tuple #[.bool (entailsB n ll l), .int .i64 0]) ∧ Ex w w' := by
  obtain ⟨he, _⟩ := searchErr_zero hs
  have HC : Hid (∀ wa (hRa : RowsAt wa lv ll) (hIa : IntsAt wa av l), _) := fun wa hRa hIa => r14check_any n lv av ll l wa hRa hIa
  have HM : Hid (∀ wa (hRa : RowsAt wa lv ll), _) := fun wa hRa => r05Models_any n lv ll wa hRa he hn
  have HB : Hid _ := box_theory (n := n) hR hl 24
  have HE1 : Hid (∀ k, k < (modelsL n ll).length → l.any (holdsB ((modelsL n ll).getD k (0, 0)).1 ((modelsL n ll).getD k (0, 0)).2) = false → entailsB n ll l = false) := fun k hk h => entails_no hk h
  have HE2 : Hid ((∀ k, k < (modelsL n ll).length → l.any (holdsB ((modelsL n ll).getD k (0, 0)).1 ((modelsL n ll).getD k (0, 0)).2) = true) → entailsB n ll l = true) := fun h => entails_yes h
  obtain ⟨a, cap, rfl, _, _, _⟩ := hR
  obtain ⟨a', cap', rfl, _, _, _⟩ := hl
  rw [hs] at HC
  clear hs he
  generalize entailsB n ll l = E at *
  generalize modelsL n ll = M at *
  go_enter Try.func18, Try.ntmps18
  go_wp2_with fail
  obtain ⟨wa, hwa, hxa, hRa, hIa, hT⟩ := HB.out
  rw [← hwa]; clear HB hwa
  refine (HC.out _ hRa hIa).mono ?_
  rintro e w2 ⟨rfl, hx2⟩
  clear HC
  replace hT := hT.ex hx2
  replace hRa := hRa.ex hx2
  replace hIa := hIa.ex hx2
  replace hxa := hxa.trans hx2
  clear hx2
  have c0 := hT.1
  have c1 := hT.2
  go_wp2_with fail
  refine (HM.out _ hRa).mono ?_
  rintro e w3 ⟨mv, rfl, hm, hx2⟩
  clear HM c0 c1
  replace hIa := hIa.ex hx2
  replace hxa := hxa.trans hx2
  clear hx2 hRa hT
  have hm0 := hm
  obtain ⟨ma, mc, rfl, m1, m2, m3⟩ := hm
  unfold maxLen at m2
  clear m3
  go_wp2_with fail
  go_loopw [8] (fun i wr => ∃ k : Nat, k ≤ M.length ∧ i = .int .i64 k ∧ Hid (∀ j, j < k → l.any (holdsB (M.getD j (0, 0)).1 (M.getD j (0, 0)).2) = true) ∧ Ex w3 wr) (fun i _ => M.length - (intOf i).toNat)
  case atStart => exact ⟨0, Nat.zero_le _, rfl, fun j hj => by omega, Ex.refl _⟩
  case round =>
    obtain ⟨k, hk, rfl, hd, hxr⟩ := hrel
    by_cases hlt : k < M.length
    · have hmr := hm0.ex hxr
      obtain ⟨_, _, hv, _, _, h3⟩ := hmr
      cases hv
      obtain ⟨b, off, rfl, hb, hc0, hc1⟩ := h3 k hlt
      have hIr := hIa.ex hxr
      have hF1 : Hid (l.any (holdsB (M.getD k (0, 0)).1 (M.getD k (0, 0)).2) = true → ∀ j, j < k + 1 → l.any (holdsB (M.getD j (0, 0)).1 (M.getD j (0, 0)).2) = true) := fun h j hj => by
        by_cases hjm : j = k
        · subst hjm; exact h
        · exact hd.out j (by omega)
      have hF2 : Hid (l.any (holdsB (M.getD k (0, 0)).1 (M.getD k (0, 0)).2) = false → E = false) := HE1.out k hlt
      clear h3 hd
      generalize M.getD k (0, 0) = st at *
      go_wp2_with fail
      refine (r04Any_any _ _ _ _ _ hIr).mono ?_
      rintro e w4 ⟨rfl, hx2⟩
      clear hc0 hc1
      generalize l.any (holdsB st.1 st.2) = ok at *
      cases ok
      · have hF3 : Hid (E = false) := hF2.out rfl
        clear hF1 hF2
        have e1 := hF3.out
        subst e1
        clear HE1 HE2 hF3
        go_wp2
        go_ret2
        exact ⟨rfl, hxa.trans (hxr.trans hx2)⟩
      · have hF3 : Hid (∀ j, j < k + 1 → l.any (holdsB (M.getD j (0, 0)).1 (M.getD j (0, 0)).2) = true) := hF1.out rfl
        clear hF1 hF2
        go_wp2
        go_roundw
        case rel => exact ⟨k + 1, by omega, by go_num, hF3, hxr.trans hx2⟩
        case measure => simp [intOf] <;> omega
    · have hF : Hid (E = true) := by
        exact HE2.out fun j hj => hd.out j (by omega)
      have e1 := hF.out
      subst e1
      clear hd HE1 HE2 hF
      go_wp2
      go_ret2
      exact ⟨rfl, hxa.trans hxr⟩
/-- What Core hands back: a list in new memory (nil where there is none), whether there is one, the error. -/
def CoreRet (w : World) (L : List Int) (b : Bool) (er : Int) (e : Ending) (w' : World) : Prop :=
  ∃ v, e = .returned (.tuple #[v, .bool b, .int .i64 er]) ∧ OwnI w' w.heap.size v L ∧ Ex w w'
set_option maxHeartbeats 1000000 in
theorem r14Core_bad (n : Int) (lv av : Value) (ll : List (List Int)) (l : List Int) (w : World) (hR : RowsAt w lv ll) (hl : IntsAt w av l) (hs : searchErr n ll l ≠ 0) :
    Calls Try.prog 15 #[.agg #[.int .i64 n, lv], av] w (CoreRet w [] false (searchErr n ll l)) := by
  have hs' : (searchErr n ll l != 0) = true := by simp [hs]
  have HC : Hid (∀ wa (hRa : RowsAt wa lv ll) (hIa : IntsAt wa av l), _) := fun wa hRa hIa => r14check_any n lv av ll l wa hRa hIa
  have HB : Hid _ := box_theory (n := n) hR hl 24
  obtain ⟨a, cap, rfl, _, _, _⟩ := hR
  obtain ⟨a', cap', rfl, _, _, _⟩ := hl
  clear hs
  generalize searchErr n ll l = sE at *
  go_enter Try.func15, Try.ntmps15
  go_wp2_with fail
  obtain ⟨wa, hwa, hxa, hRa, hIa, hT⟩ := HB.out
  rw [← hwa]; clear HB hwa
  refine (HC.out _ hRa hIa).mono ?_
  rintro e w2 ⟨rfl, hx2⟩
  go_wp2
  go_ret3
  exact ⟨_, rfl, OwnI.nil _ _, hxa.trans hx2⟩
set_option maxHeartbeats 2000000 in
theorem r14Core_ok (n : Nat) (lv av : Value) (ll : List (List Int)) (l : List Int) (w : World) (hR : RowsAt w lv ll) (hl : IntsAt w av l) (hs : searchErr n ll l = 0) (hn : n ≤ 12) (hb : l.length * 8 ≤ 140737488355328) :
    Calls Try.prog 15 #[.agg #[.int .i64 n, lv], av] w (CoreRet w (if satB n ll l then [] else coreL n ll l) (!satB n ll l) 0) := by
  obtain ⟨he, _⟩ := searchErr_zero hs
  have HC : Hid (∀ wa (hRa : RowsAt wa lv ll) (hIa : IntsAt wa av l), _) := fun wa hRa hIa => r14check_any n lv av ll l wa hRa hIa
  have HM : Hid (∀ wa (hRa : RowsAt wa lv ll), _) := fun wa hRa => r05Models_any n lv ll wa hRa he hn
  have HU : Hid (∀ (wa : World) (mv : Value) (sv : Value) (q : List Int) (hm : SetsAt wa mv (modelsL n ll)) (hIa : IntsAt wa sv q), Calls Try.prog 25 #[mv, sv] wa fun e w' => e = .returned (.tuple #[setV ((least n ll q).getD (0, 0)).1 ((least n ll q).getD (0, 0)).2, .bool (satB n ll q)]) ∧ Ex wa w') := fun wa mv sv q hm hIa => r14under_any _ mv sv q wa hm hIa
  have HB : Hid _ := box_theory (n := n) hR hl 24
  obtain ⟨a, cap, rfl, _, _, _⟩ := hR
  obtain ⟨a', cap', rfl, g1, g2, _⟩ := hl
  unfold maxLen at g2
  rw [hs] at HC
  have hco : Hid (coreL n ll l = coreF (satB n ll) l.length l 0) := rfl
  clear hs he
  obtain ⟨res, hRes0⟩ : ∃ res, res = (if satB n ll l then [] else coreL n ll l) := ⟨_, rfl⟩
  rw [← hRes0]
  have hRes : Hid _ := hRes0
  clear hRes0
  generalize coreL n ll l = core at *
  generalize satB n ll = sat at *
  generalize modelsL n ll = M at *
  go_enter Try.func15, Try.ntmps15
  go_wp2_with fail
  obtain ⟨wa, hwa, hxa, hRa, hIa, hT⟩ := HB.out
  rw [← hwa]; clear HB hwa
  refine (HC.out _ hRa hIa).mono ?_
  rintro e w2 ⟨rfl, hx2⟩
  clear HC
  replace hT := hT.ex hx2
  replace hRa := hRa.ex hx2
  replace hIa := hIa.ex hx2
  replace hxa := hxa.trans hx2
  clear hx2
  have c0 := hT.1
  have c1 := hT.2
  go_wp2_with fail
  refine (HM.out _ hRa).mono ?_
  rintro e w3 ⟨mv, rfl, hm, hx2⟩
  clear HM c0 c1
  replace hIa := hIa.ex hx2
  replace hxa := hxa.trans hx2
  clear hx2 hRa hT
  go_wp2_with fail
  refine (HU.out _ _ _ _ hm hIa).mono ?_
  rintro e w4 ⟨rfl, hx2⟩
  replace hIa := hIa.ex hx2
  replace hm := hm.ex hx2
  replace hxa := hxa.trans hx2
  clear hx2
  have hsz := hxa.size
  generalize hst : sat l = st at *
  cases st
  · clear hst
    have hr : res = core := hRes.out
    subst hr
    clear hRes
    go_wp2_with (at_builtin; refine wpList_append_ints rfl (.tmp 30) (.tmp 31) rfl rfl rfl (OwnI.empty' (base := w.heap.size) (by simp) (by omega)) (hIa.ex ((Ex.alloc _ _).alloc' _)) ?c1 ?c2 ?_)
    case c1 => simpa using hb
    case c2 => simp; omega
    intro v' w5 hown hg
    have hx5 : Ex w4 w5 := grown_ex ((Ex.alloc _ _).alloc' _) hg (by intro k hk; cases hk; show _ ≤ w4.heap.size + 1; omega)
    replace hm := hm.ex hx5
    replace hxa := hxa.trans hx5
    clear hg hx5 hIa hsz
    have hown2 : OwnI w5 w.heap.size v' l := hown
    clear hown
    go_wp2_with fail
    go_loopw [11, 12] (fun v i wr => ∃ (k : Nat) (lc : List Int), k ≤ lc.length ∧ lc.length ≤ l.length ∧ i = .int .i64 k ∧ Hid (res = coreF sat (lc.length - k) lc k) ∧ OwnI wr w.heap.size v lc ∧ SetsAt wr mv M ∧ Ex w wr) (fun v i _ => (match v with | .slice _ n _ => n | _ => 0) - (intOf i).toNat)
    case atStart => exact ⟨0, l, Nat.zero_le _, Nat.le_refl _, rfl, hco, hown2, hm, hxa⟩
    case round =>
      obtain ⟨k, lc, hk, hlc, rfl, hF, ho, hmr, hxr⟩ := hrel
      have hIc := ho.ints
      obtain ⟨la, lcap, rfl, q1, q2, q3⟩ := hIc
      unfold maxLen at q2
      clear q3
      by_cases hlt : k < lc.length
      · have hF1 : Hid (sat (lc.eraseIdx k) = true → res = coreF sat (lc.length - (k + 1)) lc (k + 1)) := fun h => by rw [hF.out]; exact coreF_yes hlt h
        have hF2 : Hid (sat (lc.eraseIdx k) = false → res = coreF sat ((lc.eraseIdx k).length - k) (lc.eraseIdx k) k) := fun h => by rw [hF.out]; exact coreF_no hlt h
        have hle : Hid ((lc.eraseIdx k).length = lc.length - 1) := List.length_eraseIdx_of_lt hlt
        clear hF
        go_wp2_with fail
        refine (r14without_any _ lc k _ ho.ints hlt (by omega)).mono ?_
        rintro e w6 ⟨v2, rfl, ho2, hx6⟩
        have HU2 := HU.out _ _ _ _ (hmr.ex hx6) ho2.ints
        have HU3 : Hid _ := HU2
        clear HU2
        go_wp2_with fail
        refine Calls.mono HU3.out ?_
        rintro e w7 ⟨rfl, hx7⟩
        clear HU3
        have hx67 := hx6.trans hx7
        replace ho := ho.ex hx67
        replace hmr := hmr.ex hx67
        replace hxr := hxr.trans hx67
        clear hx6 hx7 ho2
        generalize sat (lc.eraseIdx k) = st at *
        cases st
        · have hF3 : Hid (res = coreF sat ((lc.eraseIdx k).length - k) (lc.eraseIdx k) k) := hF2.out rfl
          clear hF1 hF2
          go_wp2_with fail
          have hxs := Ex.alloc w7 (.cells #[.int .u64 ((least n ll (lc.eraseIdx k)).getD (0, 0)).1, .int .u64 ((least n ll (lc.eraseIdx k)).getD (0, 0)).2] 30)
          refine (r14without_any _ lc k _ (ho.ex hxs).ints hlt (by omega)).mono ?_
          rintro e w8 ⟨v3, rfl, ho3, hx8⟩
          have hx78 := hxs.trans hx8
          replace hmr := hmr.ex hx78
          have ho4 : OwnI w8 w.heap.size v3 (lc.eraseIdx k) := ho3.base (Nat.le_trans hxr.size hxs.size)
          replace hxr := hxr.trans hx78
          clear ho hxs hx8 hx78 ho3
          obtain ⟨sa, scap, rfl, _, _, _⟩ := ho4.ints
          go_wp2
          go_roundw
          case rel => exact ⟨k, _, by have := hle.out; omega, by have := hle.out; omega, rfl, hF3, ho4, hmr, hxr⟩
          case measure => have := hle.out; simp [intOf]; omega
        · have hF3 : Hid (res = coreF sat (lc.length - (k + 1)) lc (k + 1)) := hF1.out rfl
          clear hF1 hF2
          go_wp2
          go_roundw
          case rel => exact ⟨k + 1, lc, by omega, by omega, by go_num, hF3, ho.alloc _, hmr.ex (Ex.alloc _ _), hxr.alloc' _⟩
          case measure => simp [intOf]; omega
      · have hF3 : res = lc := by rw [hF.out]; exact coreF_end hlt
        subst hF3
        clear hF hco
        go_wp2
        go_ret3
        exact ⟨_, rfl, ho, hxr⟩
  · clear hst
    have hr : res = [] := hRes.out
    subst hr
    clear hRes
    go_wp2
    go_ret3
    exact ⟨_, rfl, OwnI.nil _ _, hxa.alloc' _⟩
end Go.Proofs.Ytagohmpbbbkdjaa
