/- The reference of the chapter on search: each Go function returns what the plain definition says, and old memory stays. -/
import Derived.Test.YtagohmpbbbkdjaaModels
namespace Go.Proofs.Ytagohmpbbbkdjaa
set_option linter.unusedSimpArgs false
set_option linter.unusedVariables false
open Go.RowKit

set_option maxHeartbeats 1000000 in
theorem r04Any_any (x y : Nat) (lv : Value) (l : List Int) (w : World) (hl : IntsAt w lv l) :
    Calls Try.prog 30 #[setV x y, lv] w fun e w' => e = .returned (.bool (l.any (holdsB x y))) ∧ Ex w w' := by
  unfold setV
  obtain ⟨a, cap, rfl, h1, h2, h3⟩ := hl
  unfold maxLen at h2
  have hI : IntsAt w (.slice a l.length cap) l := ⟨a, cap, rfl, h1, by unfold maxLen; exact h2, h3⟩
  clear h3
  go_enter Try.func30, Try.ntmps30
  go_wp2
  generalize hw1 : w.alloc (.cells #[.int .u64 x, .int .u64 y] 30) = w1
  have hx1 : Ex w w1 := hw1 ▸ Ex.alloc _ _
  have hS : BoxS w1 w.heap.size x y := ⟨by rw [← hw1]; simp, by rw [← hw1]; simp⟩
  clear hw1
  go_loopw [5] (fun i wr => ∃ k : Nat, k ≤ l.length ∧ i = .int .i64 k ∧ Hid (∀ j, j < k → holdsB x y (l.getD j 0) = false) ∧ Ex w1 wr) (fun i _ => l.length - (intOf i).toNat)
  case atStart => exact ⟨0, Nat.zero_le _, rfl, fun j hj => by omega, Ex.refl _⟩
  case round =>
    obtain ⟨k, hk, rfl, hall, hxr⟩ := hrel
    by_cases hlt : k < l.length
    · have hIr := (hI.ex hx1).ex hxr
      obtain ⟨_, _, hv, _, _, h3⟩ := hIr
      cases hv
      obtain ⟨b, off, rfl, hb, hc⟩ := h3 k hlt
      have hSr := hS.ex hxr
      have hcx := ext_cell hc
      have c0x := ext_cell hSr.1
      have c1x := ext_cell hSr.2
      clear h3
      by_cases hh : holdsB x y (l.getD k 0) = true
      · have hfin : Hid (l.any (holdsB x y) = true) := any_of_getD hlt hh
        clear hall
        generalize l.getD k 0 = q at *
        go_wp2
        refine wp_region_quiet_ext (by kernel_rfl) (by kernel_rfl) ?_
        repeat (go_big_quiet_step ((go_at_call 43; exact Calls.quiet_ext (r04Holds_any _ _ _ _))))
        refine wpQuiet_nil ?_
        intro w2 hx2
        rw [hh]
        go_wp2
        go_ret
        exact ⟨ret_bool hfin.out.symm, hx1.trans (hxr.trans hx2)⟩
      · have hh' : holdsB x y (l.getD k 0) = false := by simpa using hh
        have hall2 : Hid (∀ j, j < k + 1 → holdsB x y (l.getD j 0) = false) := fun j hj => by
          by_cases hjm : j = k
          · subst hjm; exact hh'
          · exact hall.out j (by omega)
        clear hall hh
        generalize l.getD k 0 = q at *
        go_wp2
        refine wp_region_quiet_ext (by kernel_rfl) (by kernel_rfl) ?_
        repeat (go_big_quiet_step ((go_at_call 43; exact Calls.quiet_ext (r04Holds_any _ _ _ _))))
        refine wpQuiet_nil ?_
        intro w2 hx2
        rw [hh']
        go_wp2
        go_roundw
        case rel => exact ⟨k + 1, by omega, by go_num, hall2, hxr.trans hx2⟩
        case measure => simp [intOf]; omega
    · have hfin : Hid (l.any (holdsB x y) = false) := not_any_of_getD fun j hj => hall.out j (by omega)
      clear hall
      go_wp2
      go_ret
      exact ⟨ret_bool hfin.out.symm, hx1.trans hxr⟩
set_option maxHeartbeats 1000000 in
theorem r14check_any (n : Int) (lv av : Value) (ll : List (List Int)) (l : List Int) (w : World) (hR : RowsAt w lv ll) (hl : IntsAt w av l) :
    Calls Try.prog 24 #[.agg #[.int .i64 n, lv], av] w fun e w' => e = .returned (.int .i64 (searchErr n ll l)) ∧ Ex w w' := by
  have hR0 := hR
  obtain ⟨a, cap, rfl, h1, h2, h3⟩ := hR
  unfold maxLen at h2
  clear h3
  have hI0 := hl
  obtain ⟨a', cap', rfl, h1', h2', h3'⟩ := hl
  unfold maxLen at h2'
  clear h3'
  have hwb : Hid (∃ wa : World, wa = w.alloc (.cells #[.int .i64 n, .slice a ll.length cap] 24) ∧ Ex w wa ∧ RowsAt wa (.slice a ll.length cap) ll ∧ IntsAt wa (.slice a' l.length cap') l ∧ BoxT wa w.heap.size n (.slice a ll.length cap)) :=
    ⟨_, rfl, Ex.alloc _ _, hR0.ex (Ex.alloc _ _), hI0.ex (Ex.alloc _ _), ⟨by simp, by simp⟩⟩
  clear hR0 hI0
  have hS : Hid (searchErr n ll l = if theoryErr n ll = 0 then (if l.all (litValid · n) then 0 else 1) else theoryErr n ll) := rfl
  generalize searchErr n ll l = sE at *
  go_enter Try.func24, Try.ntmps24
  go_wp2_with fail
  obtain ⟨wa, hwa, hxa, hRa, hIa, hT⟩ := hwb.out
  rw [← hwa]; clear hwb hwa
  refine (r05Check_any _ _ _ _ hRa).mono ?_
  rintro e w2 ⟨rfl, hx2⟩
  replace hIa := hIa.ex hx2
  replace hxa := hxa.trans hx2
  replace hT := hT.ex hx2
  clear hx2 hRa
  by_cases he : theoryErr n ll = 0
  · have he' : (theoryErr n ll != 0) = false := by simp [he]
    have hS2 : Hid (sE = if l.all (litValid · n) then 0 else 1) := by show _ = _; rw [hS.out, if_pos he]
    clear hS he
    go_wp2
    go_loopw [6] (fun i wr => ∃ k : Nat, k ≤ l.length ∧ i = .int .i64 k ∧ Hid (∀ j, j < k → litValid (l.getD j 0) n = true) ∧ Ex w2 wr) (fun i _ => l.length - (intOf i).toNat)
    case atStart => exact ⟨0, Nat.zero_le _, rfl, fun j hj => by omega, Ex.refl _⟩
    case round =>
      obtain ⟨k, hk, rfl, hall, hxr⟩ := hrel
      by_cases hlt : k < l.length
      · have hIr := hIa.ex hxr
        obtain ⟨_, _, hv, _, _, h3⟩ := hIr
        cases hv
        obtain ⟨b, off, rfl, hb, hc⟩ := h3 k hlt
        have hTr := hT.ex hxr
        have hcx := ext_cell hc
        have c0x := ext_cell hTr.1
        have c1x := ext_cell hTr.2
        clear h3
        by_cases hh : litValid (l.getD k 0) n = true
        · have hall2 : Hid (∀ j, j < k + 1 → litValid (l.getD j 0) n = true) := fun j hj => by
            by_cases hjm : j = k
            · subst hjm; exact hh
            · exact hall.out j (by omega)
          clear hall
          generalize l.getD k 0 = q at *
          go_wp2
          refine wp_region_quiet_ext (by kernel_rfl) (by kernel_rfl) ?_
          repeat (go_big_quiet_step ((go_at_call 39; exact Calls.quiet_ext_same (r04Valid_any _ _ _))))
          refine wpQuiet_nil ?_
          intro w3 hx3
          go_wp2
          go_roundw
          case rel => exact ⟨k + 1, by omega, by go_num, hall2, hxr.trans hx3⟩
          case measure => simp [intOf] <;> omega
        · have hh' : litValid (l.getD k 0) n = false := by simpa using hh
          have hfin : Hid (sE = 1) := by show _ = _; rw [hS2.out, not_all_of_getD hlt hh']; rfl
          clear hall hh
          generalize l.getD k 0 = q at *
          go_wp2
          refine wp_region_quiet_ext (by kernel_rfl) (by kernel_rfl) ?_
          repeat (go_big_quiet_step ((go_at_call 39; exact Calls.quiet_ext_same (r04Valid_any _ _ _))))
          refine wpQuiet_nil ?_
          intro w3 hx3
          go_wp2
          go_ret
          exact ⟨ret_int hfin.out.symm, hxa.trans (hxr.trans hx3)⟩
      · have hfin : Hid (sE = 0) := by show _ = _; rw [hS2.out, all_of_getD (p := (litValid · n)) (d := 0) fun j hj => hall.out j (by omega)]; rfl
        clear hall
        go_wp2
        go_ret
        exact ⟨ret_int hfin.out.symm, hxa.trans hxr⟩
  · have he' : (theoryErr n ll != 0) = true := by simp [he]
    have hS2 : Hid (sE = theoryErr n ll) := by show _ = _; rw [hS.out, if_neg he]
    clear hS he
    go_wp2
    go_ret
    exact ⟨ret_int hS2.out.symm, hxa⟩
set_option maxHeartbeats 1000000 in
theorem r14under_any (ms : List (Nat × Nat)) (mv lv : Value) (l : List Int) (w : World) (hm : SetsAt w mv ms) (hl : IntsAt w lv l) :
    Calls Try.prog 25 #[mv, lv] w fun e w' => e = .returned (.tuple #[setV ((ms.find? fun s => l.all (holdsB s.1 s.2)).getD (0, 0)).1 ((ms.find? fun s => l.all (holdsB s.1 s.2)).getD (0, 0)).2, .bool (ms.find? fun s => l.all (holdsB s.1 s.2)).isSome]) ∧ Ex w w' := by
  unfold setV
  have hm0 := hm
  obtain ⟨a, cap, rfl, h1, h2, h3⟩ := hm
  unfold maxLen at h2
  clear h3
  have hF : Hid ((ms.find? fun s => l.all (holdsB s.1 s.2)) = (ms.drop 0).find? fun s => l.all (holdsB s.1 s.2)) := rfl
  generalize (ms.find? fun s => l.all (holdsB s.1 s.2)) = F at *
  go_enter Try.func25, Try.ntmps25
  go_wp2
  generalize hw1 : w.alloc (.cells #[.int .u64 0, .int .u64 0] 30) = w1
  have hx1 : Ex w w1 := hw1 ▸ Ex.alloc _ _
  have hO : OwnB w1 w.heap.size [.int .u64 0, .int .u64 0] 30 := hw1 ▸ OwnB.new w _ _
  replace hm0 := hm0.ex hx1
  replace hl := hl.ex hx1
  clear hw1
  go_loopw [6] (fun i wr => ∃ k : Nat, k ≤ ms.length ∧ i = .int .i64 k ∧ Hid (F = (ms.drop k).find? fun s => l.all (holdsB s.1 s.2)) ∧ Ex w1 wr) (fun i _ => ms.length - (intOf i).toNat)
  case atStart => exact ⟨0, Nat.zero_le _, rfl, hF, Ex.refl _⟩
  case round =>
    obtain ⟨k, hk, rfl, hd, hxr⟩ := hrel
    have hOr := hO.ex hxr
    by_cases hlt : k < ms.length
    · have hmr := hm0.ex hxr
      obtain ⟨_, _, hv, _, _, h3⟩ := hmr
      cases hv
      obtain ⟨b, off, rfl, hb, hc0, hc1⟩ := h3 k hlt
      have hF2 : Hid (F = if l.all (holdsB (ms.getD k (0, 0)).1 (ms.getD k (0, 0)).2) then some (ms.getD k (0, 0)) else (ms.drop (k + 1)).find? fun s => l.all (holdsB s.1 s.2)) := by
        show _ = _
        rw [hd.out, List.drop_eq_getElem_cons hlt, List.find?_cons, getD_getElem hlt]
        cases l.all (holdsB ms[k].1 ms[k].2) <;> rfl
      clear h3 hd
      generalize ms.getD k (0, 0) = st at *
      have hlr := hl.ex hxr
      go_wp2_with fail
      refine (r04All_any _ _ _ _ _ hlr).mono ?_
      rintro e w2 ⟨rfl, hx2⟩
      have hc0' := ex_cell hc0 hx2
      have hc1' := ex_cell hc1 hx2
      have hO2 := hOr.ex hx2
      have s0 : w2.cell? ⟨w.heap.size, 0, none⟩ = some (.int .u64 0) := hO2.cell 0
      have s1 : w2.cell? ⟨w.heap.size, 1, none⟩ = some (.int .u64 0) := hO2.cell 1
      have f0 := hO2.free 0
      have f1 := hO2.free 1
      clear hc0 hc1
      generalize l.all (holdsB st.1 st.2) = ok at *
      cases ok
      · have hF3 := hF2.out
        simp only [Bool.false_eq_true, if_false] at hF3
        have hF4 : Hid _ := hF3
        clear hF3 hF2
        go_wp2
        go_roundw
        case rel => exact ⟨k + 1, by omega, by go_num, hF4, hxr.trans hx2⟩
        case measure => simp [intOf] <;> omega
      · have hF3 : Hid (F = some st) := hF2.out
        clear hF2
        go_wp2
        have e1 := hF3.out
        subst e1
        refine bodyPost_ret (v := .tuple #[.agg #[.int .u64 st.1, .int .u64 st.2], .bool true]) (by simp [results, Try.results25, go_sem, s0, s1]) rfl ⟨rfl, ?_⟩
        refine Ex.setCell (Ex.setCell (hx1.trans (hxr.trans hx2)) ?_ _) ?_ _ <;> exact Nat.le_refl _
    · have hF2 : Hid (F = none) := by show _ = _; rw [hd.out, List.drop_eq_nil_of_le (by omega)]; rfl
      clear hd
      have s0 : wr.cell? ⟨w.heap.size, 0, none⟩ = some (.int .u64 0) := hOr.cell 0
      have s1 : wr.cell? ⟨w.heap.size, 1, none⟩ = some (.int .u64 0) := hOr.cell 1
      have f0 := hOr.free 0
      have f1 := hOr.free 1
      go_wp2
      have e1 := hF2.out
      subst e1
      refine bodyPost_ret (v := .tuple #[.agg #[.int .u64 0, .int .u64 0], .bool false]) (by simp [results, Try.results25, go_sem, s0, s1]) rfl ⟨rfl, ?_⟩
      refine Ex.setCell (Ex.setCell (hx1.trans hxr) ?_ _) ?_ _ <;> exact Nat.le_refl _
set_option maxHeartbeats 1000000 in
theorem r14without_any (lv : Value) (l : List Int) (i : Nat) (w : World) (hl : IntsAt w lv l) (hi : i < l.length) (hb : l.length * 8 ≤ 140737488355328) :
    Calls Try.prog 29 #[lv, .int .i64 i] w fun e w' => ∃ v, e = .returned v ∧ OwnI w' w.heap.size v (l.eraseIdx i) ∧ Ex w w' := by
  have hl0 := hl
  obtain ⟨a, cap, rfl, h1, h2, h3⟩ := hl
  unfold maxLen at h2
  clear h3
  have b1 : (i : Int) + 1 ≤ l.length := by omega
  have b2 : (i : Int) ≤ cap := by omega
  have b3 : (0 : Int) ≤ i := by omega
  have b4 : IntKind.i64.wrap ((i : Int) + 1) = (i : Int) + 1 := IntWalk.i64_in _ (by omega)
  have b5 : (0 : Int) ≤ (i : Int) + 1 := by omega
  have b6 : ((i : Int) + 1).toNat = i + 1 := by omega
  have hd0 := hl0.drop (i := i + 1) (by omega)
  have ht0 := hl0.take (i := i) (by omega)
  have hlen1 : (l.take i).length = i := List.length_take_of_le (by omega)
  have hlen2 : (l.drop (i + 1)).length = l.length - (i + 1) := List.length_drop
  have hfin : Hid (l.eraseIdx i = l.take i ++ l.drop (i + 1)) := eraseIdx_pieces
  generalize l.eraseIdx i = le at *
  have L1 : Hid _ := hlen1
  have L2 : Hid _ := hlen2
  clear hlen1 hlen2
  go_enter Try.func29, Try.ntmps29
  go_wp2
  go_region_held3 (fun _ => True) (trivial) (first | (refine step_append_ints (by rfl) (.tmp 5) (.tmp 8) (by rfl) (by rfl) (by rfl) ((OwnI.empty (Nat.le_refl _)).ex (Ex.refl _).drew) (ht0.ex ((Ex.alloc _ _).drew)) (by rw [L1.out]; simp only [List.length_nil]; omega) (by simp) ?_; intro v1 w1 hown1 hg1; have hx1 : Ex w w1 := grown_ex ((Ex.alloc _ _).drew) hg1 (by intro k hk; cases hk; exact Nat.le_refl _); rw [List.nil_append] at hown1) | (refine step_append_ints (by rfl) (.tmp 9) (.tmp 13) (by rfl) (by rfl) (by rfl) hown1 (hd0.ex hx1) (by rw [L1.out, L2.out]; omega) hx1.size ?_; intro v2 w2 hown2 hg2; have hx2 : Ex w w2 := grown_ex hx1 hg2 (ownsRow_block hown1)))
  go_wp2
  all_goals go_ret
  all_goals exact ⟨_, rfl, by rw [hfin.out]; exact hown2, hx2⟩
set_option maxHeartbeats 1000000 in
theorem r06SameInts_any (av bv : Value) (l m : List Int) (w : World) (hl : IntsAt w av l) (hm : IntsAt w bv m) :
    Calls Try.prog 16 #[av, bv] w fun e w' => e = .returned (.bool (decide (l = m))) ∧ Ex w w' := by
  have hl0 := hl
  have hm0 := hm
  obtain ⟨a, cap, rfl, h1, h2, h3⟩ := hl
  obtain ⟨b, bap, rfl, g1, g2, g3⟩ := hm
  unfold maxLen at h2 g2
  clear h3 g3
  by_cases hlen : l.length = m.length
  · have hne : (((l.length : Int)) != (m.length : Int)) = false := by simp; omega
    have H : Hid (l.length = m.length) := hlen
    have fin : Hid ((∀ j, j < l.length → l.getD j 0 = m.getD j 0) → decide (l = m) = true) := fun h => by
      rw [decide_eq_true_iff]
      refine List.ext_getElem hlen fun i h1 h2 => ?_
      have := h i h1
      rwa [getD_getElem h1, getD_getElem h2] at this
    have fin2 : Hid (∀ j, j < l.length → l.getD j 0 ≠ m.getD j 0 → decide (l = m) = false) := fun j hj h => by
      rw [decide_eq_false_iff_not]; intro e; rw [e] at h; exact h rfl
    have hle : l.length ≤ m.length := by omega
    clear hlen
    generalize decide (l = m) = res at *
    go_enter Try.func16, Try.ntmps16
    go_wp2
    go_loopw [5] (fun i wr => ∃ k : Nat, k ≤ l.length ∧ i = .int .i64 k ∧ Hid (∀ j, j < k → l.getD j 0 = m.getD j 0) ∧ Ex w wr) (fun i _ => l.length - (intOf i).toNat)
    case atStart => exact ⟨0, Nat.zero_le _, rfl, fun j hj => by omega, Ex.refl _⟩
    case round =>
      obtain ⟨k, hk, rfl, hall, hxr⟩ := hrel
      by_cases hlt : k < l.length
      · have hlr := hl0.ex hxr
        obtain ⟨_, _, hv, _, _, h3⟩ := hlr
        cases hv
        obtain ⟨lb, lo, rfl, hb, hc⟩ := h3 k hlt
        have hmr := hm0.ex hxr
        obtain ⟨_, _, hv, _, _, g3⟩ := hmr
        cases hv
        have hltm : k < m.length := by omega
        obtain ⟨mb, mo, rfl, gb, gc⟩ := g3 k hltm
        clear h3 g3
        have hcx := ext_cell hc
        have gcx := ext_cell gc
        have q1 : (k : Int) < (l.length : Int) := by omega
        have q2 : (k : Int) < (m.length : Int) := by omega
        by_cases he : l.getD k 0 = m.getD k 0
        · have hall2 : Hid (∀ j, j < k + 1 → l.getD j 0 = m.getD j 0) := fun j hj => by
            by_cases hjm : j = k
            · subst hjm; exact he
            · exact hall.out j (by omega)
          have hne2 : (l.getD k 0 != m.getD k 0) = false := by simp only [bne_eq_false_iff_eq]; exact he
          clear hall he
          generalize l.getD k 0 = x at *
          generalize m.getD k 0 = y at *
          go_wp2
          refine wp_region_quiet_ext (by kernel_rfl) (by kernel_rfl) ?_
          repeat (go_big_quiet_step ((fail)))
          refine wpQuiet_nil ?_
          intro w2 hx2
          go_wp2
          go_roundw
          case rel => exact ⟨k + 1, by omega, by go_num, hall2, hxr.trans hx2⟩
          case measure => simp [intOf] <;> omega
        · have hfin : Hid (res = false) := fin2.out k hlt he
          have hne2 : (l.getD k 0 != m.getD k 0) = true := by simp only [bne_iff_ne]; exact he
          clear hall fin fin2 he
          generalize l.getD k 0 = x at *
          generalize m.getD k 0 = y at *
          go_wp2
          refine wp_region_quiet_ext (by kernel_rfl) (by kernel_rfl) ?_
          repeat (go_big_quiet_step ((fail)))
          refine wpQuiet_nil ?_
          intro w2 hx2
          go_wp2
          go_ret
          exact ⟨ret_bool hfin.out.symm, hxr.trans hx2⟩
      · have hfin : Hid (res = true) := fin.out fun j hj => hall.out j (by omega)
        clear hall fin fin2
        go_wp2
        go_ret
        exact ⟨ret_bool hfin.out.symm, hxr⟩
  · have hne : (((l.length : Int)) != (m.length : Int)) = true := by simp; omega
    have hfin : Hid (decide (l = m) = false) := by show _ = _; rw [decide_eq_false_iff_not]; intro e; rw [e] at hlen; exact hlen rfl
    clear hlen
    go_enter Try.func16, Try.ntmps16
    go_wp2
    go_ret
    exact ⟨ret_bool hfin.out.symm, Ex.refl _⟩
end Go.Proofs.Ytagohmpbbbkdjaa
