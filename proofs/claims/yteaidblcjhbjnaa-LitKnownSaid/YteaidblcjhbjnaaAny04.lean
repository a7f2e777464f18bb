/- The reference's Any and Resolve: what each call returns; old memory stays. -/
import Derived.Test.YteaidblcjhbjnaaSet
import Derived.Test.YteaidblcjhbjnaaResolve04b
namespace Go.Proofs.Yteaidblcjhbjnaa
set_option linter.unusedSimpArgs false
set_option linter.unusedVariables false
open Go.RowKit
set_option maxHeartbeats 1000000 in
theorem r04Any_any (x y : Nat) (lv : Value) (l : List Int) (w : World) (hl : IntsAt w lv l) :
    Calls Try.prog 31 #[setV x y, lv] w fun e w' => e = .returned (.bool (l.any (holdsB x y))) ∧ Ex w w' := by
  unfold setV
  obtain ⟨a, cap, rfl, h1, h2, h3⟩ := hl
  unfold maxLen at h2
  have hI : IntsAt w (.slice a l.length cap) l := ⟨a, cap, rfl, h1, by unfold maxLen; exact h2, h3⟩
  clear h3
  go_enter Try.func31, Try.ntmps31
  go_wp2
  generalize hw1 : w.alloc (.cells #[.int .u64 x, .int .u64 y] 39) = w1
  have hx1 : Ex w w1 := hw1 ▸ Ex.alloc _ _
  have c0 : w1.cell? ⟨w.heap.size, 0, none⟩ = some (.int .u64 x) := by rw [← hw1]; simp
  have c1 : w1.cell? ⟨w.heap.size, 1, none⟩ = some (.int .u64 y) := by rw [← hw1]; simp
  clear hw1
  go_loopw [5] (fun i wr => ∃ k : Nat, k ≤ l.length ∧ i = .int .i64 k ∧ Hid (∀ j, j < k → holdsB x y (l.getD j 0) = false) ∧ Ex w1 wr) (fun i _ => l.length - (intOf i).toNat)
  case atStart => exact ⟨0, Nat.zero_le _, rfl, fun j hj => by omega, Ex.refl _⟩
  case round =>
    obtain ⟨k, hk, rfl, hall, hxr⟩ := hrel
    by_cases hlt : k < l.length
    · have hIr := (hI.ex hx1).ex hxr
      obtain ⟨_, _, hv, _, _, h3⟩ := hIr
      cases hv
      obtain ⟨b, off, rfl, hb, hc⟩ := h3 k hlt
      have c0r := (hxr.cell (p := ⟨w.heap.size, 0, none⟩) (cell_lt c0)).trans c0
      have c1r := (hxr.cell (p := ⟨w.heap.size, 1, none⟩) (cell_lt c1)).trans c1
      have hcx := ext_cell hc
      have c0x := ext_cell c0r
      have c1x := ext_cell c1r
      clear h3
      by_cases hh : holdsB x y (l.getD k 0) = true
      · have hfin : Hid (l.any (holdsB x y) = true) := any_of_getD hlt hh
        clear hall
        generalize l.getD k 0 = q at *
        have HV : Hid (∀ wa, Calls Try.prog 30 #[.agg #[.int .u64 x, .int .u64 y], .int .i64 q] wa fun e w' => e = .returned (.bool true) ∧ Ex wa w') := fun wa => by have := r04Holds_any x y q wa; rwa [hh] at this
        clear hh
        go_wp2
        refine wp_region_quiet_ext (by kernel_rfl) (by kernel_rfl) ?_
        repeat (go_big_quiet_step ((go_at_call 30; exact Calls.quiet_ext (HV.out _))))
        refine wpQuiet_nil ?_
        intro w2 hx2
        go_wp2
        go_ret
        exact ⟨ret_bool hfin.out.symm, hx1.trans (hxr.trans hx2)⟩
      · have hh' : holdsB x y (l.getD k 0) = false := by simpa using hh
        have hall2 : Hid (∀ j, j < k + 1 → holdsB x y (l.getD j 0) = false) := fun j hj => by
          by_cases hjm : j = k
          · subst hjm; exact hh'
          · exact hall.out j (by omega)
        clear hall hh
        generalize l.getD k 0 = q at *
        have HV : Hid (∀ wa, Calls Try.prog 30 #[.agg #[.int .u64 x, .int .u64 y], .int .i64 q] wa fun e w' => e = .returned (.bool false) ∧ Ex wa w') := fun wa => by have := r04Holds_any x y q wa; rwa [hh'] at this
        clear hh'
        go_wp2
        refine wp_region_quiet_ext (by kernel_rfl) (by kernel_rfl) ?_
        repeat (go_big_quiet_step ((go_at_call 30; exact Calls.quiet_ext (HV.out _))))
        refine wpQuiet_nil ?_
        intro w2 hx2
        go_wp2
        go_roundw
        case rel => exact ⟨k + 1, by omega, by go_num, hall2, hxr.trans hx2⟩
        case measure => simp [intOf]; omega
    · have hfin : Hid (l.any (holdsB x y) = false) := not_any_of_getD fun j hj => hall.out j (by omega)
      clear hall
      go_wp2
      go_ret
      exact ⟨ret_bool hfin.out.symm, hx1.trans hxr⟩
theorem resOk_ref (c d : List Int) (v : Int) : resOk c d v = (decide (1 ≤ v) && decide (v ≤ 128) && c.all (litValid · 128) && d.all (litValid · 128) && c.contains v && d.contains (-v)) := by
  have e : (litValid v 128 && !decide (v < 0)) = (decide (1 ≤ v) && decide (v ≤ 128)) := by
    rw [Bool.eq_iff_iff]
    simp only [Bool.and_eq_true, litValid_iff, Bool.not_eq_true', decide_eq_false_iff_not, decide_eq_true_eq]
    omega
  unfold resOk
  rw [e]
set_option maxHeartbeats 2000000 in
theorem r04Resolve_any (cv dv : Value) (c d : List Int) (v : Int) (w : World) (hc : IntsAt w cv c) (hd : IntsAt w dv d) (hb : (c.length + d.length) * 8 ≤ 140737488355328) :
    Calls Try.prog 24 #[cv, dv, .int .i64 v] w (TermRet w (resL c d v) (resOk c d v)) := by
  have HC : Hid (Calls Try.prog 37 #[cv, .int .i64 128] w fun e w' => e = .returned (.bool (c.all (litValid · 128))) ∧ w = w') := r04All1_any cv c 128 w hc
  have HD : Hid (Calls Try.prog 37 #[dv, .int .i64 128] w fun e w' => e = .returned (.bool (d.all (litValid · 128))) ∧ w = w') := r04All1_any dv d 128 w hd
  have HK1 : Hid (Calls Try.prog 42 #[cv, .int .i64 v] w fun e w' => e = .returned (.bool (c.contains v)) ∧ w = w') := r04has_any cv c v w hc
  have HK2 : Hid (Calls Try.prog 42 #[dv, .int .i64 (-v)] w fun e w' => e = .returned (.bool (d.contains (-v))) ∧ w = w') := r04has_any dv d (-v) w hd
  have HO : Hid (∀ wa sv, IntsAt wa sv (resRaw c d v) → Calls Try.prog 39 #[sv] wa (OrdRet wa (orderL (resRaw c d v)))) := fun wa sv hs => r04Order_any sv _ wa hs
  have hc0 := hc
  have hd0 := hd
  obtain ⟨a, cap, rfl, _, h2, h3⟩ := hc
  obtain ⟨a', cap', rfl, _, h2', h4⟩ := hd
  unfold maxLen at h2 h2'
  clear h3 h4
  have HO2 : Hid (resOk c d v = (decide (1 ≤ v) && decide (v ≤ 128) && c.all (litValid · 128) && d.all (litValid · 128) && c.contains v && d.contains (-v))) := resOk_ref c d v
  have HE : Hid (resRaw c d v = c.filter (· != v) ++ d.filter (· != -v)) := rfl
  unfold resL
  generalize resOk c d v = ok at *
  generalize orderL (resRaw c d v) = L at *
  generalize resRaw c d v = Q at *
  generalize c.all (litValid · 128) = V1 at *
  generalize d.all (litValid · 128) = V2 at *
  generalize c.contains v = K1 at *
  generalize d.contains (-v) = K2 at *
  by_cases q1 : v < 1
  · have q1' : decide (1 ≤ v) = false := by simp; omega
    have e1 := HO2.out
    simp only [Bool.false_and, Bool.and_false, Bool.true_and, decide_true, decide_false, q1'] at e1
    subst e1
    show Calls _ _ _ _ (TermRet w [] false)
    clear HO HE HO2
    go_enter Try.func24, Try.ntmps24
    go_wp2
    go_ret2
    exact ⟨_, rfl, OwnI.nil _ _, Ex.refl _⟩
  have q1' : decide (1 ≤ v) = true := by simp; omega
  by_cases q2 : 128 < v
  · have q2' : decide (v ≤ 128) = false := by simp; omega
    have e1 := HO2.out
    simp only [Bool.false_and, Bool.and_false, Bool.true_and, decide_true, decide_false, q1', q2'] at e1
    subst e1
    show Calls _ _ _ _ (TermRet w [] false)
    clear HO HE HO2
    go_enter Try.func24, Try.ntmps24
    go_wp2
    go_ret2
    exact ⟨_, rfl, OwnI.nil _ _, Ex.refl _⟩
  have q2' : decide (v ≤ 128) = true := by simp; omega
  cases V1
  · skip
    have e1 := HO2.out
    simp only [Bool.false_and, Bool.and_false, Bool.true_and, decide_true, decide_false, q1', q2'] at e1
    subst e1
    show Calls _ _ _ _ (TermRet w [] false)
    clear HO HE HO2
    go_enter Try.func24, Try.ntmps24
    go_wp2_with fail
    refine Calls.mono HC.out ?_
    rintro e w' ⟨rfl, rfl⟩
    go_wp2
    go_ret2
    exact ⟨_, rfl, OwnI.nil _ _, Ex.refl _⟩
  cases V2
  · skip
    have e1 := HO2.out
    simp only [Bool.false_and, Bool.and_false, Bool.true_and, decide_true, decide_false, q1', q2'] at e1
    subst e1
    show Calls _ _ _ _ (TermRet w [] false)
    clear HO HE HO2
    go_enter Try.func24, Try.ntmps24
    go_wp2_with fail
    refine Calls.mono HC.out ?_
    rintro e w' ⟨rfl, rfl⟩
    go_wp2_with fail
    refine Calls.mono HD.out ?_
    rintro e w' ⟨rfl, rfl⟩
    go_wp2
    go_ret2
    exact ⟨_, rfl, OwnI.nil _ _, Ex.refl _⟩
  cases K1
  · skip
    have e1 := HO2.out
    simp only [Bool.false_and, Bool.and_false, Bool.true_and, decide_true, decide_false, q1', q2'] at e1
    subst e1
    show Calls _ _ _ _ (TermRet w [] false)
    clear HO HE HO2
    go_enter Try.func24, Try.ntmps24
    go_wp2_with fail
    refine Calls.mono HC.out ?_
    rintro e w' ⟨rfl, rfl⟩
    go_wp2_with fail
    refine Calls.mono HD.out ?_
    rintro e w' ⟨rfl, rfl⟩
    go_wp2_with fail
    refine Calls.mono HK1.out ?_
    rintro e w' ⟨rfl, rfl⟩
    go_wp2
    go_ret2
    exact ⟨_, rfl, OwnI.nil _ _, Ex.refl _⟩
  cases K2
  · skip
    have e1 := HO2.out
    simp only [Bool.false_and, Bool.and_false, Bool.true_and, decide_true, decide_false, q1', q2'] at e1
    subst e1
    show Calls _ _ _ _ (TermRet w [] false)
    clear HO HE HO2
    go_enter Try.func24, Try.ntmps24
    go_wp2_with fail
    refine Calls.mono HC.out ?_
    rintro e w' ⟨rfl, rfl⟩
    go_wp2_with fail
    refine Calls.mono HD.out ?_
    rintro e w' ⟨rfl, rfl⟩
    go_wp2_with fail
    refine Calls.mono HK1.out ?_
    rintro e w' ⟨rfl, rfl⟩
    go_wp2_with fail
    refine Calls.mono HK2.out ?_
    rintro e w' ⟨rfl, rfl⟩
    go_wp2
    go_ret2
    exact ⟨_, rfl, OwnI.nil _ _, Ex.refl _⟩
  have e1 := HO2.out
  simp only [q1', q2', Bool.and_self] at e1
  subst e1
  show Calls _ _ _ _ (TermRet w L true)
  clear HO2 q1' q2'
  go_enter Try.func24, Try.ntmps24
  go_wp2_with fail
  refine Calls.mono HC.out ?_
  rintro e w' ⟨rfl, rfl⟩
  go_wp2_with fail
  refine Calls.mono HD.out ?_
  rintro e w' ⟨rfl, rfl⟩
  go_wp2_with fail
  refine Calls.mono HK1.out ?_
  rintro e w' ⟨rfl, rfl⟩
  go_wp2_with fail
  refine Calls.mono HK2.out ?_
  rintro e w' ⟨rfl, rfl⟩
  clear HC HD HK1 HK2
  go_wp2_with fail
  go_loopw [8, 9] (fun out i wr => ∃ k : Nat, k ≤ c.length ∧ i = .int .i64 k ∧ OwnI wr w.heap.size out ((c.take k).filter (· != v)) ∧ Ex w wr) (fun out i _ => c.length - (intOf i).toNat)
  case atStart => exact ⟨0, Nat.zero_le _, rfl, by simpa using OwnI.nil _ _, Ex.refl _⟩
  case round =>
    obtain ⟨k, hk, rfl, hO, hxr⟩ := hrel
    by_cases hlt : k < c.length
    · obtain ⟨_, _, hv', _, _, h3⟩ := hc0.ex hxr
      cases hv'
      obtain ⟨b, off, rfl, hb', hcell⟩ := h3 k hlt
      clear h3
      have hS : (c.take (k + 1)).filter (· != v) = (c.take k).filter (· != v) ++ (if (c.getD k 0 != v) = true then [c.getD k 0] else []) := by
        rw [List.take_succ_eq_append_getElem hlt, List.filter_append, getD_getElem hlt]
        simp [List.filter_cons]
      have hlen : Hid (((c.take k).filter (· != v)).length ≤ k) := by
        show _ ≤ _
        exact Nat.le_trans (List.length_filter_le _ _) (by rw [List.length_take]; omega)
      have hsz := hxr.size
      by_cases hq : (c.getD k 0 != v) = true
      · rw [if_pos hq] at hS
        have hS2 : Hid _ := hS
        clear hS
        obtain ⟨F, hF⟩ : ∃ F, F = (c.take k).filter (· != v) := ⟨_, rfl⟩
        rw [← hF] at hO hlen hS2
        clear hF
        obtain ⟨F', hF'⟩ : ∃ F', F' = (c.take (k + 1)).filter (· != v) := ⟨_, rfl⟩
        rw [← hF'] at hS2
        have HF' : Hid _ := hF'
        clear hF'
        generalize c.getD k 0 = q at *
        have hI1 := intsAt_fresh wr q 3
        go_wp2_with (at_builtin; refine wpList_append_ints rfl (.tmp 52) (.tmp 57) rfl rfl rfl (hO.ex (Ex.alloc _ _)) hI1 ?c1 ?c2 ?_)
        case c1 => have := hlen.out; simp only [List.length_append, List.length_cons, List.length_nil]; omega
        case c2 => exact Nat.le_trans hsz (by show _ ≤ (wr.heap.push _).size; simp)
        intro v2 w2 hown hg
        have hx2 : Ex w w2 := grown_ex (hxr.alloc' _) hg (ownsRow_block hO)
        have hown2 : OwnI w2 w.heap.size v2 (F ++ [q]) := hown
        clear hg hown hO hI1
        go_wp2
        go_roundw
        case rel => exact ⟨k + 1, by omega, by go_num, by rw [← HF'.out, hS2.out]; exact hown2, hx2⟩
        case measure => simp [intOf]; omega
      · have hq' : (c.getD k 0 != v) = false := by simpa using hq
        rw [if_neg hq, List.append_nil] at hS
        have hS2 : Hid _ := hS
        clear hS hq hlen
        generalize c.getD k 0 = q at *
        go_wp2
        go_roundw
        case rel => exact ⟨k + 1, by omega, by go_num, by rw [hS2.out]; exact hO, hxr⟩
        case measure => simp [intOf]; omega
    · obtain rfl : k = c.length := by omega
      rw [List.take_length] at hO
      have hFl : Hid ((c.filter (· != v)).length ≤ c.length) := List.length_filter_le _ _
      generalize c.filter (· != v) = F1 at *
      go_wp2_with fail
      go_loopw [8, 10] (fun out i wr => ∃ k : Nat, k ≤ d.length ∧ i = .int .i64 k ∧ OwnI wr w.heap.size out (F1 ++ (d.take k).filter (· != -v)) ∧ Ex w wr) (fun out i _ => d.length - (intOf i).toNat)
      case atStart => exact ⟨0, Nat.zero_le _, rfl, by simpa using hO, hxr⟩
      case round =>
        obtain ⟨k, hk, rfl, hO, hxr⟩ := hrel
        by_cases hlt : k < d.length
        · obtain ⟨_, _, hv', _, _, h3⟩ := hd0.ex hxr
          cases hv'
          obtain ⟨b, off, rfl, hb', hcell⟩ := h3 k hlt
          clear h3
          have hS : (d.take (k + 1)).filter (· != -v) = (d.take k).filter (· != -v) ++ (if (d.getD k 0 != -v) = true then [d.getD k 0] else []) := by
            rw [List.take_succ_eq_append_getElem hlt, List.filter_append, getD_getElem hlt]
            simp [List.filter_cons]
          have hlen : Hid (((d.take k).filter (· != -v)).length ≤ k) := by
            show _ ≤ _
            exact Nat.le_trans (List.length_filter_le _ _) (by rw [List.length_take]; omega)
          have hsz := hxr.size
          by_cases hq : (d.getD k 0 != -v) = true
          · rw [if_pos hq] at hS
            have hS2 : Hid _ := hS
            clear hS
            obtain ⟨F, hF⟩ : ∃ F, F = (d.take k).filter (· != -v) := ⟨_, rfl⟩
            rw [← hF] at hO hlen hS2
            clear hF
            obtain ⟨F', hF'⟩ : ∃ F', F' = (d.take (k + 1)).filter (· != -v) := ⟨_, rfl⟩
            rw [← hF'] at hS2
            have HF' : Hid _ := hF'
            clear hF'
            generalize d.getD k 0 = q at *
            have hI1 := intsAt_fresh wr q 3
            go_wp2_with (at_builtin; refine wpList_append_ints rfl (.tmp 72) (.tmp 77) rfl rfl rfl (hO.ex (Ex.alloc _ _)) hI1 ?c1 ?c2 ?_)
            case c1 => have := hlen.out; have := hFl.out; simp only [List.length_append, List.length_cons, List.length_nil]; omega
            case c2 => exact Nat.le_trans hsz (by show _ ≤ (wr.heap.push _).size; simp)
            intro v2 w2 hown hg
            have hx2 : Ex w w2 := grown_ex (hxr.alloc' _) hg (ownsRow_block hO)
            have hown2 : OwnI w2 w.heap.size v2 (F1 ++ (F ++ [q])) := hown
            clear hg hown hO hI1
            go_wp2
            go_roundw
            case rel => exact ⟨k + 1, by omega, by go_num, by rw [← HF'.out, hS2.out]; exact hown2, hx2⟩
            case measure => simp [intOf]; omega
          · have hq' : (d.getD k 0 != -v) = false := by simpa using hq
            rw [if_neg hq, List.append_nil] at hS
            have hS2 : Hid _ := hS
            clear hS hq hlen
            generalize d.getD k 0 = q at *
            go_wp2
            go_roundw
            case rel => exact ⟨k + 1, by omega, by go_num, by rw [hS2.out]; exact hO, hxr⟩
            case measure => simp [intOf]; omega
        · obtain rfl : k = d.length := by omega
          rw [List.take_length] at hO
          have hE := HE.out
          rw [← hE] at hO
          have hI := hO.ints
          obtain ⟨p6, q6, rfl, _, _, _⟩ := hI
          have hI := hO.ints
          have hOr := HO.out _ _ hI
          have HOr : Hid _ := hOr
          clear hOr HO HE hE hO hI
          go_wp2_with fail
          refine Calls.mono HOr.out ?_
          rintro e w7 ⟨v7, rfl, hO7, hx7⟩
          have hO := hO7.base hxr.size
          go_wp2
          go_ret2
          exact ⟨_, rfl, hO, hxr.trans hx7⟩
end Go.Proofs.Yteaidblcjhbjnaa
