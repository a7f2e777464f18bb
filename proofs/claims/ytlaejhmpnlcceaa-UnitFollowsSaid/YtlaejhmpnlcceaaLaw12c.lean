/- Chapter 12: UnitReasons, UnitFollows, UnitEnds: the walks. No condition. -/
import Derived.Test.YtlaejhmpnlcceaaLaw12a
import Derived.Test.YtlaejhmpnlcceaaUnitR
import Derived.Test.YtlaejhmpnlcceaaEval
namespace Go.Proofs.Ytlaejhmpnlcceaa
set_option linter.unusedSimpArgs false
set_option linter.unusedVariables false
open Go.RowKit
theorem StepsAt.take {w : World} {a : Option Addr} {n cap : Nat} {tr : List St} (h : StepsAt w (.slice a n cap) tr) {i : Nat} (hi : i ≤ tr.length) : StepsAt w (.slice a i cap) (tr.take i) := by
  obtain ⟨a', cap', hv, h1, h2, h3⟩ := h
  cases hv
  refine ⟨a, cap, by rw [List.length_take_of_le hi], by rw [List.length_take_of_le hi]; omega, h2, fun k hk => ?_⟩
  rw [List.length_take_of_le hi] at hk
  obtain ⟨b, off, ha, hb, c0, c1, c2⟩ := h3 k (by omega)
  have e : (tr.take i).getD k default = tr.getD k default := by rw [getD_getElem (by rw [List.length_take_of_le hi]; exact hk), getD_getElem (by omega), List.getElem_take]
  exact ⟨b, off, ha, hb, by rw [e]; exact c0, by rw [e]; exact c1, by rw [e]; exact c2⟩
set_option maxRecDepth 100000 in
set_option maxHeartbeats 4000000 in
theorem UnitReasons_any (n : Int) (lv av : Value) (ll : List (List Int)) (ds : List Int) (w : World) (hR : RowsAt w lv ll) (hl : IntsAt w av ds) :
    Calls Try.prog 5 #[.agg #[.int .i64 n, lv], av] w fun e w' => e = .returned (.bool true) ∧ Ex w w' := by
  have HL : Hid (∀ wa, Ex w wa → Calls Try.prog 10 #[.agg #[.int .i64 n, lv]] wa (AnyB wa)) := fun wa hx => few12_any n lv ll wa (hR.ex hx)
  have H1 : Hid (∀ wa, Ex w wa → Calls Try.prog 12 #[.agg #[.int .i64 n, lv], av] wa (TrailRet 50 wa (trailL n ll ds) (trailC n ll ds) (trailE n ll ds))) := fun wa hx => unitTrail_any n lv av ll ds wa (hR.ex hx) (hl.ex hx)
  have hgl : Hid ((trailL n ll ds).length ≤ 257) := (trail_good (n := n) (ll := ll) (ds := ds)).length
  have hbad : Hid (trailE n ll ds ≠ 0 → trailL n ll ds = [] ∧ trailC n ll ds = 0) := trail_bad
  have hok : Hid (trailE n ll ds = 0 → theoryErr n ll = 0 ∧ Good n (trailL n ll ds) ∧ Just ll (trailL n ll ds) ∧ EndOk ll (trailL n ll ds, trailC n ll ds)) := fun h => ⟨(askB_iff.1 (trailE_zero h).1).1, trail_steps h⟩
  generalize trailL n ll ds = tr at *
  generalize trailC n ll ds = tc at *
  generalize trailE n ll ds = te at *
  have H3 : Hid (∀ wa u, StepsAt wa u tr → Calls Try.prog 15 #[u] wa (GivenRet wa tr)) := fun wa u h => given12_any u tr wa h (by have := hgl.out; omega)
  have hR0 := hR
  have hl0 := hl
  obtain ⟨ra, rcap, rfl, r1, r2, r3⟩ := hR
  obtain ⟨a, cap, rfl, h1, h2, h3⟩ := hl
  unfold maxLen at r2 h2
  clear r3 h3
  go_enter Try.func5, Try.ntmps5
  go_wp2_with fail
  generalize hwa : w.alloc (.cells #[.int .i64 n, .slice ra ll.length rcap] 24) = wa
  have hxa : Ex w wa := hwa ▸ Ex.alloc _ _
  have hT : OwnB wa w.heap.size [.int .i64 n, .slice ra ll.length rcap] 24 := hwa ▸ OwnB.new w [.int .i64 n, .slice ra ll.length rcap] 24
  clear hwa
  refine (HL.out _ hxa).mono ?_
  rintro e w2 ⟨b, rfl, hx2⟩
  replace hxa := hxa.trans hx2
  replace hT := hT.ex hx2
  clear hx2 HL
  have c0 := hT.cell 0
  have c1 := hT.cell 1
  have zB := hT.lt
  cases b
  · go_wp2_with (refine (works12_any _).mono ?_; rintro e w' ⟨rfl, hx⟩)
    go_ret
    exact ⟨rfl, hxa.trans hx⟩
  by_cases hlen : 100 < ds.length
  · go_wp2_with (refine (works12_any _).mono ?_; rintro e w' ⟨rfl, hx⟩)
    go_ret
    exact ⟨rfl, hxa.trans hx⟩
  go_wp2_with fail
  refine (H1.out _ hxa).mono ?_
  rintro e w3 ⟨v1, rfl, ho1, hx2⟩
  have hI1 := ho1.steps
  obtain ⟨p1, q1, rfl, _, _, _⟩ := hI1
  have hI1 := ho1.steps
  clear ho1
  replace hxa := hxa.trans hx2
  replace hT := hT.ex hx2
  clear c0 c1 zB
  have c0 := hT.cell 0
  have c1 := hT.cell 1
  have zB := hT.lt
  clear hx2 H1
  by_cases he : te = 0
  rotate_left
  · obtain ⟨rfl, rfl⟩ := hbad.out he
    have heb : (te != 0) = true := by simp [he]
    clear he hbad hok
    go_wp2_with (refine (works12_any _).mono ?_; rintro e w' ⟨rfl, hx⟩)
    go_ret
    exact ⟨rfl, hxa.trans hx⟩
  obtain ⟨ht, hg, hj, hend⟩ := hok.out he
  have hll : ll.length ≤ 4096 := (theoryErr_zero ht).2.2.1
  subst he
  have HT : Hid (theoryErr n ll = 0) := ht
  have HG : Hid (Good n tr) := hg
  have HJ : Hid (Just ll tr) := hj
  have HE : Hid (EndOk ll (tr, tc)) := hend
  clear hbad hok ht hg hj hend
  go_wp2_with fail
  refine (H3.out _ _ hI1).mono ?_
  rintro e w4 ⟨v3, rfl, ho3, hx2⟩
  have hI3 := ho3.steps
  obtain ⟨p3, q3, rfl, _, _, _⟩ := hI3
  have hI3 := ho3.steps
  clear ho3
  replace hxa := hxa.trans hx2
  replace hT := hT.ex hx2
  clear c0 c1 zB
  have c0 := hT.cell 0
  have c1 := hT.cell 1
  have zB := hT.lt
  clear hx2 H3 hI1
  have HRw : Hid (RowsAt w4 (.slice ra ll.length rcap) ll) := hR0.ex hxa
  go_wp2_with fail
  go_loopw [9] (fun i wr => ∃ k : Nat, k ≤ tr.length ∧ i = .int .i64 k ∧ Ex w4 wr) (fun i _ => tr.length - (intOf i).toNat)
  case atStart => exact ⟨0, Nat.zero_le _, rfl, Ex.refl _⟩
  case round =>
    obtain ⟨k, hk, rfl, hxr⟩ := hrel
    by_cases hlt : k < tr.length
    · have hst := hI3.ex hxr
      obtain ⟨_, _, hv, m1, m2, h3⟩ := hst
      cases hv
      unfold maxLen at m2
      obtain ⟨b, off, rfl, hb, s0, s1, s2⟩ := h3 k hlt
      clear h3
      obtain ⟨j1, j2, j3, j4⟩ := HJ.out k hlt
      have hlv := HG.out.val _ (show tr.getD k default ∈ tr by rw [getD_getElem hlt]; exact List.getElem_mem hlt)
      rw [litValid_iff] at hlv
      obtain ⟨_, l1, l2, _, _⟩ := hlv
      have hstk := (hI3.ex hxr).take (i := k) (by omega)
      have HOp : Hid (∀ wa, Ex wr wa → Calls Try.prog 19 #[.slice (some ⟨b, off, none⟩) k q3, .int .i64 (tr.getD k default).lit] wa fun e w' => e = .returned (.bool true) ∧ wa = w') := fun wa hx => by
        have := r12Open_any _ (tr.take k) _ wa l1 l2 (hstk.ex hx)
        rwa [j1] at this
      have hq : (0 : Int) ≤ (k : Int) := by omega
      have hq1 : (k : Int) ≤ (tr.length : Int) := by omega
      have hq2 : (k : Int) ≤ (q3 : Int) := by omega
      have ec : (0 : Int) ≤ (tr.getD k default).why → ∃ m : Nat, (tr.getD k default).why = m ∧ m < ll.length ∧ unitT (tr.take k) (ll.getD m []) = (tr.getD k default).lit := fun h => ⟨(tr.getD k default).why.toNat, by omega, by omega, j4 h⟩
      have EC : Hid _ := ec
      clear j1 j4 ec
      generalize (tr.getD k default).lit = x0 at *
      generalize (tr.getD k default).why = x1 at *
      generalize (tr.getD k default).lev = x2 at *
      have c0 := ex_cell c0 hxr
      have c1 := ex_cell c1 hxr
      go_wp2
      generalize hw5 : wr.alloc (.cells #[.int .i64 x0, .int .i64 x1, .int .i64 x2] 42) = w5
      have hx5 : Ex wr w5 := hw5 ▸ Ex.alloc _ _
      have t0 : w5.cell? ⟨wr.heap.size, 0, none⟩ = some (.int .i64 x0) := by rw [← hw5]; simp
      have t1 : w5.cell? ⟨wr.heap.size, 1, none⟩ = some (.int .i64 x1) := by rw [← hw5]; simp
      clear hw5
      replace c0 := ex_cell c0 hx5
      replace c1 := ex_cell c1 hx5
      have t0x := ext_cell t0
      have t1x := ext_cell t1
      have c1x := ext_cell c1
      have y1 : ¬ (ll.length : Int) ≤ x1 := by omega
      have y2 : ¬ x1 < -1 := by omega
      refine wp_region_quiet_ext (by kernel_rfl) (by kernel_rfl) ?_
      repeat (go_big_quiet_step ((go_at_call 19; exact Calls.quiet_ext_same (HOp.out _ (hx5.trans (ex_ext _ _))))))
      refine wpQuiet_nil ?_
      intro w6 hx6
      replace c1 := ex_cell c1 hx6
      replace t0 := ex_cell t0 hx6
      replace t1 := ex_cell t1 hx6
      replace hx5 := hx5.trans hx6
      clear t0x t1x c1x hx6 HOp
      have t0x := ext_cell t0
      have t1x := ext_cell t1
      have c1x := ext_cell c1
      by_cases hy : 0 ≤ x1
      · obtain ⟨m, rfl, hm, hu⟩ := EC.out hy
        obtain ⟨_, _, hv, _, _, h3⟩ := HRw.out.ex (hxr.trans hx5)
        cases hv
        obtain ⟨rb, roff, rv, rfl, hrb, hrc, hrow⟩ := h3 m hm
        have hrcx := ext_cell hrc
        have HUn : Hid (∀ wa, Ex w6 wa → Calls Try.prog 20 #[.slice (some ⟨b, off, none⟩) k q3, rv] wa fun e w' => e = .returned (.int .i64 x0) ∧ wa = w') := fun wa hx => by
          have := r12Unit_any _ rv (tr.take k) (ll.getD m []) wa (hstk.ex (hx5.trans hx)) (hrow.ex hx) (fun x hx => by
            have := ((theoryErr_zero HT.out).2.2.2 (ll.getD m []) (by rw [getD_getElem hm]; exact List.getElem_mem hm)).2 x hx
            rw [litValid_iff] at this; omega)
          rwa [hu] at this
        have y3 : (m : Int) < (ll.length : Int) := by omega
        have y4 : (0 : Int) ≤ (m : Int) := by omega
        have y5 : decide ((0 : Int) ≤ (m : Int)) = true := by simp
        have y6 : (x0 != x0) = false := by simp
        clear h3 hu EC hy y1 y2 j2 j3
        obtain ⟨ca, ccap, rfl, _, _, _⟩ := hrow
        generalize ll.getD m [] = row at *
        go_wp2
        refine wp_region_quiet_ext (by kernel_rfl) (by kernel_rfl) ?_
        repeat (go_big_quiet_step ((go_at_call 20; exact Calls.quiet_ext_same (HUn.out _ (ex_ext _ _)))))
        refine wpQuiet_nil ?_
        intro w7 hx7
        go_wp2
        go_roundw
        case rel => exact ⟨k + 1, by omega, by go_num, (hxr.trans hx5).trans hx7⟩
        case measure => simp [intOf]; omega
      · obtain rfl : x1 = -1 := by omega
        clear EC hy
        go_wp2
        refine wp_region_quiet_ext (by kernel_rfl) (by kernel_rfl) ?_
        repeat (go_big_quiet_step ((fail)))
        refine wpQuiet_nil ?_
        intro w7 hx7
        go_wp2
        go_roundw
        case rel => exact ⟨k + 1, by omega, by go_num, (hxr.trans hx5).trans hx7⟩
        case measure => simp [intOf]; omega
    · obtain rfl : k = tr.length := by omega
      have c0 := ex_cell c0 hxr
      have c1 := ex_cell c1 hxr
      have zB := cell_lt c0
      have hst := hI3.ex hxr
      have hxx := hxa.trans hxr
      rcases HE.out with ⟨h, _⟩ | ⟨m, h, hm, hf⟩
      · simp only at h
        subst h
        clear HE
        go_wp2_with (refine (works12_any _).mono ?_; rintro e w' ⟨rfl, hx⟩)
        go_ret
        exact ⟨rfl, hxx.trans hx⟩
      · simp only at h
        subst h
        obtain ⟨_, _, hv, _, _, h3⟩ := HRw.out.ex hxr
        cases hv
        obtain ⟨rb, roff, rv, rfl, hrb, hrc, hrow⟩ := h3 m hm
        have HFa := r12False_any _ rv tr (ll.getD m []) wr hst hrow (fun x hx => by
            have := ((theoryErr_zero HT.out).2.2.2 (ll.getD m []) (by rw [getD_getElem hm]; exact List.getElem_mem hm)).2 x hx
            rw [litValid_iff] at this; omega)
        simp only at hf
        rw [hf] at HFa
        have HFb : Hid _ := HFa
        obtain ⟨ca, ccap, rfl, _, _, _⟩ := hrow
        clear HE h3 hf HFa
        generalize ll.getD m [] = row at *
        go_wp2_with fail
        refine Calls.mono HFb.out ?_
        rintro e w' ⟨rfl, rfl⟩
        go_wp2_with (refine (works12_any _).mono ?_; rintro e w' ⟨rfl, hx⟩)
        go_ret
        exact ⟨rfl, hxx.trans hx⟩
end Go.Proofs.Ytlaejhmpnlcceaa
