/- Chapter 12: UnitEnds, UnitFollows: the walks. No condition. -/
import Derived.Test.YtlaejhmpnlcceaaLaw12c
import Derived.Test.YtlaejhmpnlcceaaEval
namespace Go.Proofs.Ytlaejhmpnlcceaa
set_option linter.unusedSimpArgs false
set_option linter.unusedVariables false
open Go.RowKit
set_option maxRecDepth 100000 in
set_option maxHeartbeats 4000000 in
theorem UnitEnds_any (n : Int) (lv av : Value) (ll : List (List Int)) (ds : List Int) (w : World) (hR : RowsAt w lv ll) (hl : IntsAt w av ds) :
    Calls Try.prog 7 #[.agg #[.int .i64 n, lv], av] w fun e w' => e = .returned (.bool true) ∧ Ex w w' := by
  have HL : Hid (∀ wa, Ex w wa → Calls Try.prog 10 #[.agg #[.int .i64 n, lv]] wa (AnyB wa)) := fun wa hx => few12_any n lv ll wa (hR.ex hx)
  have H1 : Hid (∀ wa, Ex w wa → Calls Try.prog 12 #[.agg #[.int .i64 n, lv], av] wa (TrailRet 50 wa (trailL n ll ds) (trailC n ll ds) (trailE n ll ds))) := fun wa hx => unitTrail_any n lv av ll ds wa (hR.ex hx) (hl.ex hx)
  have hgl : Hid ((trailL n ll ds).length ≤ 257) := (trail_good (n := n) (ll := ll) (ds := ds)).length
  have hok : Hid (trailE n ll ds = 0 → theoryErr n ll = 0 ∧ (trailC n ll ds < 0 → ∀ c ∈ ll, falseT (trailL n ll ds) c = false ∧ unitT (trailL n ll ds) c = 0)) := fun h => ⟨(askB_iff.1 (trailE_zero h).1).1, fun hc => trail_ends h hc⟩
  generalize trailL n ll ds = tr at *
  generalize trailC n ll ds = tc at *
  generalize trailE n ll ds = te at *
  have H3 : Hid (∀ wa u, StepsAt wa u tr → Calls Try.prog 15 #[u] wa (GivenRet wa tr)) := fun wa u h => given12_any u tr wa h (by have := hgl.out; omega)
  have hR0 := hR
  have hl0 := hl
  obtain ⟨ra, rcap, rfl, r1, r2, r3⟩ := hR
  obtain ⟨a, cap, rfl, h1, h2, h3⟩ := hl
  unfold maxLen at r2 h2
  clear r3 h3
  go_enter Try.func7, Try.ntmps7
  go_wp2_with fail
  generalize hwa : w.alloc (.cells #[.int .i64 n, .slice ra ll.length rcap] 24) = wa
  have hxa : Ex w wa := hwa ▸ Ex.alloc _ _
  have hT : OwnB wa w.heap.size [.int .i64 n, .slice ra ll.length rcap] 24 := hwa ▸ OwnB.new w [.int .i64 n, .slice ra ll.length rcap] 24
  clear hwa
  refine (HL.out _ hxa).mono ?_
  rintro e w2 ⟨b, rfl, hx2⟩
  replace hxa := hxa.trans hx2
  replace hT := hT.ex hx2
  clear hx2 HL
  have c0 := hT.cell 0
  have c1 := hT.cell 1
  have zB := hT.lt
  cases b
  · go_wp2_with (refine (works12_any _).mono ?_; rintro e w' ⟨rfl, hx⟩)
    go_ret
    exact ⟨rfl, hxa.trans hx⟩
  by_cases hlen : 100 < ds.length
  · go_wp2_with (refine (works12_any _).mono ?_; rintro e w' ⟨rfl, hx⟩)
    go_ret
    exact ⟨rfl, hxa.trans hx⟩
  go_wp2_with fail
  refine (H1.out _ hxa).mono ?_
  rintro e w3 ⟨v1, rfl, ho1, hx2⟩
  have hI1 := ho1.steps
  obtain ⟨p1, q1, rfl, _, _, _⟩ := hI1
  have hI1 := ho1.steps
  clear ho1
  replace hxa := hxa.trans hx2
  replace hT := hT.ex hx2
  clear c0 c1 zB
  have c0 := hT.cell 0
  have c1 := hT.cell 1
  have zB := hT.lt
  clear hx2 H1
  by_cases he : te = 0
  rotate_left
  · have heb : (te != 0) = true := by simp [he]
    clear he hok
    go_wp2_with (refine (works12_any _).mono ?_; rintro e w' ⟨rfl, hx⟩)
    go_ret
    exact ⟨rfl, hxa.trans hx⟩
  obtain ⟨ht, hfu⟩ := hok.out he
  have hll : ll.length ≤ 4096 := (theoryErr_zero ht).2.2.1
  subst he
  by_cases htc : tc < 0
  rotate_left
  · clear hok hfu ht
    go_wp2_with (refine (works12_any _).mono ?_; rintro e w' ⟨rfl, hx⟩)
    go_ret
    exact ⟨rfl, hxa.trans hx⟩
  have HT : Hid (theoryErr n ll = 0) := ht
  have HFU : Hid (∀ c ∈ ll, falseT tr c = false ∧ unitT tr c = 0) := hfu htc
  clear hok ht hfu
  have HRw : Hid (RowsAt w3 (.slice ra ll.length rcap) ll) := hR0.ex hxa
  go_wp2_with fail
  go_loopw [8] (fun i wr => ∃ k : Nat, k ≤ ll.length ∧ i = .int .i64 k ∧ Ex w3 wr) (fun i _ => ll.length - (intOf i).toNat)
  case atStart => exact ⟨0, Nat.zero_le _, rfl, Ex.refl _⟩
  case round =>
    obtain ⟨k, hk, rfl, hxr⟩ := hrel
    have c0 := ex_cell c0 hxr
    have c1 := ex_cell c1 hxr
    have zB := cell_lt c0
    by_cases hlt : k < ll.length
    · obtain ⟨_, _, hv, _, _, h3⟩ := HRw.out.ex hxr
      cases hv
      obtain ⟨rb, roff, rv, rfl, hrb, hrc, hrow⟩ := h3 k hlt
      have hmem : ll.getD k [] ∈ ll := by rw [getD_getElem hlt]; exact List.getElem_mem hlt
      obtain ⟨hf, hu⟩ := HFU.out _ hmem
      have hlv : ∀ x ∈ ll.getD k [], -128 ≤ x ∧ x ≤ 128 := fun x hx => by
        have := ((theoryErr_zero HT.out).2.2.2 _ hmem).2 x hx
        rw [litValid_iff] at this; omega
      have HF : Hid (∀ wa sv cv, StepsAt wa sv tr → IntsAt wa cv (ll.getD k []) → Calls Try.prog 21 #[sv, cv] wa fun e w' => e = .returned (.bool false) ∧ wa = w') := fun wa sv cv h1 h2 => by
        have := r12False_any sv cv tr _ wa h1 h2 hlv
        rwa [hf] at this
      have HU : Hid (∀ wa sv cv, StepsAt wa sv tr → IntsAt wa cv (ll.getD k []) → Calls Try.prog 20 #[sv, cv] wa fun e w' => e = .returned (.int .i64 0) ∧ wa = w') := fun wa sv cv h1 h2 => by
        have := r12Unit_any sv cv tr _ wa h1 h2 hlv
        rwa [hu] at this
      clear h3 hf hu hlv hmem
      generalize ll.getD k [] = row at *
      have hrow0 := hrow
      obtain ⟨ca, ccap, rfl, _, _, _⟩ := hrow
      have y3 : (k : Int) < (ll.length : Int) := by omega
      have y4 : (0 : Int) ≤ (k : Int) := by omega
      have hst := (hI1.ex hxr)
      go_wp2_with fail
      go_region_held3 (fun w' => w'.cell? ⟨w.heap.size, 1, none⟩ = some (.slice (some ⟨rb, roff, none⟩) ll.length rcap) ∧ w'.cell? ⟨rb, roff + k, none⟩ = some (.slice ca row.length ccap))
        (first | go_keep | (go_split_ands; refine ⟨?_, ?_⟩ <;> first | exact ex_cell c1 hxG | exact ex_cell hrc hxG | exact ex_cell c1 hxG2 | exact ex_cell hrc hxG2))
        ((first
          | (go_at_call 15; refine (H3.out _ _ (hst.ex hxG)).mono ?_; rintro e w6 ⟨vG2, rfl, hoG2, hxG2'⟩; have hxG2 := hxG.trans hxG2'; have hsG2 := hoG2.steps; obtain ⟨pG2, qG2, rfl, _, _, _⟩ := hsG2; have hsG2 := hoG2.steps)
          | (go_at_call 15; refine (H3.out _ _ (hst.ex (Ex.refl wr).drew)).mono ?_; rintro e w5 ⟨vG, rfl, hoG, hxG'⟩; have hxG := (Ex.refl wr).drew.trans hxG'; have hsG := hoG.steps; obtain ⟨pG, qG, rfl, _, _, _⟩ := hsG; have hsG := hoG.steps)
          | (go_at_call 21; refine (HF.out _ _ _ hsG (hrow0.ex hxG)).mono ?_; rintro e w' ⟨rfl, rfl⟩)
          | (go_at_call 20; refine (HU.out _ _ _ hsG2 (hrow0.ex hxG2)).mono ?_; rintro e w' ⟨rfl, rfl⟩)))
      go_wp2
      go_roundw
      case rel => exact ⟨k + 1, by omega, by go_num, hxr.trans hxG2⟩
      case measure => simp [intOf]; omega
    · obtain rfl : k = ll.length := by omega
      have hxx := hxa.trans hxr
      go_wp2_with (refine (works12_any _).mono ?_; rintro e w' ⟨rfl, hx⟩)
      go_ret
      exact ⟨rfl, hxx.trans hx⟩
set_option maxRecDepth 100000 in
set_option maxHeartbeats 4000000 in
theorem UnitFollows_any (n : Int) (lv av : Value) (x y : Nat) (ll : List (List Int)) (ds : List Int) (w : World) (hR : RowsAt w lv ll) (hl : IntsAt w av ds) (hx0 : x < 18446744073709551616) (hy0 : y < 18446744073709551616) :
    Calls Try.prog 6 #[.agg #[.int .i64 n, lv], av, .agg #[.int .u64 x, .int .u64 y]] w fun e w' => e = .returned (.bool true) ∧ Ex w w' := by
  have HL : Hid (∀ wa, Ex w wa → Calls Try.prog 10 #[.agg #[.int .i64 n, lv]] wa (AnyB wa)) := fun wa hx => few12_any n lv ll wa (hR.ex hx)
  have HEv : Hid (∀ wa, Ex w wa → Calls Try.prog 22 #[.agg #[.int .i64 n, lv], .agg #[.int .u64 x, .int .u64 y]] wa fun e w' => e = .returned (.bool (evalB n ll x y)) ∧ Ex wa w') := fun wa hx => r05Eval_any n lv ll x y wa (hR.ex hx)
  have H1 : Hid (∀ wa, Ex w wa → Calls Try.prog 12 #[.agg #[.int .i64 n, lv], av] wa (TrailRet 50 wa (trailL n ll ds) (trailC n ll ds) (trailE n ll ds))) := fun wa hx => unitTrail_any n lv av ll ds wa (hR.ex hx) (hl.ex hx)
  have HAl : Hid (∀ wa u m, IntsAt wa u m → Calls Try.prog 23 #[.agg #[.int .u64 x, .int .u64 y], u] wa fun e w' => e = .returned (.bool (m.all (holdsB x y))) ∧ Ex wa w') := fun wa u m h => r04All_any x y u m wa h
  have HHo : Hid (∀ wa q, Calls Try.prog 24 #[.agg #[.int .u64 x, .int .u64 y], .int .i64 q] wa fun e w' => e = .returned (.bool (holdsB x y q)) ∧ Ex wa w') := fun wa q => r04Holds_any x y q wa
  have hok : Hid (trailE n ll ds = 0 → evalB n ll x y = true → (∀ s ∈ trailL n ll ds, 0 ≤ s.lev ∧ s.lev ≤ ds.length ∧ ((ds.take s.lev.toNat).all (holdsB x y) = true → holdsB x y s.lit = true)) ∧ (0 ≤ trailC n ll ds → ds.all (holdsB x y) = false)) := fun h hm => trail_follows h hm
  generalize trailL n ll ds = tr at *
  generalize trailC n ll ds = tc at *
  generalize trailE n ll ds = te at *
  have HEB : Hid (evalB n ll x y = evalB n ll x y) := rfl
  generalize evalB n ll x y = EB at *
  clear HEB hx0 hy0
  have hR0 := hR
  have hl0 := hl
  obtain ⟨ra, rcap, rfl, r1, r2, r3⟩ := hR
  obtain ⟨a, cap, rfl, h1, h2, h3⟩ := hl
  unfold maxLen at r2 h2
  clear r3 h3
  have o1 := OwnB.new w [.int .i64 n, .slice ra ll.length rcap] 24
  have o2 := OwnB.new (w.alloc (.cells #[.int .i64 n, .slice ra ll.length rcap] 24)) [.int .u64 x, .int .u64 y] 48
  simp only [alloc_size] at o2
  replace o1 := o1.ex (Ex.alloc _ (.cells #[.int .u64 x, .int .u64 y] 48))
  have hxa : Ex w _ := (Ex.alloc w (.cells #[.int .i64 n, .slice ra ll.length rcap] 24)).alloc' (.cells #[.int .u64 x, .int .u64 y] 48)
  go_enter Try.func6, Try.ntmps6
  go_wp2_with fail
  generalize (w.alloc (.cells #[.int .i64 n, .slice ra ll.length rcap] 24)).alloc (.cells #[.int .u64 x, .int .u64 y] 48) = wa at *
  generalize w.heap.size + 1 = B2 at *
  refine (HL.out _ hxa).mono ?_
  rintro e w2 ⟨b, rfl, hx2⟩
  replace hxa := hxa.trans hx2
  replace o1 := o1.ex hx2
  replace o2 := o2.ex hx2
  clear hx2 HL
  have c0 := o1.cell 0
  have c1 := o1.cell 1
  have d0 := o2.cell 0
  have d1 := o2.cell 1
  have z1 := o1.lt
  have z2 := o2.lt
  cases b
  · go_wp2_with (refine (works12_any _).mono ?_; rintro e w' ⟨rfl, hx⟩)
    go_ret
    exact ⟨rfl, hxa.trans hx⟩
  by_cases hlen : 100 < ds.length
  · go_wp2_with (refine (works12_any _).mono ?_; rintro e w' ⟨rfl, hx⟩)
    go_ret
    exact ⟨rfl, hxa.trans hx⟩
  go_wp2_with fail
  refine (HEv.out _ hxa).mono ?_
  rintro e w3 ⟨rfl, hx2⟩
  replace hxa := hxa.trans hx2
  replace o1 := o1.ex hx2
  replace o2 := o2.ex hx2
  clear hx2 HEv c0 c1 d0 d1 z1 z2
  have c0 := o1.cell 0
  have c1 := o1.cell 1
  have d0 := o2.cell 0
  have d1 := o2.cell 1
  have z1 := o1.lt
  have z2 := o2.lt
  cases EB
  · go_wp2_with (refine (works12_any _).mono ?_; rintro e w' ⟨rfl, hx⟩)
    go_ret
    exact ⟨rfl, hxa.trans hx⟩
  go_wp2_with fail
  refine (H1.out _ hxa).mono ?_
  rintro e w4 ⟨v1, rfl, ho1, hx2⟩
  have hI1 := ho1.steps
  obtain ⟨p1, q1, rfl, _, _, _⟩ := hI1
  have hI1 := ho1.steps
  clear ho1
  replace hxa := hxa.trans hx2
  replace o2 := o2.ex hx2
  clear hx2 H1 c0 c1 d0 d1 z1 z2 o1
  have d0 := o2.cell 0
  have d1 := o2.cell 1
  have z2 := o2.lt
  by_cases he : te = 0
  rotate_left
  · have heb : (te != 0) = true := by simp [he]
    clear he hok
    go_wp2_with (refine (works12_any _).mono ?_; rintro e w' ⟨rfl, hx⟩)
    go_ret
    exact ⟨rfl, hxa.trans hx⟩
  obtain ⟨hs1, hs2⟩ := hok.out he (by trivial)
  have HS1 : Hid (∀ s ∈ tr, 0 ≤ s.lev ∧ s.lev ≤ ds.length ∧ ((ds.take s.lev.toNat).all (holdsB x y) = true → holdsB x y s.lit = true)) := hs1
  have HS2 : Hid (0 ≤ tc → ds.all (holdsB x y) = false) := hs2
  subst he
  clear hok hs1 hs2
  have hdw : IntsAt w4 (.slice a ds.length cap) ds := hl0.ex hxa
  go_wp2_with fail
  go_loopw [10] (fun i wr => ∃ k : Nat, k ≤ tr.length ∧ i = .int .i64 k ∧ Ex w4 wr) (fun i _ => tr.length - (intOf i).toNat)
  case atStart => exact ⟨0, Nat.zero_le _, rfl, Ex.refl _⟩
  case round =>
    obtain ⟨k, hk, rfl, hxr⟩ := hrel
    have d0 := ex_cell d0 hxr
    have d1 := ex_cell d1 hxr
    have z2 := cell_lt d0
    by_cases hlt : k < tr.length
    · obtain ⟨_, _, hv, m1, m2, h3⟩ := hI1.ex hxr
      cases hv
      unfold maxLen at m2
      obtain ⟨b, off, rfl, hb, s0, s1, s2⟩ := h3 k hlt
      obtain ⟨j1, j2, j3⟩ := HS1.out _ (show tr.getD k default ∈ tr by rw [getD_getElem hlt]; exact List.getElem_mem hlt)
      obtain ⟨m, hm⟩ : ∃ m : Nat, (tr.getD k default).lev = m := ⟨(tr.getD k default).lev.toNat, by omega⟩
      rw [hm] at s2 j1 j2 j3
      simp only [Int.toNat_natCast] at j3
      have hdt := (hdw.ex hxr).take (i := m) (by omega)
      have HA1 : Hid (∀ wb, Ex wr wb → Calls Try.prog 23 #[.agg #[.int .u64 x, .int .u64 y], .slice a m cap] wb fun e w' => e = .returned (.bool ((ds.take m).all (holdsB x y))) ∧ Ex wb w') := fun wb hx => HAl.out wb _ _ (hdt.ex hx)
      have HB1 : Hid (∀ wb, Calls Try.prog 24 #[.agg #[.int .u64 x, .int .u64 y], .int .i64 (tr.getD k default).lit] wb fun e w' => e = .returned (.bool (holdsB x y (tr.getD k default).lit)) ∧ Ex wb w') := fun wb => HHo.out wb _
      have J3 : Hid _ := j3
      have e1 : ¬ (m : Int) < 0 := by omega
      have e2 : ¬ (ds.length : Int) < (m : Int) := by omega
      have e3 : (0 : Int) ≤ (m : Int) := by omega
      have e4 : (m : Int) ≤ (ds.length : Int) := by omega
      have e5 : (m : Int) ≤ (cap : Int) := by omega
      have y3 : (k : Int) < (tr.length : Int) := by omega
      have y4 : (0 : Int) ≤ (k : Int) := by omega
      clear h3 hm j3 HAl HHo
      generalize holdsB x y (tr.getD k default).lit = HH at *
      generalize (ds.take m).all (holdsB x y) = AA at *
      generalize (tr.getD k default).lit = x0 at *
      generalize (tr.getD k default).why = x1 at *
      have d0x := ext_cell d0
      have d1x := ext_cell d1
      have s0x := ext_cell s0
      have s2x := ext_cell s2
      cases AA
      · go_wp2
        refine wp_region_quiet_ext (by kernel_rfl) (by kernel_rfl) ?_
        repeat (go_big_quiet_step ((first | (go_at_call 23; exact Calls.quiet_ext (HA1.out _ (ex_ext _ _))) | (go_at_call 24; exact Calls.quiet_ext (HB1.out _)))))
        refine wpQuiet_nil ?_
        intro w6 hx6
        go_wp2
        go_roundw
        case rel => exact ⟨k + 1, by omega, by go_num, hxr.trans hx6⟩
        case measure => simp [intOf]; omega
      · obtain rfl := J3.out rfl
        go_wp2
        refine wp_region_quiet_ext (by kernel_rfl) (by kernel_rfl) ?_
        repeat (go_big_quiet_step ((first | (go_at_call 23; exact Calls.quiet_ext (HA1.out _ (ex_ext _ _))) | (go_at_call 24; exact Calls.quiet_ext (HB1.out _)))))
        refine wpQuiet_nil ?_
        intro w6 hx6
        go_wp2
        go_roundw
        case rel => exact ⟨k + 1, by omega, by go_num, hxr.trans hx6⟩
        case measure => simp [intOf]; omega
    · obtain rfl : k = tr.length := by omega
      have hxx := hxa.trans hxr
      by_cases htc : tc < 0
      · go_wp2_with (refine (works12_any _).mono ?_; rintro e w' ⟨rfl, hx⟩)
        go_ret
        exact ⟨rfl, hxx.trans hx⟩
      · have hal := HS2.out (by omega)
        have HA1 := HAl.out wr _ _ (hdw.ex hxr)
        rw [hal] at HA1
        have HA2 : Hid _ := HA1
        clear hal HA1 HS1 HS2 HAl HHo
        go_wp2_with fail
        refine Calls.mono HA2.out ?_
        rintro e w6 ⟨rfl, hx6⟩
        go_wp2_with (refine (works12_any _).mono ?_; rintro e w' ⟨rfl, hx⟩)
        go_ret
        exact ⟨rfl, (hxx.trans hx6).trans hx⟩
end Go.Proofs.Ytlaejhmpnlcceaa
