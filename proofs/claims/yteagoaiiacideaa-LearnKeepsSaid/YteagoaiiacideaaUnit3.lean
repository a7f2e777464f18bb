/- unit.Trail: the trail of decisions, the conflict, the error. No condition. -/
import Derived.Test.YteagoaiiacideaaUnit2
import Derived.Test.YteagoaiiacideaaG2
import Derived.Test.YteagoaiiacideaaG1
namespace Go.Proofs.Yteagoaiiacideaa
set_option linter.unusedSimpArgs false
set_option linter.unusedVariables false
open Go.RowKit
set_option maxHeartbeats 1000000 in
theorem unitTrail1_any (x n : Int) (B : Nat) (w : World) (s0 : w.cell? ⟨B, 0, none⟩ = some (.int .i64 n)) :
    Calls Try.prog 57 #[.int .i64 x, .pointer (some ⟨B, 0, none⟩)] w fun e w' => e = .returned (.bool (!litValid x n)) ∧ Ex w w' := by
  have HH : Hid (∀ wa, Calls Try.prog 45 #[.int .i64 x, .int .i64 n] wa fun e w' => e = .returned (.bool (litValid x n)) ∧ wa = w') := fun wa => litValid_any x n wa
  generalize litValid x n = r at *
  go_enter Try.func57, Try.ntmps57
  go_wp2_with fail
  refine (HH.out _).mono ?_
  rintro e w2 ⟨rfl, rfl⟩
  go_wp2
  go_ret
  exact ⟨rfl, Ex.refl _⟩
theorem Try.zero63 : Try.zeroCells97 = (stateV 0 (.slice none 0 0) (.slice none 0 0) []).toArray := by kernel_rfl
theorem state_new (w : World) (n : Int) (lv : Value) : Uni w (w.alloc (.cells ((Try.zeroCells97.setIfInBounds 0 (.int .i64 n)).setIfInBounds 1 lv) 97)) w.heap.size n lv [] := by
  have e : (Try.zeroCells97.setIfInBounds 0 (.int .i64 n)).setIfInBounds 1 lv = (stateV n lv (.slice none 0 0) []).toArray := by
    rw [Try.zero63, List.setIfInBounds_toArray, List.setIfInBounds_toArray]; rfl
  rw [e]
  exact ⟨⟨_, OwnB.new w (stateV n lv (.slice none 0 0) []) _, OwnS.nil _ _ _⟩, Ex.alloc _ _, Nat.le_refl _⟩
/-- What Trail hands back: steps in new memory, the conflict, the error. -/
def TrailRet (et : TypeId) (w : World) (tr : List St) (c er : Int) (e : Ending) (w' : World) : Prop := ∃ v, e = .returned (.tuple #[v, .int .i64 c, .int .i64 er]) ∧ OwnS w' et w.heap.size v tr ∧ Ex w w'
set_option maxRecDepth 100000 in
set_option maxHeartbeats 4000000 in
theorem unitTrail_any (n : Int) (lv av : Value) (ll : List (List Int)) (ds : List Int) (w : World) (hR : RowsAt w lv ll) (hl : IntsAt w av ds) :
    Calls Try.prog 31 #[.agg #[.int .i64 n, lv], av] w (TrailRet 55 w (trailL n ll ds) (trailC n ll ds) (trailE n ll ds)) := by
  have HCk : Hid (∀ wa, Ex w wa → Calls Try.prog 49 #[.agg #[.int .i64 n, lv]] wa fun e w' => e = .returned (.int .i64 (theoryErr n ll)) ∧ Ex wa w') := fun wa hx => theoryCheck_any n lv ll wa (hR.ex hx)
  have HCf : Hid (∀ (wa : World) (B : Nat), Ex w wa → wa.cell? ⟨B, 0, none⟩ = some (.int .i64 n) → Calls Try.prog 56 #[av, .func (.func 57) #[] #[.pointer (some ⟨B, 0, none⟩)]] wa fun e w' => e = .returned (.bool (!ds.all (litValid · n))) ∧ Ex wa w') := fun wa B hx hc => by
    have := has_unit_Trail1 av (.pointer (some ⟨B, 0, none⟩)) ds (fun u => !litValid u n) wa (hl.ex hx) (fun wb x _ hx' => unitTrail1_any x n B wb (ex_cell hc hx'))
    rwa [show ds.any (fun u => !litValid u n) = !ds.all (litValid · n) by rw [List.all_eq_not_any_not]; simp] at this
  have hR0 := hR
  have hl0 := hl
  obtain ⟨ra, rcap, rfl, r1, r2, r3⟩ := hR
  obtain ⟨a, cap, rfl, h1, h2, h3⟩ := hl
  unfold maxLen at r2 h2
  clear r3 h3
  by_cases ht : theoryErr n ll = 0
  rotate_left
  · have ha : ¬ askB n ll ds = true := fun h => ht (askB_iff.1 h).1
    have e1 : trailL n ll ds = [] := by unfold trailL; rw [if_neg ha]
    have e2 : trailC n ll ds = 0 := by unfold trailC; rw [if_neg ha]
    have e3 : trailE n ll ds = 1 := by unfold trailE; rw [if_neg ha]
    have hne : (theoryErr n ll != 0) = true := by simp [ht]
    rw [e1, e2, e3]
    clear e1 e2 e3 ha ht HCf
    generalize theoryErr n ll = er at *
    go_enter Try.func31, Try.ntmps31
    go_wp2_with fail
    refine (HCk.out _ (Ex.alloc _ _)).mono ?_
    rintro e w2 ⟨rfl, hx2⟩
    go_wp2
    go_ret3
    exact ⟨_, rfl, OwnS.nil _ _ _, (Ex.alloc _ _).trans hx2⟩
  rw [ht] at HCk
  by_cases hd : ds.all (litValid · n) = true
  rotate_left
  · have ha : ¬ askB n ll ds = true := fun h => hd (List.all_eq_true.2 (askB_iff.1 h).2)
    have e1 : trailL n ll ds = [] := by unfold trailL; rw [if_neg ha]
    have e2 : trailC n ll ds = 0 := by unfold trailC; rw [if_neg ha]
    have e3 : trailE n ll ds = 1 := by unfold trailE; rw [if_neg ha]
    have hd' : ds.all (litValid · n) = false := by simpa using hd
    rw [hd'] at HCf
    rw [e1, e2, e3]
    clear e1 e2 e3 ha ht hd hd'
    go_enter Try.func31, Try.ntmps31
    go_wp2_with fail
    have c0 : (w.alloc (.cells #[.int .i64 n, .slice ra ll.length rcap] 24)).cell? ⟨w.heap.size, 0, none⟩ = some (.int .i64 n) := by simp
    refine (HCk.out _ (Ex.alloc _ _)).mono ?_
    rintro e w2 ⟨rfl, hx2⟩
    replace c0 := ex_cell c0 hx2
    have hx := (Ex.alloc w (.cells #[.int .i64 n, .slice ra ll.length rcap] 24)).trans hx2
    clear hx2
    go_wp2_with fail
    refine (HCf.out _ _ hx c0).mono ?_
    rintro e w3 ⟨rfl, hx2⟩
    go_wp2
    go_ret3
    exact ⟨_, rfl, OwnS.nil _ _ _, hx.trans hx2⟩
  rw [hd] at HCf
  have hval : Hid (∀ d ∈ ds, litValid d n = true) := List.all_eq_true.1 hd
  have HT : Hid (theoryErr n ll = 0) := ht
  have HRes : Hid (trailL n ll ds = (match trailO ll ds with | some s => s.1 | none => []) ∧ trailC n ll ds = (match trailO ll ds with | some s => s.2 | none => 0) ∧ trailE n ll ds = (match trailO ll ds with | some _ => 0 | none => 8)) := by
    show _ ∧ _ ∧ _
    have ha : askB n ll ds = true := askB_iff.2 ⟨ht, List.all_eq_true.1 hd⟩
    unfold trailL trailC trailE
    rw [if_pos ha, if_pos ha, if_pos ha]
    exact ⟨rfl, rfl, rfl⟩
  generalize trailL n ll ds = RL at *
  generalize trailC n ll ds = RC at *
  generalize trailE n ll ds = RE at *
  clear ht hd
  go_enter Try.func31, Try.ntmps31
  go_wp2_with fail
  generalize hwa : w.alloc (.cells #[.int .i64 n, .slice ra ll.length rcap] 24) = wa
  have hxa : Ex w wa := hwa ▸ Ex.alloc _ _
  have hT : BoxT wa w.heap.size n (.slice ra ll.length rcap) := ⟨by rw [← hwa]; simp, by rw [← hwa]; simp⟩
  clear hwa
  refine (HCk.out _ hxa).mono ?_
  rintro e w2 ⟨rfl, hx2⟩
  replace hxa := hxa.trans hx2
  replace hT := hT.ex hx2
  clear hx2
  have c0 := hT.c0
  have c1 := hT.c1
  go_wp2_with fail
  refine (HCf.out _ _ hxa c0).mono ?_
  rintro e w3 ⟨rfl, hx2⟩
  replace hxa := hxa.trans hx2
  replace hT := hT.ex hx2
  clear hx2 c0 c1 HCk HCf
  have c0 := hT.c0
  have c1 := hT.c1
  go_wp2_with fail
  have hRw : Hid (RowsAt w3 (.slice ra ll.length rcap) ll) := hR0.ex hxa
  have hU := state_new w3 n (.slice ra ll.length rcap)
  generalize hw4 : w3.alloc (.cells ((Try.zeroCells97.setIfInBounds 0 (.int .i64 n)).setIfInBounds 1 (.slice ra ll.length rcap)) 97) = w4 at *
  clear hw4 hT c0 c1
  generalize Value.agg ((Try.zeroCells97.setIfInBounds 0 (.int .i64 n)).setIfInBounds 1 (.slice ra ll.length rcap)) = zv at *
  generalize hSe : w3.heap.size = S at *
  have hSle : w.heap.size ≤ S + 1 := by have := hxa.size; omega
  clear hSe
  have HPr : Hid (∀ wb tr lev, Uni w3 wb S n (.slice ra ll.length rcap) tr → Good n tr → Calls Try.prog 58 #[.pointer (some ⟨S, 0, none⟩), .int .i64 lev] wb (PropU w3 S n (.slice ra ll.length rcap) (propL ll tr lev))) := fun wb tr lev h g =>
    unitPropagate_any w3 wb S n _ ll tr lev hRw.out HT.out h g
  refine (HPr.out _ [] 0 hU (Good.nil n)).mono ?_
  rintro e w5 ⟨rfl, hU5⟩
  have hP0 := prop_ind (P := fun _ => True) HT.out (lev := 0) (fun _ _ _ _ _ _ => trivial) _ [] rfl (Good.nil n) trivial
  obtain ⟨hg0, _, _⟩ := hP0
  have hO0 : Hid (trailO ll ds = trailF ll (ds.drop 0) 0 (propL ll [] 0)) := rfl
  clear hU
  generalize propL ll [] 0 = s0 at *
  go_wp2_with fail
  go_loopw [5, 25] (fun cf ix wr => ∃ (k : Nat) (s : List St × Int), k ≤ ds.length ∧ ix = .int .i64 k ∧ cf = .int .i64 s.2 ∧ Uni w3 wr S n (.slice ra ll.length rcap) s.1 ∧ Hid (Good n s.1) ∧ Hid (trailO ll ds = trailF ll (ds.drop k) k s)) (fun _ ix _ => ds.length - (intOf ix).toNat)
  case atStart => exact ⟨0, s0, Nat.zero_le _, rfl, rfl, hU5, hg0, hO0⟩
  case round =>
    obtain ⟨k, s, hk, rfl, rfl, hu, hg, ho⟩ := hrel
    obtain ⟨tr, cf⟩ := s
    simp only at hu hg ho ⊢
    have hfin : Hid ((k = ds.length ∨ 0 ≤ cf) → RL = tr ∧ RC = cf ∧ RE = 0) := fun h => by
      have e : trailF ll (ds.drop k) k (tr, cf) = some (tr, cf) := by
        rcases h with h | h
        · rw [List.drop_eq_nil_of_le (by omega)]; rfl
        · cases ds.drop k with
          | nil => rfl
          | cons d t => simp only [trailF, if_pos h]
      obtain ⟨r1, r2, r3⟩ := HRes.out
      rw [ho.out, e] at r1 r2 r3
      exact ⟨r1, r2, r3⟩
    by_cases hend : k = ds.length ∨ 0 ≤ cf
    · obtain ⟨rfl, rfl, rfl⟩ := hfin.out hend
      have huu := hu
      obtain ⟨⟨sv, hS, hown⟩, hx, hlow⟩ := hu
      have c2 : wr.cell? ⟨S, 2, none⟩ = some sv := hS.cell 2
      have zS := hS.lt
      have hO : OwnS wr 55 w.heap.size sv RL := hown.base hSle
      have hxw := hxa.trans hx
      obtain ⟨pa, pc, rfl, _, _, _⟩ := hO.steps
      clear hfin ho hg hS hown huu HRes HPr hO0 hU5 hg0
      by_cases hlt : k < ds.length
      · have hc : 0 ≤ RC := by omega
        obtain ⟨_, _, hv, _, _, h3⟩ := hl0.ex hxw
        cases hv
        obtain ⟨b, off, rfl, hb, hcell⟩ := h3 k hlt
        clear h3
        generalize ds.getD k 0 = d at *
        go_wp2
        go_ret3
        exact ⟨_, rfl, hO, hxw⟩
      · obtain rfl : k = ds.length := by omega
        clear hend
        go_wp2
        go_ret3
        exact ⟨_, rfl, hO, hxw⟩
    · have hlt : k < ds.length := by omega
      have hcf : cf < 0 := by omega
      have hd0 : ds.getD k 0 ∈ ds := by rw [getD_getElem hlt]; exact List.getElem_mem hlt
      have hdv := hval.out _ hd0
      have hdb := (litValid_iff _ _).1 hdv
      have hstep : trailF ll (ds.drop k) k (tr, cf) = if trueT tr (-(ds.getD k 0)) = true then none else trailF ll (ds.drop (k + 1)) (k + 1) (propL ll (if trueT tr (ds.getD k 0) = true then tr else tr ++ [⟨ds.getD k 0, -1, (k : Int) + 1⟩]) ((k : Int) + 1)) := by
        rw [List.drop_eq_getElem_cons hlt, getD_getElem hlt]
        simp only [trailF]
        rw [if_neg (show ¬ 0 ≤ cf by omega)]
      have ho2 := ho.out
      rw [hstep] at ho2
      have HO2 : Hid _ := ho2
      obtain ⟨hb0, hb1, hb2, hb3, hb4⟩ := hdb
      have hgl := hg.out.length
      clear hfin ho ho2 hstep hend hd0 hO0 hg0
      have huu := hu
      obtain ⟨⟨sv, hS, hown⟩, hx, hlow⟩ := hu
      have hxw := hxa.trans hx
      obtain ⟨_, _, hv, _, _, h3⟩ := hl0.ex hxw
      cases hv
      obtain ⟨b, off, rfl, hb, hcell⟩ := h3 k hlt
      clear h3
      generalize ds.getD k 0 = d at *
      have HA1 : Hid (∀ wa, Calls Try.prog 59 #[.int .i64 d] wa fun e w' => e = .returned (.int .i64 (atN d)) ∧ wa = w') := fun wa => unitAt_any d hb1 hb2 wa
      have HA2 : Hid (∀ wa, Calls Try.prog 59 #[.int .i64 (-d)] wa fun e w' => e = .returned (.int .i64 (atN (-d))) ∧ wa = w') := fun wa => unitAt_any (-d) (by omega) (by omega) wa
      have d1 := hS.cell (3 + atN d)
      rw [stateV_tab n _ sv tr hb1 hb2] at d1
      have d2 := hS.cell (3 + atN (-d))
      rw [stateV_tab n _ sv tr (show -128 ≤ -d by omega) (show -d ≤ 128 by omega)] at d2
      have a1 := atN_lt hb1 hb2
      have a2 := atN_lt (show -128 ≤ -d by omega) (show -d ≤ 128 by omega)
      have q1 : ((atN d : Nat) : Int) < 258 := by omega
      have q2 : ((atN (-d) : Nat) : Int) < 258 := by omega
      have zS := hS.lt
      clear hS hown
      have hge : (0 : Int) ≤ k := by omega
      have HAdd : Hid (openT tr d = true → ∀ wa, Uni w3 wa S n (.slice ra ll.length rcap) tr → Calls Try.prog 60 #[.pointer (some ⟨S, 0, none⟩), .agg #[.int .i64 d, .int .i64 (-1), .int .i64 ((k : Int) + 1)]] wa fun e w' => e = .returned (.tuple #[]) ∧ Uni w3 w' S n (.slice ra ll.length rcap) (tr ++ [⟨d, -1, (k : Int) + 1⟩])) := fun _ wa h =>
        unitAdd_any w3 wa S n _ tr ⟨d, -1, (k : Int) + 1⟩ h hb1 hb2 hb0 (by omega)
      by_cases hneg : trueT tr (-d) = true
      · rw [hneg] at d2
        rw [if_pos hneg] at HO2
        obtain ⟨r1, r2, r3⟩ := HRes.out
        rw [HO2.out] at r1 r2 r3
        simp only at r1 r2 r3
        subst r1 r2 r3
        clear hneg HO2 HRes d1 HA1 HPr HAdd hU5
        generalize atN (-d) = k2 at *
        have d2x := ext_cell d2
        go_wp2
        refine wp_region_quiet_ext (by kernel_rfl) (by kernel_rfl) ?_
        repeat (go_big_quiet_step ((go_at_call 59; exact Calls.quiet_ext_same (HA2.out _))))
        refine wpQuiet_nil ?_
        intro w8 hx8
        go_wp2
        go_ret3
        exact ⟨_, rfl, OwnS.nil _ _ _, hxw.trans hx8⟩
      · have hneg' : trueT tr (-d) = false := by simpa using hneg
        rw [hneg'] at d2
        rw [if_neg hneg] at HO2
        by_cases hpos : trueT tr d = true
        · rw [hpos] at d1
          rw [if_pos hpos] at HO2
          have hres : Hid (trailO ll ds = trailF ll (ds.drop (k + 1)) (k + 1) (propL ll tr ((k : Int) + 1))) := HO2
          have hnx := prop_ind (P := fun _ => True) HT.out (lev := (k : Int) + 1) (fun _ _ _ _ _ _ => trivial) _ tr rfl hg.out trivial
          obtain ⟨hgn, _, _⟩ := hnx
          have hgn2 : Hid _ := hgn
          have HPc : Hid (∀ wb, Uni w3 wb S n (.slice ra ll.length rcap) tr → Calls Try.prog 58 #[.pointer (some ⟨S, 0, none⟩), .int .i64 ((k : Int) + 1)] wb (PropU w3 S n (.slice ra ll.length rcap) (propL ll tr ((k : Int) + 1)))) := fun wb h => HPr.out wb tr _ h hg.out
          clear hneg hneg' hpos HO2 HPr HAdd hU5 hgn hgl hdv
          generalize propL ll tr ((k : Int) + 1) = s2 at *
          generalize atN d = k1 at *
          generalize atN (-d) = k2 at *
          have d2x := ext_cell d2
          go_wp2
          refine wp_region_quiet_ext (by kernel_rfl) (by kernel_rfl) ?_
          repeat (go_big_quiet_step ((go_at_call 59; exact Calls.quiet_ext_same (HA2.out _))))
          refine wpQuiet_nil ?_
          intro w8 hx8
          replace d1 := ex_cell d1 hx8
          have d1x := ext_cell d1
          clear d2 d2x
          go_wp2
          refine wp_region_quiet_ext (by kernel_rfl) (by kernel_rfl) ?_
          repeat (go_big_quiet_step ((go_at_call 59; exact Calls.quiet_ext_same (HA1.out _))))
          refine wpQuiet_nil ?_
          intro w9 hx9
          have hu9 := (huu.more hx8).more hx9
          clear d1 d1x
          go_wp2_with fail
          refine (HPc.out _ hu9).mono ?_
          rintro e w10 ⟨rfl, hu10⟩
          clear HPc hu9 huu HA1 HA2
          go_wp2
          go_roundw
          case rel => exact ⟨k + 1, s2, by omega, by go_num, rfl, hu10, hgn2, hres⟩
          case measure => simp [intOf]; omega
        · have hpos' : trueT tr d = false := by simpa using hpos
          rw [hpos'] at d1
          rw [if_neg hpos] at HO2
          have hop : openT tr d = true := openT_iff.2 ⟨hpos', hneg'⟩
          have hg2 : Good n (tr ++ [⟨d, -1, (k : Int) + 1⟩]) := hg.out.add hdv hop
          have hres : Hid (trailO ll ds = trailF ll (ds.drop (k + 1)) (k + 1) (propL ll (tr ++ [⟨d, -1, (k : Int) + 1⟩]) ((k : Int) + 1))) := HO2
          have hnx := prop_ind (P := fun _ => True) HT.out (lev := (k : Int) + 1) (fun _ _ _ _ _ _ => trivial) _ _ rfl hg2 trivial
          obtain ⟨hgn, _, _⟩ := hnx
          have hgn2 : Hid _ := hgn
          have HAd : Hid _ := HAdd.out hop
          have HPc : Hid (∀ wb, Uni w3 wb S n (.slice ra ll.length rcap) (tr ++ [⟨d, -1, (k : Int) + 1⟩]) → Calls Try.prog 58 #[.pointer (some ⟨S, 0, none⟩), .int .i64 ((k : Int) + 1)] wb (PropU w3 S n (.slice ra ll.length rcap) (propL ll (tr ++ [⟨d, -1, (k : Int) + 1⟩]) ((k : Int) + 1)))) := fun wb h => HPr.out wb _ _ h hg2
          clear hneg hneg' hpos hpos' HO2 HPr HAdd hU5 hgn hgl hdv hop hg2
          generalize propL ll (tr ++ [⟨d, -1, (k : Int) + 1⟩]) ((k : Int) + 1) = s2 at *
          generalize tr ++ [(⟨d, -1, (k : Int) + 1⟩ : St)] = tr2 at *
          generalize atN d = k1 at *
          generalize atN (-d) = k2 at *
          have d2x := ext_cell d2
          go_wp2
          refine wp_region_quiet_ext (by kernel_rfl) (by kernel_rfl) ?_
          repeat (go_big_quiet_step ((go_at_call 59; exact Calls.quiet_ext_same (HA2.out _))))
          refine wpQuiet_nil ?_
          intro w8 hx8
          replace d1 := ex_cell d1 hx8
          have d1x := ext_cell d1
          clear d2 d2x
          go_wp2
          refine wp_region_quiet_ext (by kernel_rfl) (by kernel_rfl) ?_
          repeat (go_big_quiet_step ((go_at_call 59; exact Calls.quiet_ext_same (HA1.out _))))
          refine wpQuiet_nil ?_
          intro w9 hx9
          have hu9 := (huu.more hx8).more hx9
          clear d1 d1x
          go_wp2_with fail
          refine (HAd.out _ hu9).mono ?_
          rintro e w10 ⟨rfl, hu10⟩
          clear HAd hu9 huu HA1 HA2
          go_wp2_with fail
          refine (HPc.out _ hu10).mono ?_
          rintro e w11 ⟨rfl, hu11⟩
          clear HPc hu10
          go_wp2
          go_roundw
          case rel => exact ⟨k + 1, s2, by omega, by go_num, rfl, hu11, hgn2, hres⟩
          case measure => simp [intOf]; omega
end Go.Proofs.Yteagoaiiacideaa
