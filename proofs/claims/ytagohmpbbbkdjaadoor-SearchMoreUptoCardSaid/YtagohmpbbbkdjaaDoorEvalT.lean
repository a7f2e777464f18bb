/- theory.Eval: whether a theory is true in a set; old memory stays. No condition. -/
import Derived.Test.YtagohmpbbbkdjaaDoorVars2
import Derived.Test.YtagohmpbbbkdjaaDoorTruth
import Derived.Test.YtagohmpbbbkdjaaDoorEval
import Derived.Test.YtagohmpbbbkdjaaDoorRef14b
namespace Go.Proofs.YtagohmpbbbkdjaaDoor
set_option linter.unusedSimpArgs false
set_option linter.unusedVariables false
open Go.RowKit
set_option maxRecDepth 20000
def evalT (n : Int) (ll : List (List Int)) (x y : Nat) : Bool := decide (theoryErr n ll = 0) && (subB x y (allV n.toNat).1 (allV n.toNat).2 && clausesB ll x y)
set_option maxHeartbeats 2000000 in
theorem theoryEval_any (n : Int) (lv : Value) (ll : List (List Int)) (x y : Nat) (hx : x < 18446744073709551616) (hy : y < 18446744073709551616) (w : World) (hR : RowsAt w lv ll) :
    Calls Tryd.prog 11 #[.agg #[.int .i64 n, lv], setV x y] w fun e w' => e = .returned (.bool (evalT n ll x y)) ∧ Ex w w' := by
  have hR0 := hR
  obtain ⟨ra, rcap, rfl, _, hr2, r3⟩ := hR
  unfold maxLen at hr2
  clear r3
  have HR : Hid (RowsAt w (.slice ra ll.length rcap) ll) := hR0
  have HCk : Hid (∀ wa, Ex w wa → Calls Tryd.prog 13 #[.agg #[.int .i64 n, .slice ra ll.length rcap]] wa fun e w' => e = .returned (.int .i64 (theoryErr n ll)) ∧ Ex wa w') := fun wa hx => theoryCheck_any n _ ll wa (hR0.ex hx)
  have HAll : Hid (theoryErr n ll = 0 → ∀ wa, Calls Tryd.prog 29 #[.int .i64 n] wa fun e w' => e = .returned (setV (allV n.toNat).1 (allV n.toNat).2) ∧ Ex wa w') := fun h wa => varsAll_any n (theoryErr_zero h).1 (theoryErr_zero h).2.1 wa
  have HSub : Hid (∀ wa, Calls Tryd.prog 28 #[setV x y, setV (allV n.toNat).1 (allV n.toNat).2] wa fun e w' => e = .returned (.bool (subB x y (allV n.toNat).1 (allV n.toNat).2)) ∧ Ex wa w') := fun wa => varsSub_any x y _ _ hx hy (allV_lt _).1 (allV_lt _).2 wa
  have HAny : Hid (∀ wa cv c, IntsAt wa cv c → Calls Tryd.prog 30 #[setV x y, cv] wa fun e w' => e = .returned (.bool (c.any (holdsB x y))) ∧ Ex wa w') := fun wa cv c h => litAny_any x y hx hy cv c wa h
  have HV : Hid (evalT n ll x y = (decide (theoryErr n ll = 0) && (subB x y (allV n.toNat).1 (allV n.toNat).2 && clausesB ll x y))) := rfl
  unfold setV at *
  have oT := (OwnB.new w [.int .i64 n, .slice ra ll.length rcap] 24).ex (Ex.alloc _ (.cells #[.int .u64 x, .int .u64 y] 30))
  have oS := OwnB.new (w.alloc (.cells #[.int .i64 n, .slice ra ll.length rcap] 24)) [.int .u64 x, .int .u64 y] 30
  have hx0 := (Ex.alloc w (.cells #[.int .i64 n, .slice ra ll.length rcap] 24)).alloc' (.cells #[.int .u64 x, .int .u64 y] 30)
  rw [alloc_size] at oS
  clear hR0 hx hy
  generalize evalT n ll x y = B at *
  generalize (allV n.toNat).1 = A1 at *
  generalize (allV n.toNat).2 = A2 at *
  generalize subB x y A1 A2 = sB at *
  generalize hER : theoryErr n ll = ER at *
  clear hER
  go_enter Tryd.func11, Tryd.ntmps11
  go_wp2_with fail
  have hB1 : w.heap.size < w.heap.size + 1 := Nat.lt_succ_self _
  generalize (w.alloc (.cells #[.int .i64 n, .slice ra ll.length rcap] 24)).alloc (.cells #[.int .u64 x, .int .u64 y] 30) = w1 at *
  generalize w.heap.size + 1 = B1 at *
  have c0 := oT.cell 0
  have c1 := oT.cell 1
  have s0 := oS.cell 0
  have s1 := oS.cell 1
  have c0x := ext_cell c0
  have c1x := ext_cell c1
  have s0x := ext_cell s0
  have s1x := ext_cell s1
  by_cases he : ER = 0
  rotate_left
  · have hB : B = false := by rw [HV.out]; simp [he]
    have he' : (ER != 0) = true := by simp [he]
    subst hB
    clear HV HAny HSub HAll HR
    refine wp_region_quiet_ext (by kernel_rfl) (by kernel_rfl) ?_
    repeat (go_big_quiet_step ((first | (go_at_call 13; exact Calls.quiet_ext (HCk.out _ (hx0.trans (ex_ext _ _)))) | fail)))
    refine wpQuiet_nil ?_
    intro w8 hx8
    go_wp2
    go_ret
    exact ⟨rfl, hx0.trans hx8⟩
  subst he
  have HAll' : Hid _ := HAll.out rfl
  have hB : B = (sB && clausesB ll x y) := by rw [HV.out]; simp
  subst hB
  clear HV HAll
  have HY : Hid ((∀ j, j < ll.length → (ll.getD j []).any (holdsB x y) = true) → clausesB ll x y = true) := fun h => by
    unfold clausesB; rw [List.all_eq_true]
    intro c hc
    obtain ⟨j, hj, e⟩ := List.getElem_of_mem hc
    have := h j hj
    rwa [getD_getElem hj, e] at this
  have HN : Hid (∀ j, j < ll.length → (ll.getD j []).any (holdsB x y) = false → clausesB ll x y = false) := fun j hj h => by
    unfold clausesB; rw [List.all_eq_false]
    exact ⟨ll.getD j [], by rw [getD_getElem hj]; exact List.getElem_mem hj, by rw [h]; simp⟩
  cases sB with
  | false =>
    clear HAny HR HY HN
    refine wp_region_quiet_ext (by kernel_rfl) (by kernel_rfl) ?_
    repeat (go_big_quiet_step ((first | (go_at_call 13; exact Calls.quiet_ext (HCk.out _ (hx0.trans (ex_ext _ _)))) | (go_at_call 29; exact Calls.quiet_ext (HAll'.out _)) | (go_at_call 28; exact Calls.quiet_ext (HSub.out _)) | fail)))
    refine wpQuiet_nil ?_
    intro w8 hx8
    go_wp2
    go_ret
    exact ⟨rfl, hx0.trans hx8⟩
  | true =>
    refine wp_region_quiet_ext (by kernel_rfl) (by kernel_rfl) ?_
    repeat (go_big_quiet_step ((first | (go_at_call 13; exact Calls.quiet_ext (HCk.out _ (hx0.trans (ex_ext _ _)))) | (go_at_call 29; exact Calls.quiet_ext (HAll'.out _)) | (go_at_call 28; exact Calls.quiet_ext (HSub.out _)) | fail)))
    refine wpQuiet_nil ?_
    intro w8 hx8
    have hx9 := hx0.trans hx8
    have oT8 := oT.ex hx8
    have oS8 := oS.ex hx8
    clear oT oS c0 c1 s0 s1 c0x c1x s0x s1x HCk HSub HAll' hx0 hx8
    have c0 := oT8.cell 0
    have c1 := oT8.cell 1
    have z0 := oT8.lt
    go_wp2
    clear c0 c1 z0
    go_loopw [21] (fun i wr => ∃ k : Nat, k ≤ ll.length ∧ i = .int .i64 k ∧ Ex w8 wr ∧ Hid (∀ j, j < k → (ll.getD j []).any (holdsB x y) = true)) (fun i _ => ll.length - (intOf i).toNat)
    case atStart => exact ⟨0, Nat.zero_le _, rfl, Ex.refl _, fun j hj => (by omega)⟩
    case round =>
      obtain ⟨k, hk, rfl, hxr, hd⟩ := hrel
      have s0 := (oS8.ex hxr).cell 0
      have s1 := (oS8.ex hxr).cell 1
      have zS := (oS8.ex hxr).lt
      by_cases hlt : k < ll.length
      · obtain ⟨_, _, hv, _, _, h3⟩ := HR.out.ex (hx9.trans hxr)
        cases hv
        obtain ⟨rb, roff, rv, rfl, hrb, hrc, hrr⟩ := h3 k hlt
        have HC : Hid _ := HAny.out wr rv _ hrr
        obtain ⟨ca, ccap, rfl, q1, q2, q3⟩ := hrr
        clear h3 q3
        cases hq : (ll.getD k []).any (holdsB x y) with
        | true =>
          have hd2 : Hid (∀ j, j < k + 1 → (ll.getD j []).any (holdsB x y) = true) := fun j hj => by
            by_cases hjk : j = k
            · subst hjk; exact hq
            · exact hd.out j (by omega)
          rw [hq] at HC
          clear hd hq HY HN HAny HR
          generalize ll.getD k [] = row at *
          go_wp2_with fail
          refine Calls.mono HC.out ?_
          rintro e w3 ⟨rfl, hx3⟩
          clear HC s0 s1 zS
          go_wp2
          go_roundw
          case rel => exact ⟨k + 1, by omega, by go_num, hxr.trans hx3, hd2⟩
          case measure => simp [intOf]; omega
        | false =>
          have hCB : Hid (clausesB ll x y = false) := HN.out k hlt hq
          rw [hq] at HC
          clear hd hq HY HN HAny HR
          generalize ll.getD k [] = row at *
          go_wp2_with fail
          refine Calls.mono HC.out ?_
          rintro e w3 ⟨rfl, hx3⟩
          clear HC s0 s1 zS
          go_wp2
          go_ret
          exact ⟨ret_bool (by rw [hCB.out]; try rfl), (hx9.trans hxr).trans hx3⟩
      · have hCB : Hid (clausesB ll x y = true) := HY.out fun j hj => hd.out j (by omega)
        clear hd HY HN HAny HR
        go_wp2
        go_ret
        exact ⟨ret_bool (by rw [hCB.out]; try rfl), hx9.trans hxr⟩
end Go.Proofs.YtagohmpbbbkdjaaDoor
