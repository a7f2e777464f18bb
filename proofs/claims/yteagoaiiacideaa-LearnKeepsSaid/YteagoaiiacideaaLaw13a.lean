/- Chapter 13: list, works, light. No condition. -/
import Derived.Test.YteagoaiiacideaaLaw13s
import Derived.Test.YteagoaiiacideaaLearn4
import Derived.Test.YteagoaiiacideaaLearn5
import Derived.Test.YteagoaiiacideaaLearn6
namespace Go.Proofs.Yteagoaiiacideaa
set_option linter.unusedSimpArgs false
set_option linter.unusedVariables false
open Go.RowKit
set_option maxRecDepth 20000
set_option maxHeartbeats 2000000 in
theorem list13_any (av bv : Value) (l m : List Int) (w : World) (hl : IntsAt w av l) (hm : IntsAt w bv m) :
    Calls Try.prog 28 #[av, bv] w fun e w' => e = .returned (.bool (decide (l = m))) ∧ Ex w w' := by
  have hl0 := hl
  have hm0 := hm
  obtain ⟨a, cap, rfl, h1, h2, h3⟩ := hl
  obtain ⟨b, bap, rfl, g1, g2, g3⟩ := hm
  unfold maxLen at h2 g2
  clear h3 g3
  by_cases hlen : l.length = m.length
  · have hne : (((l.length : Int)) != (m.length : Int)) = false := by simp; omega
    have H : Hid (l.length = m.length) := hlen
    have fin : Hid ((∀ j, j < l.length → l.getD j 0 = m.getD j 0) → decide (l = m) = true) := fun h => by
      rw [decide_eq_true_iff]
      refine List.ext_getElem hlen fun i h1 h2 => ?_
      have := h i h1
      rwa [getD_getElem h1, getD_getElem h2] at this
    have fin2 : Hid (∀ j, j < l.length → l.getD j 0 ≠ m.getD j 0 → decide (l = m) = false) := fun j hj h => by
      rw [decide_eq_false_iff_not]; intro e; rw [e] at h; exact h rfl
    have hle : l.length ≤ m.length := by omega
    clear hlen
    generalize decide (l = m) = res at *
    go_enter Try.func28, Try.ntmps28
    go_wp2
    go_loopw [13] (fun i wr => ∃ k : Nat, k ≤ l.length ∧ i = .int .i64 k ∧ Hid (∀ j, j < k → l.getD j 0 = m.getD j 0) ∧ Ex w wr) (fun i _ => l.length - (intOf i).toNat)
    case atStart => exact ⟨0, Nat.zero_le _, rfl, fun j hj => by omega, Ex.refl _⟩
    case round =>
      obtain ⟨k, hk, rfl, hall, hxr⟩ := hrel
      by_cases hlt : k < l.length
      · have hlr := hl0.ex hxr
        obtain ⟨_, _, hv, _, _, h3⟩ := hlr
        cases hv
        obtain ⟨lb, lo, rfl, hb, hc⟩ := h3 k hlt
        have hmr := hm0.ex hxr
        obtain ⟨_, _, hv, _, _, g3⟩ := hmr
        cases hv
        have hltm : k < m.length := by omega
        obtain ⟨mb, mo, rfl, gb, gc⟩ := g3 k hltm
        clear h3 g3
        have hcx := ext_cell hc
        have gcx := ext_cell gc
        have q1 : (k : Int) < (l.length : Int) := by omega
        have q2 : (k : Int) < (m.length : Int) := by omega
        by_cases he : l.getD k 0 = m.getD k 0
        · have hall2 : Hid (∀ j, j < k + 1 → l.getD j 0 = m.getD j 0) := fun j hj => by
            by_cases hjm : j = k
            · subst hjm; exact he
            · exact hall.out j (by omega)
          have hne2 : (l.getD k 0 != m.getD k 0) = false := by simp only [bne_eq_false_iff_eq]; exact he
          clear hall he
          generalize l.getD k 0 = x at *
          generalize m.getD k 0 = y at *
          go_wp2
          refine wp_region_quiet_ext (by kernel_rfl) (by kernel_rfl) ?_
          repeat (go_big_quiet_step ((fail)))
          refine wpQuiet_nil ?_
          intro w2 hx2
          go_wp2
          go_roundw
          case rel => exact ⟨k + 1, by omega, by go_num, hall2, hxr.trans hx2⟩
          case measure => simp [intOf] <;> omega
        · have hfin : Hid (res = false) := fin2.out k hlt he
          have hne2 : (l.getD k 0 != m.getD k 0) = true := by simp only [bne_iff_ne]; exact he
          clear hall fin fin2 he
          generalize l.getD k 0 = x at *
          generalize m.getD k 0 = y at *
          go_wp2
          refine wp_region_quiet_ext (by kernel_rfl) (by kernel_rfl) ?_
          repeat (go_big_quiet_step ((fail)))
          refine wpQuiet_nil ?_
          intro w2 hx2
          go_wp2
          go_ret
          exact ⟨ret_bool hfin.out.symm, hxr.trans hx2⟩
      · have hfin : Hid (res = true) := fin.out fun j hj => hall.out j (by omega)
        clear hall fin fin2
        go_wp2
        go_ret
        exact ⟨ret_bool hfin.out.symm, hxr⟩
  · have hne : (((l.length : Int)) != (m.length : Int)) = true := by simp; omega
    have hfin : Hid (decide (l = m) = false) := by show _ = _; rw [decide_eq_false_iff_not]; intro e; rw [e] at hlen; exact hlen rfl
    clear hlen
    go_enter Try.func28, Try.ntmps28
    go_wp2
    go_ret
    exact ⟨ret_bool hfin.out.symm, Ex.refl _⟩
set_option maxRecDepth 20000 in
set_option maxHeartbeats 4000000 in
theorem works13_any (w : World) : Calls Try.prog 13 #[] w fun e w' => e = .returned (.bool true) ∧ Ex w w' := by
  have H1 : Hid (∀ (wa : World) (lv sv : Value), RowsAt wa lv ex13 → StepsAt wa sv tr13 → Calls Try.prog 15 #[.agg #[.int .i64 4, lv], sv, .int .i64 3] wa (FirstRet wa [-1] 0 0)) := fun wa lv sv hR hS => by
    have := learnFirst_any 4 lv sv ex13 tr13 3 wa hR hS (by decide)
    rwa [show firstL 4 ex13 tr13 3 = [-1] by decide +kernel, show firstK 4 ex13 tr13 3 = 0 by decide +kernel, show firstE 4 ex13 tr13 3 = 0 by decide +kernel] at this
  have H2 : Hid (∀ (wa : World) (lv sv cv : Value), RowsAt wa lv ex13 → StepsAt wa sv tr13 → IntsAt wa cv [-1, -3, -4] → Calls Try.prog 20 #[.agg #[.int .i64 4, lv], sv, cv] wa (RedRet wa [-1] 0)) := fun wa lv sv cv hR hS hc => by
    have := learnRedundant_any 4 lv sv cv ex13 tr13 [-1, -3, -4] wa hR hS hc (by decide) (by decide)
    rwa [show redL 4 ex13 tr13 [-1, -3, -4] = [-1] by decide +kernel, show redE 4 ex13 tr13 [-1, -3, -4] = 0 by decide +kernel] at this
  have H3 : Hid (∀ (wa : World) (lv cv : Value), RowsAt wa lv ex13 → IntsAt wa cv [-1] → Calls Try.prog 22 #[.agg #[.int .i64 4, lv], cv] wa fun e w' => e = .returned (.bool true) ∧ Ex wa w') := fun wa lv cv hR hc => by
    have := learnImplied_any 4 lv cv ex13 [-1] wa hR hc (by decide)
    rwa [show impB 4 ex13 [-1] = true by decide +kernel] at this
  have H4 : Hid (∀ (wa : World) (lv cv : Value), RowsAt wa lv ex13 → IntsAt wa cv [-2] → Calls Try.prog 22 #[.agg #[.int .i64 4, lv], cv] wa fun e w' => e = .returned (.bool false) ∧ Ex wa w') := fun wa lv cv hR hc => by
    have := learnImplied_any 4 lv cv ex13 [-2] wa hR hc (by decide)
    rwa [show impB 4 ex13 [-2] = false by decide +kernel] at this
  have H5 : Hid (∀ (wa : World) (u v : Value) (l : List Int), IntsAt wa u l → IntsAt wa v l → Calls Try.prog 28 #[u, v] wa fun e w' => e = .returned (.bool true) ∧ Ex wa w') := fun wa u v l h k => by
    have := list13_any u v l l wa h k
    rwa [decide_eq_true rfl] at this
  go_enter Try.func13, Try.ntmps13
  go_wp2_with fail
  refine (sample13_any _).mono ?_
  rintro e w1 ⟨lv, sv, rfl, hR, hS, hx⟩
  have oT := OwnB.new w1 [.int .i64 4, lv] 24
  have hx1 := Ex.alloc w1 (.cells #[.int .i64 4, lv] 24)
  replace hx := hx.trans hx1
  replace hR := hR.ex hx1
  replace hS := hS.ex hx1
  have c0 := oT.cell 0
  have c1 := oT.cell 1
  have z0 := oT.lt
  clear hx1
  obtain ⟨ra, rcap, rfl, _, _, _⟩ := id hR
  obtain ⟨sa, scap, rfl, _, _, _⟩ := id hS
  go_wp2_with fail
  refine (H1.out _ _ _ hR hS).mono ?_
  rintro e w2 ⟨v2, rfl, ho2, hx2⟩
  have hI2 := ho2.ints
  obtain ⟨p2, q2, rfl, _, _, _⟩ := id hI2
  replace hx := hx.trans hx2
  replace hR := hR.ex hx2
  replace hS := hS.ex hx2
  replace oT := oT.ex hx2
  clear ho2 hx2 H1 c0 c1 z0
  have hl := litAtN w2 [-1, -3, -4] 3 (by decide)
  have hx3 := Ex.alloc w2 (.cells (intsV [-1, -3, -4]).toArray 3)
  have c0 := (oT.ex hx3).cell 0
  have c1 := (oT.ex hx3).cell 1
  have c0' := oT.cell 0
  have c1' := oT.cell 1
  have z0 := oT.lt
  go_wp2_with fail
  refine (H2.out _ _ _ _ (hR.ex hx3) (hS.ex hx3) hl).mono ?_
  rintro e w4 ⟨v4, rfl, ho4, hx4⟩
  have hI4 := ho4.ints
  obtain ⟨p4, q4, rfl, _, _, _⟩ := id hI4
  replace hx4 := hx3.trans hx4
  replace hI2 := hI2.ex hx4
  replace hx := hx.trans hx4
  replace hR := hR.ex hx4
  replace oT := oT.ex hx4
  clear ho4 hx4 hx3 H2 c0 c1 z0 hl hS c0' c1'
  have hl := litAtN w4 [-1] 3 (by decide)
  have hx3 := Ex.alloc w4 (.cells (intsV [-1]).toArray 3)
  go_wp2_with fail
  refine (H5.out _ _ _ [-1] (hI2.ex hx3) hl).mono ?_
  rintro e w5 ⟨rfl, hx5⟩
  replace hx5 := hx3.trans hx5
  replace hI4 := hI4.ex hx5
  replace hx := hx.trans hx5
  replace hR := hR.ex hx5
  replace oT := oT.ex hx5
  clear hx5 hx3 hl hI2
  have hl := litAtN w5 [-1] 3 (by decide)
  have hx3 := Ex.alloc w5 (.cells (intsV [-1]).toArray 3)
  go_wp2_with fail
  refine (H5.out _ _ _ [-1] (hI4.ex hx3) hl).mono ?_
  rintro e w6 ⟨rfl, hx6⟩
  replace hx6 := hx3.trans hx6
  replace hx := hx.trans hx6
  replace hR := hR.ex hx6
  replace oT := oT.ex hx6
  clear hx6 hx3 hl hI4
  have hl := litAtN w6 [-1] 3 (by decide)
  have hx3 := Ex.alloc w6 (.cells (intsV [-1]).toArray 3)
  have c0 := (oT.ex hx3).cell 0
  have c1 := (oT.ex hx3).cell 1
  have c0' := oT.cell 0
  have c1' := oT.cell 1
  have z0 := oT.lt
  go_wp2_with fail
  refine (H3.out _ _ _ (hR.ex hx3) hl).mono ?_
  rintro e w7 ⟨rfl, hx7⟩
  replace hx7 := hx3.trans hx7
  replace hx := hx.trans hx7
  replace hR := hR.ex hx7
  replace oT := oT.ex hx7
  clear hx7 hx3 hl c0 c1 z0 c0' c1'
  have hl := litAtN w7 [-2] 3 (by decide)
  have hx3 := Ex.alloc w7 (.cells (intsV [-2]).toArray 3)
  have c0 := (oT.ex hx3).cell 0
  have c1 := (oT.ex hx3).cell 1
  have c0' := oT.cell 0
  have c1' := oT.cell 1
  have z0 := oT.lt
  go_wp2_with fail
  refine (H4.out _ _ _ (hR.ex hx3) hl).mono ?_
  rintro e w8 ⟨rfl, hx8⟩
  replace hx := hx.trans (hx3.trans hx8)
  go_wp2
  go_ret
  exact ⟨rfl, hx⟩
def CaseRet (w : World) (ll : List (List Int)) (tr : List St) (c : List Int) (e : Ending) (w' : World) : Prop := ∃ b : Bool, e = .returned (.bool b) ∧ (b = true → (ll.length ≤ 60 ∧ ∀ c ∈ ll, c.length ≤ 140) ∧ tr.length ≤ 140 ∧ c.length ≤ 140) ∧ Ex w w'
set_option maxHeartbeats 4000000 in
theorem caseLight_any (n cf : Int) (lv sv cv : Value) (ll : List (List Int)) (tr : List St) (c : List Int) (w : World) (hR : RowsAt w lv ll) (hS : StepsAt w sv tr) (hc : IntsAt w cv c) :
    Calls Try.prog 12 #[.agg #[.int .i64 n, lv, sv, .int .i64 cf, cv]] w (CaseRet w ll tr c) := by
  have HL : Hid (∀ wa, Ex w wa → Calls Try.prog 32 #[.agg #[.int .i64 n, lv]] wa (LightRet wa ll)) := fun wa hx => light05_any n lv ll wa (hR.ex hx)
  obtain ⟨ra, rcap, rfl, _, _, r3⟩ := hR
  obtain ⟨sa, scap, rfl, _, _, s3⟩ := hS
  obtain ⟨pa, pcap, rfl, _, _, p3⟩ := hc
  clear r3 s3 p3
  have o := OwnB.new w [.int .i64 n, .slice ra ll.length rcap, .slice sa tr.length scap, .int .i64 cf, .slice pa c.length pcap] 28
  have hxa := Ex.alloc w (.cells #[.int .i64 n, .slice ra ll.length rcap, .slice sa tr.length scap, .int .i64 cf, .slice pa c.length pcap] 28)
  go_enter Try.func12, Try.ntmps12
  go_wp2_with fail
  refine (HL.out _ hxa).mono ?_
  rintro e w2 ⟨b, rfl, hb, hx2⟩
  have c2 := (o.ex hx2).cell 2
  have c4 := (o.ex hx2).cell 4
  have z0 := (o.ex hx2).lt
  have hx := hxa.trans hx2
  have hB : Hid _ := hb
  clear hb o hxa hx2 HL
  cases b with
  | false =>
    go_wp2
    go_ret
    exact ⟨_, rfl, fun h => (by cases h), hx⟩
  | true =>
    by_cases h1 : tr.length ≤ 140
    · by_cases h2 : c.length ≤ 140
      · go_wp2
        go_ret
        exact ⟨_, rfl, fun _ => ⟨(by first | exact hB.out rfl | exact hB.out trivial), h1, h2⟩, hx⟩
      · go_wp2
        go_ret
        exact ⟨_, rfl, fun h => (by first | (cases h; done) | (simp at h; omega) | omega), hx⟩
    · go_wp2
      go_ret
      exact ⟨_, rfl, fun h => (by first | (cases h; done) | (simp at h; omega) | omega), hx⟩
end Go.Proofs.Yteagoaiiacideaa
