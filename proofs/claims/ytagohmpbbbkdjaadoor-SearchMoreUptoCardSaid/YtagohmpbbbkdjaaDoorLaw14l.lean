/- SearchLeast: the walk. Condition: the table of TrailingZeros64. -/
import Derived.Test.YtagohmpbbbkdjaaDoorLaw14p
import Derived.Test.YtagohmpbbbkdjaaDoorLaw1
import Derived.Test.YtagohmpbbbkdjaaDoorR03
import Derived.Test.YtagohmpbbbkdjaaDoorEvalP
import Derived.Test.YtagohmpbbbkdjaaDoorEqSet
import Derived.Deep.RegionLaw
namespace Go.Proofs.YtagohmpbbbkdjaaDoor
set_option linter.unusedSimpArgs false
set_option linter.unusedVariables false
open Go.RowKit
set_option maxRecDepth 20000
theorem searchErr_ok {n : Int} {ll : List (List Int)} {l : List Int} (he : theoryErr n ll = 0) (hl : ∀ x ∈ l, litValid x n = true) : searchErr n ll l = 0 := by
  unfold searchErr
  rw [if_pos he, if_pos (List.all_eq_true.2 hl)]
/-- What one knows behind a region: the frame, and something of the world. -/
def AfterQ (f : Act) (W : World → Prop) : Exit → Act → World → Prop
  | .normal, a, w => a = f ∧ W w
  | _, _, _ => False
theorem AfterQ.out {f : Act} {W : World → Prop} {Q : Exit → Act → World → Prop} (h : ∀ w, W w → Q .normal f w) : ∀ e a w, AfterQ f W e a w → Q e a w := fun e a w hq => by
  cases e <;> first | exact absurd hq id | (obtain ⟨rfl, hw⟩ := hq; exact h w hw)
set_option maxRecDepth 100000 in
set_option maxHeartbeats 8000000 in
theorem SearchLeast_any (n : Int) (lv av : Value) (x y : Nat) (ll : List (List Int)) (l : List Int) (w : World) (hR : RowsAt w lv ll) (hl : IntsAt w av l) (hx : x < 18446744073709551616) (hy : y < 18446744073709551616) (hT : Tab w) :
    Calls Tryd.prog 4 #[.agg #[.int .i64 n, lv], av, .agg #[.int .u64 x, .int .u64 y]] w fun e w' => e = .returned (.bool true) ∧ Ex w w' := by
  have HFe : Hid (∀ wa, Ex w wa → Calls Tryd.prog 5 #[.agg #[.int .i64 n, lv], av] wa (Yes wa (FewOk n ll l))) := fun wa h => few14_any n lv av ll l wa (hR.ex h) (hl.ex h)
  have HSo : Hid (∀ (N : Nat), n = N → searchErr N ll l = 0 → ∀ wa, Ex w wa → Calls Tryd.prog 7 #[.agg #[.int .i64 N, lv], av] wa fun e w' => e = .returned (.tuple #[.agg #[.int .u64 ((least N ll l).getD (0, 0)).1, .int .u64 ((least N ll l).getD (0, 0)).2], .bool (least N ll l).isSome, .int .i64 0]) ∧ Ex wa w') := fun N _ hs wa h => Solve_ok N lv av ll l wa (hR.ex h) (hl.ex h) hs
  have HEv : Hid (∀ (N : Nat) (X Y : Nat), n = N → X < 2 ^ 64 → Y < 2 ^ 64 → ∀ wa, Ex w wa → Calls Tryd.prog 11 #[.agg #[.int .i64 N, lv], .agg #[.int .u64 X, .int .u64 Y]] wa fun e w' => e = .returned (.bool (evalB N ll X Y)) ∧ Ex wa w') := fun N X Y _ h1 h2 wa h => by
    rw [← evalT_eq h1 h2]; exact theoryEval_any N lv ll X Y h1 h2 wa (hR.ex h)
  have HLa : Hid (∀ (X Y : Nat), X < 2 ^ 64 → Y < 2 ^ 64 → ∀ wa, Ex w wa → Calls Tryd.prog 12 #[.agg #[.int .u64 X, .int .u64 Y], av] wa fun e w' => e = .returned (.bool (l.all (holdsB X Y))) ∧ Ex wa w') := fun X Y h1 h2 wa h => litAll_any X Y h1 h2 av l wa (hl.ex h)
  have HLe : Hid (∀ (X Y U V : Nat), X < 2 ^ 64 → Y < 2 ^ 64 → U < 2 ^ 64 → V < 2 ^ 64 → ∀ wa, Ex w wa → Calls Tryd.prog 8 #[.agg #[.int .u64 X, .int .u64 Y], .agg #[.int .u64 U, .int .u64 V]] wa fun e w' => e = .returned (.bool (lessB X Y U V)) ∧ Ex wa w') := fun X Y U V h1 h2 h3 h4 wa h => varsLess_any X Y U V h1 h2 h3 h4 wa (hT.ex h)
  obtain ⟨ra, rcap, rfl, _, _, r3⟩ := hR
  obtain ⟨pa, pcap, rfl, _, _, p3⟩ := hl
  clear r3 p3 hT
  have oT := (OwnB.new w [.int .i64 n, .slice ra ll.length rcap] 24).ex (Ex.alloc _ (.cells #[.int .u64 x, .int .u64 y] 30))
  have oS := OwnB.new (w.alloc (.cells #[.int .i64 n, .slice ra ll.length rcap] 24)) [.int .u64 x, .int .u64 y] 30
  have hxa := (Ex.alloc w (.cells #[.int .i64 n, .slice ra ll.length rcap] 24)).alloc' (.cells #[.int .u64 x, .int .u64 y] 30)
  simp only [World.size_alloc] at oS
  go_enter Tryd.func4, Tryd.ntmps4
  go_wp2_with fail
  generalize (w.alloc (.cells #[.int .i64 n, .slice ra ll.length rcap] 24)).alloc (.cells #[.int .u64 x, .int .u64 y] 30) = wa at *
  refine (HFe.out _ hxa).mono ?_
  rintro e w2 ⟨b, rfl, hb, hx2⟩
  replace hxa := hxa.trans hx2
  replace oT := oT.ex hx2
  replace oS := oS.ex hx2
  clear hx2 HFe
  cases b with
  | false =>
    clear hb
    go_wp2_with fail
    refine Calls.mono (works14_any _) ?_
    rintro e w' ⟨rfl, hx⟩
    go_wp2
    go_ret
    exact ⟨rfl, hxa.trans hx⟩
  | true =>
  obtain ⟨_, h16, he, hv⟩ := hb rfl
  have hn0 := (theoryErr_zero he).1
  obtain ⟨N, hN⟩ : ∃ N : Nat, N = n.toNat := ⟨_, rfl⟩
  have hnN : n = (N : Int) := by omega
  subst hnN
  have hN128 : N ≤ 128 := by omega
  have HSo2 : Hid _ := HSo.out N rfl (searchErr_ok he hv) w2 hxa
  have HMin : Hid (∀ (X Y : Nat), X < 2 ^ 64 → Y < 2 ^ 64 → (least N ll l = none → (evalB N ll X Y && l.all (holdsB X Y)) = false) ∧ ∀ s, least N ll l = some s → evalB N ll s.1 s.2 = true ∧ l.all (holdsB s.1 s.2) = true ∧ s.1 < 2 ^ 64 ∧ s.2 < 2 ^ 64 ∧ ((evalB N ll X Y && l.all (holdsB X Y)) = true → lessB X Y s.1 s.2 = false)) := fun X Y h1 h2 =>
    ⟨fun h => least_nomodel hN128 h1 h2 h, fun s h => ⟨(least_eval h).1, (least_eval h).2, (least_lt hN128 h).1, (least_lt hN128 h).2, fun hh => least_less hN128 h1 h2 h hh⟩⟩
  clear HSo hb he hv hN
  have c0 := oT.cell 0
  have c1 := oT.cell 1
  have z0 := oT.lt
  go_wp2_with fail
  refine Calls.mono HSo2.out ?_
  rintro e w3 ⟨rfl, hx3⟩
  obtain ⟨A1, hA1⟩ : ∃ a, ((least N ll l).getD (0, 0)).1 = a := ⟨_, rfl⟩
  obtain ⟨A2, hA2⟩ : ∃ a, ((least N ll l).getD (0, 0)).2 = a := ⟨_, rfl⟩
  obtain ⟨ok, hok⟩ : ∃ b, (least N ll l).isSome = b := ⟨_, rfl⟩
  rw [hA1, hA2, hok]
  have HA : Hid (((least N ll l).getD (0, 0)).1 = A1 ∧ ((least N ll l).getD (0, 0)).2 = A2 ∧ (least N ll l).isSome = ok) := ⟨hA1, hA2, hok⟩
  have oA := OwnB.new w3 [.int .u64 A1, .int .u64 A2] 30
  have hx34 := hx3.alloc' (.cells #[.int .u64 A1, .int .u64 A2] 30)
  have hA3 : w.heap.size + 1 < w3.heap.size := Nat.lt_of_lt_of_le oS.lt hx3.size
  replace oT := oT.ex hx34
  replace oS := oS.ex hx34
  replace hxa := hxa.trans hx34
  clear hA1 hA2 hok c0 c1 z0 HSo2 hx34
  obtain ⟨AB, hAB⟩ : ∃ AB, AB = w3.heap.size := ⟨_, rfl⟩
  rw [← hAB] at oA
  have c0 := oT.cell 0
  have c1 := oT.cell 1
  have s0 := oS.cell 0
  have s1 := oS.cell 1
  have f0 := oS.free 0
  have f1 := oS.free 1
  have z0 := oT.lt
  have z1 := oS.lt
  have hneT : w.heap.size ≠ w.heap.size + 1 := by omega
  have hneA : w.heap.size + 1 ≠ AB := by omega
  -- the set that is cut
  obtain ⟨O, hO1, hO2, HAl, HCu⟩ : ∃ O : Nat × Nat, O.1 < 2 ^ 64 ∧ O.2 < 2 ^ 64 ∧ Hid (∀ wa : World, Calls Tryd.prog 10 #[.int .i64 N] wa fun e w' => e = .returned (.agg #[.int .u64 (setF (fun j => decide (1 ≤ j ∧ j ≤ N)) 128).1, .int .u64 (setF (fun j => decide (1 ≤ j ∧ j ≤ N)) 128).2]) ∧ Ex wa w') ∧ Hid (∀ wa : World, Calls Tryd.prog 9 #[.agg #[.int .u64 x, .int .u64 y], .agg #[.int .u64 (setF (fun j => decide (1 ≤ j ∧ j ≤ N)) 128).1, .int .u64 (setF (fun j => decide (1 ≤ j ∧ j ≤ N)) 128).2]] wa fun e w' => e = .returned (.agg #[.int .u64 O.1, .int .u64 O.2]) ∧ Ex wa w') :=
    ⟨_, (setF_lt _ 128).1, (setF_lt _ 128).2, fun wa => r03All_any N hN128 wa, fun wa => r03Cut_any x y _ _ wa⟩
  obtain ⟨X, Y⟩ := O
  simp only at hO1 hO2
  generalize (setF (fun j => decide (1 ≤ j ∧ j ≤ N)) 128).1 = a1 at *
  generalize (setF (fun j => decide (1 ≤ j ∧ j ≤ N)) 128).2 = a2 at *
  clear hx hy
  go_wp2
  rw [← hAB]
  generalize w3.alloc (.cells #[.int .u64 A1, .int .u64 A2] 30) = w4 at *
  apply wp_mono (Q := AfterQ _ fun w' => OwnB w' w.heap.size [.int .i64 N, .slice ra ll.length rcap] 24 ∧ OwnB w' (w.heap.size + 1) [.int .u64 X, .int .u64 Y] 30 ∧ OwnB w' AB [.int .u64 A1, .int .u64 A2] 30 ∧ Ex w w')
  case h =>
    go_region_law (first | (go_simp; go_at_call 10; refine (HAl.out _).mono ?_; rintro e w5 ⟨rfl, hx5⟩; have oS5 := (show OwnB w4.drew _ _ _ from oS).ex hx5; have s05 := oS5.cell 0; have s15 := oS5.cell 1; have f05 := oS5.free 0; have f15 := oS5.free 1; have z15 := oS5.lt; have c05 := ex_cell (show w4.drew.cell? _ = _ from c0) hx5) | (go_simp; go_at_call 9; refine (HCu.out _).mono ?_; rintro e w6 ⟨rfl, hx6⟩; have oS6 := oS5.ex hx6; have s06 := oS6.cell 0; have s16 := oS6.cell 1; have f06 := oS6.free 0; have f16 := oS6.free 1; have z16 := oS6.lt; have c06 := ex_cell c05 hx6))
    all_goals exact ⟨rfl, ((((show OwnB w4.drew _ _ _ from oT).ex hx5).ex hx6).set_other (c := w.heap.size + 1) 0 (.int .u64 X) hneT.symm).set_other (c := w.heap.size + 1) 1 (.int .u64 Y) hneT.symm, (oS6.set 0 (.int .u64 X)).set 1 (.int .u64 Y), ((((show OwnB w4.drew _ _ _ from oA).ex hx5).ex hx6).set_other (c := w.heap.size + 1) 0 (.int .u64 X) hneA).set_other (c := w.heap.size + 1) 1 (.int .u64 Y) hneA, ((((hxa.trans ((Ex.refl w4).drew)).trans hx5).trans hx6).setCell (by show w.heap.size ≤ w.heap.size + 1; omega) _).setCell (by show w.heap.size ≤ w.heap.size + 1; omega) _⟩
  refine AfterQ.out ?_
  rintro w5 ⟨oT5, oS5, oA5, hx5⟩
  clear s0 s1 f0 f1 z0 z1 c0 c1 oT oS oA HAl HCu hxa hneT hneA hA3
  subst hAB
  generalize w3.heap.size = AB at *
  clear hx3
  generalize w.heap.size + 1 = SB at *
  have c0 := oT5.cell 0
  have c1 := oT5.cell 1
  have z0 := oT5.lt
  have s0 := oS5.cell 0
  have s1 := oS5.cell 1
  have z1 := oS5.lt
  have H1 : Hid _ := HEv.out N X Y rfl hO1 hO2 w5 hx5
  have H2 : Hid _ := fun (wb : World) (h : Ex w5 wb) => HLa.out X Y hO1 hO2 wb (hx5.trans h)
  have HM : Hid _ := HMin.out X Y hO1 hO2
  obtain ⟨ev, hev⟩ : ∃ b, evalB N ll X Y = b := ⟨_, rfl⟩
  obtain ⟨al, hal⟩ : ∃ b, l.all (holdsB X Y) = b := ⟨_, rfl⟩
  rw [hev] at H1
  rw [hal] at H2
  have HEA : Hid (evalB N ll X Y = ev ∧ l.all (holdsB X Y) = al) := ⟨hev, hal⟩
  clear hev hal
  go_wp2_with fail
  refine Calls.mono H1.out ?_
  rintro e w6 ⟨rfl, hx6⟩
  clear H1
  clear c0 c1 z0 s0 s1 z1
  have c0 := (oT5.ex (hx6)).cell 0
  have c1 := (oT5.ex (hx6)).cell 1
  have z0 := (oT5.ex (hx6)).lt
  have s0 := (oS5.ex (hx6)).cell 0
  have s1 := (oS5.ex (hx6)).cell 1
  have z1 := (oS5.ex (hx6)).lt
  cases ev with
  | false =>
    cases hle : least N ll l with
    | none =>
      obtain ⟨h1, h2, h3⟩ := HA.out
      rw [hle] at h1 h2 h3
      have h1' : A1 = 0 := h1.symm
      have h2' : A2 = 0 := h2.symm
      have h3' : ok = false := h3.symm
      subst h1' h2' h3'
      have d0 := (oA5.ex (hx6)).cell 0
      have d1 := (oA5.ex (hx6)).cell 1
      have zd := (oA5.ex (hx6)).lt
      clear HA HM HEA H2 HEv HLa HLe HMin h1 h2 h3 hle
      go_wp2_with fail
      refine Calls.mono (works14_any _) ?_
      rintro e w' ⟨rfl, hx⟩
      go_wp2
      go_ret
      exact ⟨rfl, (hx5.trans (hx6)).trans hx⟩
    | some s =>
      obtain ⟨h1, h2, h3⟩ := HA.out
      rw [hle] at h1 h2 h3
      have h1' : A1 = s.1 := h1.symm
      have h2' : A2 = s.2 := h2.symm
      have h3' : ok = true := h3.symm
      obtain ⟨g1, g2, g3, g4, g5⟩ := HM.out.2 s hle
      have G5 : Hid _ := g5
      have E1 : Hid _ := HEv.out N s.1 s.2 rfl g3 g4 _ (hx5.trans (hx6))
      have E2 : Hid _ := fun (wb : World) (h : Ex w wb) => HLa.out s.1 s.2 g3 g4 wb h
      rw [g1] at E1
      rw [g2] at E2
      subst h1' h2' h3'
      have d0 := (oA5.ex (hx6)).cell 0
      have d1 := (oA5.ex (hx6)).cell 1
      have zd := (oA5.ex (hx6)).lt
      clear HA HM H2 HEv HLa HMin h1 h2 h3 hle g1 g2
      go_wp2_with fail
      refine Calls.mono E1.out ?_
      rintro e wb ⟨rfl, hxb⟩
      clear c0 c1 z0 s0 s1 z1
      have c0 := (oT5.ex ((hx6).trans hxb)).cell 0
      have c1 := (oT5.ex ((hx6).trans hxb)).cell 1
      have z0 := (oT5.ex ((hx6).trans hxb)).lt
      have s0 := (oS5.ex ((hx6).trans hxb)).cell 0
      have s1 := (oS5.ex ((hx6).trans hxb)).cell 1
      have z1 := (oS5.ex ((hx6).trans hxb)).lt
      clear d0 d1 zd
      have d0 := (oA5.ex ((hx6).trans hxb)).cell 0
      have d1 := (oA5.ex ((hx6).trans hxb)).cell 1
      have zd := (oA5.ex ((hx6).trans hxb)).lt
      go_wp2_with fail
      refine Calls.mono (E2.out _ (hx5.trans ((hx6).trans hxb))) ?_
      rintro e wc ⟨rfl, hxc⟩
      go_wp2_with fail
      refine Calls.mono (works14_any _) ?_
      rintro e w' ⟨rfl, hx⟩
      go_wp2
      go_ret
      exact ⟨rfl, (hx5.trans ((hx6).trans (hxb.trans hxc))).trans hx⟩
  | true =>
    go_wp2_with fail
    refine Calls.mono (H2.out _ hx6) ?_
    rintro e w7 ⟨rfl, hx7⟩
    clear c0 c1 z0 s0 s1 z1
    have c0 := (oT5.ex (hx6.trans hx7)).cell 0
    have c1 := (oT5.ex (hx6.trans hx7)).cell 1
    have z0 := (oT5.ex (hx6.trans hx7)).lt
    have s0 := (oS5.ex (hx6.trans hx7)).cell 0
    have s1 := (oS5.ex (hx6.trans hx7)).cell 1
    have z1 := (oS5.ex (hx6.trans hx7)).lt
    cases al with
    | false =>
      cases hle : least N ll l with
      | none =>
        obtain ⟨h1, h2, h3⟩ := HA.out
        rw [hle] at h1 h2 h3
        have h1' : A1 = 0 := h1.symm
        have h2' : A2 = 0 := h2.symm
        have h3' : ok = false := h3.symm
        subst h1' h2' h3'
        have d0 := (oA5.ex (hx6.trans hx7)).cell 0
        have d1 := (oA5.ex (hx6.trans hx7)).cell 1
        have zd := (oA5.ex (hx6.trans hx7)).lt
        clear HA HM HEA H2 HEv HLa HLe HMin h1 h2 h3 hle
        go_wp2_with fail
        refine Calls.mono (works14_any _) ?_
        rintro e w' ⟨rfl, hx⟩
        go_wp2
        go_ret
        exact ⟨rfl, (hx5.trans (hx6.trans hx7)).trans hx⟩
      | some s =>
        obtain ⟨h1, h2, h3⟩ := HA.out
        rw [hle] at h1 h2 h3
        have h1' : A1 = s.1 := h1.symm
        have h2' : A2 = s.2 := h2.symm
        have h3' : ok = true := h3.symm
        obtain ⟨g1, g2, g3, g4, g5⟩ := HM.out.2 s hle
        have G5 : Hid _ := g5
        have E1 : Hid _ := HEv.out N s.1 s.2 rfl g3 g4 _ (hx5.trans (hx6.trans hx7))
        have E2 : Hid _ := fun (wb : World) (h : Ex w wb) => HLa.out s.1 s.2 g3 g4 wb h
        rw [g1] at E1
        rw [g2] at E2
        subst h1' h2' h3'
        have d0 := (oA5.ex (hx6.trans hx7)).cell 0
        have d1 := (oA5.ex (hx6.trans hx7)).cell 1
        have zd := (oA5.ex (hx6.trans hx7)).lt
        clear HA HM H2 HEv HLa HMin h1 h2 h3 hle g1 g2
        go_wp2_with fail
        refine Calls.mono E1.out ?_
        rintro e wb ⟨rfl, hxb⟩
        clear c0 c1 z0 s0 s1 z1
        have c0 := (oT5.ex ((hx6.trans hx7).trans hxb)).cell 0
        have c1 := (oT5.ex ((hx6.trans hx7).trans hxb)).cell 1
        have z0 := (oT5.ex ((hx6.trans hx7).trans hxb)).lt
        have s0 := (oS5.ex ((hx6.trans hx7).trans hxb)).cell 0
        have s1 := (oS5.ex ((hx6.trans hx7).trans hxb)).cell 1
        have z1 := (oS5.ex ((hx6.trans hx7).trans hxb)).lt
        clear d0 d1 zd
        have d0 := (oA5.ex ((hx6.trans hx7).trans hxb)).cell 0
        have d1 := (oA5.ex ((hx6.trans hx7).trans hxb)).cell 1
        have zd := (oA5.ex ((hx6.trans hx7).trans hxb)).lt
        go_wp2_with fail
        refine Calls.mono (E2.out _ (hx5.trans ((hx6.trans hx7).trans hxb))) ?_
        rintro e wc ⟨rfl, hxc⟩
        go_wp2_with fail
        refine Calls.mono (works14_any _) ?_
        rintro e w' ⟨rfl, hx⟩
        go_wp2
        go_ret
        exact ⟨rfl, (hx5.trans ((hx6.trans hx7).trans (hxb.trans hxc))).trans hx⟩
    | true =>
      cases hle : least N ll l with
      | none =>
        exfalso
        have hno := HM.out.1 hle
        rw [HEA.out.1, HEA.out.2] at hno
        cases hno
      | some s =>
        obtain ⟨h1, h2, h3⟩ := HA.out
        rw [hle] at h1 h2 h3
        have h1' : A1 = s.1 := h1.symm
        have h2' : A2 = s.2 := h2.symm
        have h3' : ok = true := h3.symm
        obtain ⟨g1, g2, g3, g4, g5⟩ := HM.out.2 s hle
        have G5 : Hid _ := g5
        have E1 : Hid _ := HEv.out N s.1 s.2 rfl g3 g4 _ (hx5.trans (hx6.trans hx7))
        have E2 : Hid _ := fun (wb : World) (h : Ex w wb) => HLa.out s.1 s.2 g3 g4 wb h
        rw [g1] at E1
        rw [g2] at E2
        subst h1' h2' h3'
        have d0 := (oA5.ex (hx6.trans hx7)).cell 0
        have d1 := (oA5.ex (hx6.trans hx7)).cell 1
        have zd := (oA5.ex (hx6.trans hx7)).lt
        clear HA HM H2 HEv HLa HMin h1 h2 h3 hle g1 g2
        go_wp2_with fail
        refine Calls.mono E1.out ?_
        rintro e wb ⟨rfl, hxb⟩
        clear c0 c1 z0 s0 s1 z1
        have c0 := (oT5.ex ((hx6.trans hx7).trans hxb)).cell 0
        have c1 := (oT5.ex ((hx6.trans hx7).trans hxb)).cell 1
        have z0 := (oT5.ex ((hx6.trans hx7).trans hxb)).lt
        have s0 := (oS5.ex ((hx6.trans hx7).trans hxb)).cell 0
        have s1 := (oS5.ex ((hx6.trans hx7).trans hxb)).cell 1
        have z1 := (oS5.ex ((hx6.trans hx7).trans hxb)).lt
        clear d0 d1 zd
        have d0 := (oA5.ex ((hx6.trans hx7).trans hxb)).cell 0
        have d1 := (oA5.ex ((hx6.trans hx7).trans hxb)).cell 1
        have zd := (oA5.ex ((hx6.trans hx7).trans hxb)).lt
        go_wp2_with fail
        refine Calls.mono (E2.out _ (hx5.trans ((hx6.trans hx7).trans hxb))) ?_
        rintro e wc ⟨rfl, hxc⟩
        clear c0 c1 z0 s0 s1 z1
        have c0 := (oT5.ex ((hx6.trans hx7).trans (hxb.trans hxc))).cell 0
        have c1 := (oT5.ex ((hx6.trans hx7).trans (hxb.trans hxc))).cell 1
        have z0 := (oT5.ex ((hx6.trans hx7).trans (hxb.trans hxc))).lt
        have s0 := (oS5.ex ((hx6.trans hx7).trans (hxb.trans hxc))).cell 0
        have s1 := (oS5.ex ((hx6.trans hx7).trans (hxb.trans hxc))).cell 1
        have z1 := (oS5.ex ((hx6.trans hx7).trans (hxb.trans hxc))).lt
        clear d0 d1 zd
        have d0 := (oA5.ex ((hx6.trans hx7).trans (hxb.trans hxc))).cell 0
        have d1 := (oA5.ex ((hx6.trans hx7).trans (hxb.trans hxc))).cell 1
        have zd := (oA5.ex ((hx6.trans hx7).trans (hxb.trans hxc))).lt
        have E3 : Hid _ := HLe.out X Y s.1 s.2 hO1 hO2 g3 g4 wc (hx5.trans ((hx6.trans hx7).trans (hxb.trans hxc)))
        rw [g5 (by rw [HEA.out.1, HEA.out.2]; rfl)] at E3
        go_wp2_with fail
        refine Calls.mono E3.out ?_
        rintro e wd ⟨rfl, hxd⟩
        go_wp2_with fail
        refine Calls.mono (works14_any _) ?_
        rintro e w' ⟨rfl, hx⟩
        go_wp2
        go_ret
        exact ⟨rfl, ((hx5.trans ((hx6.trans hx7).trans (hxb.trans hxc))).trans hxd).trans hx⟩
end Go.Proofs.YtagohmpbbbkdjaaDoor
