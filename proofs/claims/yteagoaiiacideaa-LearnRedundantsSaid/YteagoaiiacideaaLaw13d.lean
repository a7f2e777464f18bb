/- Chapter 13: LearnRedundants: the walks. No condition. -/
import Derived.Test.YteagoaiiacideaaLaw13c
import Derived.Test.YteagoaiiacideaaLrnI
import Derived.Deep.RegionHeld3
namespace Go.Proofs.Yteagoaiiacideaa
set_option linter.unusedSimpArgs false
set_option linter.unusedVariables false
open Go.RowKit
set_option maxRecDepth 20000
theorem r13Redundant_any (n : Int) (lv sv cv : Value) (ll : List (List Int)) (tr : List St) (c : List Int) (w : World) (hR : RowsAt w lv ll) (hS : StepsAt w sv tr) (hc : IntsAt w cv c) (hlen : tr.length ≤ 1000) (hcl : c.length ≤ 1000) :
    Calls Try.prog 21 #[.agg #[.int .i64 n, lv], sv, cv] w (RedRet w (redL n ll tr c) (redE n ll tr c)) := by
  cases hok : (decide (theoryErr n ll = 0) && trailB n ll tr) with
  | false =>
    have hr : redOk n ll tr c = false := redOk_bad hok
    have e1 : redL n ll tr c = [] := by unfold redL; rw [hr]; rfl
    have e2 : redE n ll tr c = 1 := by unfold redE; rw [hr]; rfl
    rw [e1, e2]
    exact r13Redundant_bad n lv sv cv ll tr c w hR hS hc hlen hok
  | true =>
    have h1 : theoryErr n ll = 0 := by rw [Bool.and_eq_true, decide_eq_true_eq] at hok; exact hok.1
    have n0 := (theoryErr_zero h1).1
    obtain ⟨N, rfl⟩ : ∃ N : Nat, n = N := ⟨n.toNat, by omega⟩
    exact r13Redundant_ok N lv sv cv ll tr c w hR hS hc hlen hcl hok
set_option maxRecDepth 100000 in
set_option maxHeartbeats 8000000 in
theorem LearnRedundants_any (n : Int) (lv sv : Value) (cf : Int) (cv : Value) (ll : List (List Int)) (tr : List St) (c : List Int) (w : World) (hR : RowsAt w lv ll) (hS : StepsAt w sv tr) (hc : IntsAt w cv c) :
    Calls Try.prog 4 #[.agg #[.int .i64 n, lv, sv, .int .i64 cf, cv]] w fun e w' => e = .returned (.bool true) ∧ Ex w w' := by
  have HLi : Hid (∀ wa, Ex w wa → Calls Try.prog 12 #[.agg #[.int .i64 n, lv, sv, .int .i64 cf, cv]] wa (CaseRet wa ll tr c)) := fun wa hx => caseLight_any n cf lv sv cv ll tr c wa (hR.ex hx) (hS.ex hx) (hc.ex hx)
  have HFi : Hid (tr.length ≤ 140 → c.length ≤ 140 → ∀ wa, Ex w wa → Calls Try.prog 20 #[.agg #[.int .i64 n, lv], sv, cv] wa (RedRet wa (redL n ll tr c) (redE n ll tr c))) := fun h h2 wa hx => learnRedundant_any n lv sv cv ll tr c wa (hR.ex hx) (hS.ex hx) (hc.ex hx) (by omega) (by omega)
  have HSt : Hid (tr.length ≤ 140 → ∀ wa, Ex w wa → Calls Try.prog 17 #[.agg #[.int .i64 n, lv, sv, .int .i64 cf, cv]] wa fun e w' => ∃ v, e = .returned v ∧ OwnS w' 79 wa.heap.size v tr ∧ Ex wa w') := fun h wa hx => steps13_any n cf lv sv cv tr wa (hS.ex hx) (by omega)
  have HRf : Hid (tr.length ≤ 140 → c.length ≤ 140 → ∀ wa u, Ex w wa → StepsAt wa u tr → Calls Try.prog 21 #[.agg #[.int .i64 n, lv], u, cv] wa (RedRet wa (redL n ll tr c) (redE n ll tr c))) := fun h h2 wa u hx hs => r13Redundant_any n lv u cv ll tr c wa (hR.ex hx) hs (hc.ex hx) (by omega) (by omega)
  have HSi : Hid (∀ (wa : World) (u v : Value) (l : List Int), IntsAt wa u l → IntsAt wa v l → Calls Try.prog 18 #[u, v] wa fun e w' => e = .returned (.bool true) ∧ Ex wa w') := fun wa u v l h k => by
    have := r05SameInts_any u v l l wa h k
    rwa [decide_eq_true rfl] at this
  have hc0 := hc
  obtain ⟨ra, rcap, rfl, _, _, r3⟩ := hR
  obtain ⟨sa, scap, rfl, _, _, s3⟩ := hS
  obtain ⟨pa, pcap, rfl, _, _, p3⟩ := hc
  clear r3 s3 p3
  have o := OwnB.new w [.int .i64 n, .slice ra ll.length rcap, .slice sa tr.length scap, .int .i64 cf, .slice pa c.length pcap] 28
  have hxa := Ex.alloc w (.cells #[.int .i64 n, .slice ra ll.length rcap, .slice sa tr.length scap, .int .i64 cf, .slice pa c.length pcap] 28)
  generalize redL n ll tr c = FL at *
  generalize redE n ll tr c = FE at *
  go_enter Try.func4, Try.ntmps4
  go_wp2_with fail
  refine (HLi.out _ hxa).mono ?_
  rintro e w2 ⟨b, rfl, hb, hx2⟩
  replace o := o.ex hx2
  replace hxa := hxa.trans hx2
  clear hx2 HLi
  cases b with
  | false =>
    clear hb
    go_wp2_with (refine (works13_any _).mono ?_; rintro e w' ⟨rfl, hx⟩)
    go_ret
    exact ⟨rfl, hxa.trans hx⟩
  | true =>
  obtain ⟨hb1, hb2, hb3⟩ := hb rfl
  have HFi2 : Hid _ := HFi.out hb2 hb3
  have HSt2 : Hid _ := HSt.out hb2
  have HRf2 : Hid _ := HRf.out hb2 hb3
  clear hb hb1 HFi HSt HRf
  have c3 := o.cell 4
  have z0 := o.lt
  have hI0 := (hc0.ex hxa).ex (Ex.alloc w2 (.cells #[] 3))
  have c3x := ex_cell c3 (Ex.alloc w2 (.cells #[] 3))
  go_wp2_with (at_builtin; refine wpList_append_ints rfl (.tmp 13) (.tmp 15) rfl rfl rfl (OwnI.empty' (base := w2.heap.size) rfl (Nat.le_refl _)) hI0 ?c1 ?c2 ?_)
  case c1 => simp only [List.length_nil]; omega
  case c2 => rw [alloc_size]; omega
  intro v4 w4 hown hg
  have hx34 : Ex w2 w4 := grown_ex ((Ex.refl w2).alloc' (.cells #[] 3)) hg (by intro k hk; simp [Value.ownBlock] at hk; omega)
  have hIc := hown.ints
  obtain ⟨ca, ccap, rfl, _, _, _⟩ := id hIc
  replace o := o.ex hx34
  replace hxa := hxa.trans hx34
  have hIw : Hid (IntsAt w4 (.slice ca c.length ccap) c) := hIc
  clear hown hg hx34 hI0 c3 c3x z0 hIc
  have c0 := o.cell 0
  have c1 := o.cell 1
  have c2 := o.cell 2
  have c3 := o.cell 3
  have c4 := o.cell 4
  have z0 := o.lt
  go_wp2_with fail
  refine (HFi2.out _ hxa).mono ?_
  rintro e w5 ⟨v5, rfl, ho5, hx5⟩
  obtain ⟨a5, q5, rfl, hq5, hq6, _⟩ := ho5.ints
  unfold maxLen at hq6
  have o5 := o.ex hx5
  have hxw5 := hxa.trans hx5
  clear c0 c1 c2 c3 c4 z0 HFi2
  have c0 := o5.cell 0
  have c1 := o5.cell 1
  have c2 := o5.cell 2
  have c3 := o5.cell 3
  have c4 := o5.cell 4
  have z0 := o5.lt
  go_wp2
  go_region_held3 (fun w' => w'.cell? ⟨w.heap.size, 0, none⟩ = some (.int .i64 n) ∧ w'.cell? ⟨w.heap.size, 1, none⟩ = some (.slice ra ll.length rcap) ∧ w'.cell? ⟨w.heap.size, 2, none⟩ = some (.slice sa tr.length scap) ∧ w'.cell? ⟨w.heap.size, 3, none⟩ = some (.int .i64 cf) ∧ w'.cell? ⟨w.heap.size, 4, none⟩ = some (.slice pa c.length pcap)) (first | exact ⟨c0, c1, c2, c3, c4⟩ | exact ⟨c06, c16, c26, c36, c46⟩ | exact ⟨c07, c17, c27, c37, c47⟩ | go_keep) (first | (go_at_call 17; refine (HSt2.out _ (hxw5.trans (Ex.refl _).drew)).mono ?_; rintro e w6 ⟨v6, rfl, ho6, hx6⟩; have hS6 := ho6.steps; obtain ⟨a6, q6, rfl, _, _, _⟩ := id hS6; have c06 := ex_cell (show w5.drew.cell? _ = _ from c0) hx6; have c16 := ex_cell (show w5.drew.cell? _ = _ from c1) hx6; have c26 := ex_cell (show w5.drew.cell? _ = _ from c2) hx6; have c36 := ex_cell (show w5.drew.cell? _ = _ from c3) hx6; have c46 := ex_cell (show w5.drew.cell? _ = _ from c4) hx6) | (go_at_call 21; refine (HRf2.out _ _ ((hxw5.trans (Ex.refl _).drew).trans hx6) hS6).mono ?_; rintro e w7 ⟨v7, rfl, ho7, hx7⟩; have hI7 := ho7.ints; obtain ⟨a7, q7, rfl, _, _, _⟩ := id hI7; have c07 := ex_cell c06 hx7; have c17 := ex_cell c16 hx7; have c27 := ex_cell c26 hx7; have c37 := ex_cell c36 hx7; have c47 := ex_cell c46 hx7) | fail)
  have hx57 : Ex w5 w7 := ((Ex.refl w5).drew.trans hx6).trans hx7
  have hI5 := ho5.ints.ex hx57
  have hfe : (FE != FE) = false := by simp
  clear c06 c16 c26 c36 c46 c07 c17 c27 c37 c47 c0 c1 c2 c3 c4 z0 HSt2 HRf2 ho7 hx7 hS6 ho6
  have hx45 := hx5
  have ho57 := ho5.ex hx57
  go_wp2_with fail
  refine (HSi.out _ _ _ _ hI5 hI7).mono ?_
  rintro e w8 ⟨rfl, hx8⟩
  have hx48 : Ex w4 w8 := (hx45.trans hx57).trans hx8
  have ho8 := ho57.ex hx8
  clear hI5 hI7 ho57
  go_wp2
  go_loopw [48] (fun kv wr => ∃ (k : Nat) (M : List Int), k ≤ FL.length ∧ kv = .int .i64 k ∧ Hid (M.length = FL.length) ∧ OwnI wr w4.heap.size (.slice a5 FL.length q5) M ∧ Ex w4 wr) (fun kv _ => FL.length - (intOf kv).toNat)
  case atStart => exact ⟨0, FL, Nat.zero_le _, rfl, rfl, ho8, hx48⟩
  case round =>
    clear ho8 hx48
    obtain ⟨k, M, hk, rfl, hML, hO, hxr⟩ := hrel
    by_cases hlt : k < FL.length
    · have hML2 := hML.out
      obtain ⟨g, cap, rest, ev, hg, _, _, _⟩ := hO.form (by omega)
      rw [hML2] at ev
      cases ev
      obtain ⟨_, _, ev2, _, _, e3⟩ := hO.ints
      rw [hML2] at ev2 e3
      cases ev2
      obtain ⟨b', off, eb, hb', hcell⟩ := e3 k hlt
      cases eb
      rw [Nat.zero_add] at hcell
      have hput := hO.put' hML2.symm k 77
      have hfz : wr.frozen? ⟨g, k, none⟩ = false := World.ownsRow.frozenAt (by have := hO; unfold OwnI at this; rw [hML2] at this; exact this) k
      have hx2 := hxr.setCell (p := ⟨g, k, none⟩) hg (.int .i64 77)
      have hML3 : Hid ((M.set k 77).length = FL.length) := by show _ = _; rw [List.length_set, hML2]
      have hkk : (k : Int) < FL.length := by omega
      clear e3 hML hML2 hO
      generalize M.getD k 0 = z at *
      go_wp2
      go_roundw
      case rel => exact ⟨k + 1, M.set k 77, by omega, by go_num, hML3, hput, hx2⟩
      case measure => simp [intOf]; omega
    · obtain rfl : k = FL.length := by omega
      have hxwr := hxa.trans hxr
      have of := o.ex hxr
      have d4 := of.cell 4
      have y0 := of.lt
      have hIwr := hIw.out.ex hxr
      have hcwr := hc0.ex hxwr
      clear hML hO hIw
      go_wp2_with fail
      refine (HSi.out _ _ _ _ hcwr hIwr).mono ?_
      rintro e w9 ⟨rfl, hx9⟩
      go_wp2_with (refine (works13_any _).mono ?_; rintro e w' ⟨rfl, hx⟩)
      go_ret
      exact ⟨rfl, (hxwr.trans hx9).trans hx⟩
end Go.Proofs.Yteagoaiiacideaa
