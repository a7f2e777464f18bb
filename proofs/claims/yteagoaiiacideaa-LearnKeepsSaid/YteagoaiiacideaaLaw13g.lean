/- Chapter 13: LearnSound: the walk. No condition. -/
import Derived.Test.YteagoaiiacideaaLaw13f
import Derived.Test.YteagoaiiacideaaLaw13b
import Derived.Test.YteagoaiiacideaaLearn4
namespace Go.Proofs.Yteagoaiiacideaa
set_option linter.unusedSimpArgs false
set_option linter.unusedVariables false
open Go.RowKit
set_option maxRecDepth 20000
theorem modB_imp {n : Nat} {ll : List (List Int)} {c : List Int} (h : impB n ll c = true) : modB n ll c = true := modB_iff.2 fun _ _ he => imp_model h he
set_option maxRecDepth 100000 in
set_option maxHeartbeats 8000000 in
theorem LearnSound_any (n : Int) (lv : Value) (nb : Int) (kv cv : Value) (ll : List (List Int)) (ks c : List Int) (w : World) (hR : RowsAt w lv ll) (hw : ∀ c ∈ ll, ∀ y ∈ c, (Lit.int .i64 y).wf = true) (hnb : 0 ≤ nb ∧ nb < 256) (hk : BytesAt w kv ks) (hks : ∀ k ∈ ks, 0 ≤ k ∧ k < 256) (hc : IntsAt w cv c) :
    Calls Try.prog 10 #[.agg #[.int .i64 n, lv, .int .u8 nb, kv], cv] w fun e w' => e = .returned (.bool true) ∧ Ex w w' := by
  have HLi : Hid (∀ wa, Ex w wa → Calls Try.prog 24 #[.agg #[.int .i64 n, lv, .int .u8 nb, kv]] wa (AskRet wa ll ks)) := fun wa hx => askLight_any n nb lv kv ll ks wa (hR.ex hx) (hk.ex hx)
  have HSe : Hid ((ll.length ≤ 60 ∧ ∀ c ∈ ll, c.length ≤ 140) → ks.length ≤ 30 → ∀ wa, Ex w wa → Calls Try.prog 25 #[.agg #[.int .i64 n, lv, .int .u8 nb, kv]] wa (SetRet wa)) := fun h1 h2 wa hx => setting13_any n nb lv kv ll ks wa (hR.ex hx) (hk.ex hx) hnb hks h1 h2 hw
  have HIm : Hid (c.length ≤ 140 → ∀ wa N lv2 ld, Ex w wa → RowsAt wa lv2 ld → Calls Try.prog 22 #[.agg #[.int .i64 N, lv2], cv] wa fun e w' => e = .returned (.bool (impB N ld c)) ∧ Ex wa w') := fun h wa N lv2 ld hx hr => learnImplied_any N lv2 cv ld c wa hr (hc.ex hx) (by omega)
  have HMo : Hid (∀ (wa : World) (N : Nat) lv2 ld, Ex w wa → RowsAt wa lv2 ld → N ≤ 10 → impB N ld c = true → Calls Try.prog 29 #[.agg #[.int .i64 N, lv2], cv] wa fun e w' => e = .returned (.bool true) ∧ Ex wa w') := fun wa N lv2 ld hx hr hN hi => by
    have := models13_any N lv2 cv ld c wa hr (hc.ex hx) hN (impB_iff.1 hi).2.1
    rwa [modB_imp hi] at this
  have hc0 := hc
  obtain ⟨ra, rcap, rfl, _, _, r3⟩ := hR
  obtain ⟨ka, kcap, rfl, _, _, k3⟩ := hk
  obtain ⟨pa, pcap, rfl, _, p2, p3⟩ := hc
  unfold maxLen at p2
  clear r3 k3 p3 hw hks hnb
  have o := OwnB.new w [.int .i64 n, .slice ra ll.length rcap, .int .u8 nb, .slice ka ks.length kcap] 46
  have hxa := Ex.alloc w (.cells #[.int .i64 n, .slice ra ll.length rcap, .int .u8 nb, .slice ka ks.length kcap] 46)
  go_enter Try.func10, Try.ntmps10
  go_wp2_with fail
  refine (HLi.out _ hxa).mono ?_
  rintro e w2 ⟨b, rfl, hb, hx2⟩
  replace o := o.ex hx2
  replace hxa := hxa.trans hx2
  clear hx2 HLi
  cases b with
  | false =>
    clear hb
    go_wp2_with (refine (works13_any _).mono ?_; rintro e w' ⟨rfl, hx⟩)
    go_ret
    exact ⟨rfl, hxa.trans hx⟩
  | true =>
  obtain ⟨hb1, hb2⟩ := hb rfl
  have HSe2 : Hid _ := HSe.out hb1 hb2
  clear hb hb1 hb2 HSe
  by_cases hcl : c.length ≤ 140
  rotate_left
  · have hcl2 : (140 : Int) < c.length := by omega
    go_wp2_with (refine (works13_any _).mono ?_; rintro e w' ⟨rfl, hx⟩)
    go_ret
    exact ⟨rfl, hxa.trans hx⟩
  have hcl2 : ¬ (140 : Int) < c.length := by omega
  have HIm2 : Hid _ := HIm.out hcl
  clear HIm
  have c0 := o.cell 0
  have c1 := o.cell 1
  have c2 := o.cell 2
  have c3 := o.cell 3
  have z0 := o.lt
  go_wp2_with fail
  refine (HSe2.out _ hxa).mono ?_
  rintro e w3 ⟨N, lv2, sv2, ld, ds, rfl, hN, hTh, hds, hE, hR3, hS3, hx3⟩
  obtain ⟨ta, tcap, rfl, _, _, _⟩ := id hR3
  obtain ⟨sa, scap, rfl, _, _, _⟩ := id hS3
  have oT := OwnB.new w3 [.int .i64 N, .slice ta ld.length tcap] 24
  have hx34 := Ex.alloc w3 (.cells #[.int .i64 N, .slice ta ld.length tcap] 24)
  have hR4 := hR3.ex hx34
  have hxb := (hxa.trans hx3).trans hx34
  have t0 := oT.cell 0
  have t1 := oT.cell 1
  have zt := oT.lt
  have HVal : Hid (impB N ld c = true → ∀ k, k < c.length → litValid (c.getD k 0) N = true) := fun h k hk => (impB_iff.1 h).2.1 _ (by rw [getD_getElem hk]; exact List.getElem_mem hk)
  clear c0 c1 c2 c3 z0 HSe2 hx3 hR3 hS3 hTh hds hE o hxa
  go_wp2_with fail
  generalize w3.alloc (.cells #[.int .i64 N, .slice ta ld.length tcap] 24) = w4 at *
  generalize w3.heap.size = WB at *
  refine (HIm2.out _ _ _ _ hxb hR4).mono ?_
  rintro e w5 ⟨rfl, hx5⟩
  have oT5 := oT.ex hx5
  have hx05 := hxb.trans hx5
  have hR5 : Hid (RowsAt w5 _ ld) := hR4.ex hx5
  clear t0 t1 zt HIm2 hR4 oT hx34
  cases hi : impB N ld c with
  | false =>
    clear HMo HVal
    go_wp2_with (refine (works13_any _).mono ?_; rintro e w' ⟨rfl, hx⟩)
    go_ret
    exact ⟨rfl, hx05.trans hx⟩
  | true =>
    have HVal2 : Hid _ := HVal.out hi
    have HMo2 : Hid _ := HMo.out w5 N _ ld hx05 hR5.out hN hi
    have t0 := oT5.cell 0
    have t1 := oT5.cell 1
    have zt := oT5.lt
    clear HVal HMo hi
    go_wp2
    go_loopw [36] (fun kv wr => ∃ k : Nat, k ≤ c.length ∧ kv = .int .i64 k ∧ wr = w5) (fun kv _ => c.length - (intOf kv).toNat)
    case atStart => exact ⟨0, Nat.zero_le _, rfl, rfl⟩
    case round =>
      obtain ⟨k, hk, rfl, rfl⟩ := hrel
      by_cases hlt : k < c.length
      · obtain ⟨_, _, ev, _, _, e3⟩ := hc0.ex hx05
        cases ev
        obtain ⟨b, off, rfl, hb, hcell⟩ := e3 k hlt
        have hv := (litValid_iff _ _).1 (HVal2.out k hlt)
        have hkk : (k : Int) < c.length := by omega
        clear e3 HVal2 HMo2
        generalize c.getD k 0 = y at *
        have hy0 : (y == 0) = false := by rw [beq_eq_false_iff_ne]; omega
        have hwn : IntKind.i64.wrap (-(N : Int)) = -N := IntWalk.i64_in _ (by omega)
        go_wp2
        go_roundw
        case rel => exact ⟨k + 1, by omega, by go_num, trivial⟩
        case measure => simp [intOf]; omega
      · obtain rfl : k = c.length := by omega
        clear HVal2
        go_wp2_with fail
        refine Calls.mono HMo2.out ?_
        rintro e w6 ⟨rfl, hx6⟩
        go_wp2_with (refine (works13_any _).mono ?_; rintro e w' ⟨rfl, hx⟩)
        go_ret
        exact ⟨rfl, (hx05.trans hx6).trans hx⟩
end Go.Proofs.Yteagoaiiacideaa
