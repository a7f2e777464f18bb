/- Chapter 13: what First says of a trail, in plain Lean; LearnUnit: the walk. No condition. -/
import Derived.Test.YteagoaiiacideaaLaw13g
import Derived.Test.YteagoaiiacideaaLearn6
namespace Go.Proofs.Yteagoaiiacideaa
set_option linter.unusedSimpArgs false
set_option linter.unusedVariables false
open Go.RowKit
set_option maxRecDepth 20000
/-- The three ways of First at a trail's conflict. -/
theorem first_cases {n : Int} {ll : List (List Int)} {tr : List St} {cf : Int} (hF : firstOk n ll tr cf = decide (0 ≤ cf)) :
    (cf < 0 ∧ firstL n ll tr cf = [] ∧ firstK n ll tr cf = 0 ∧ firstE n ll tr cf = 1) ∨ (0 ≤ cf ∧ firstOk n ll tr cf = true ∧ firstL n ll tr cf = [] ∧ firstK n ll tr cf = -1 ∧ firstE n ll tr cf = 0) ∨ (0 ≤ cf ∧ firstOk n ll tr cf = true ∧ 0 < firstTop ll tr cf ∧ firstE n ll tr cf = 0) := by
  by_cases h0 : 0 ≤ cf
  · rw [decide_eq_true h0] at hF
    by_cases hp : 0 < firstTop ll tr cf
    · exact .inr (.inr ⟨h0, hF, hp, (first_good hF hp).2.2⟩)
    · exact .inr (.inl ⟨h0, hF, first_low hF hp⟩)
  · rw [decide_eq_false h0] at hF
    exact .inl ⟨by omega, first_bad hF⟩
theorem firstL_valid {n : Int} {ll : List (List Int)} {tr : List St} {cf : Int} (h : firstOk n ll tr cf = true) (hp : 0 < firstTop ll tr cf) : ∀ y ∈ firstL n ll tr cf, litValid y n = true := fun y hy => by
  obtain ⟨_, h2, _⟩ := firstOk_iff.1 h
  obtain ⟨k, hk, _, rfl⟩ := (firstL_mem h hp).1 hy
  exact lit_valid_neg ((trl_of h2).val k hk)
/-- How many literals of a list are of a greater level than this one. -/
def overN (tr : List St) (b : Int) (c : List Int) : Nat := (c.filter fun y => decide (b < levelOf tr y)).length
theorem overN_succ (tr : List St) (b : Int) (c : List Int) {k : Nat} (hk : k < c.length) : overN tr b (c.take (k + 1)) = overN tr b (c.take k) + if b < levelOf tr (c.getD k 0) then 1 else 0 := by
  unfold overN
  rw [List.take_succ_eq_append_getElem hk, List.filter_append, List.length_append, getD_getElem hk]
  congr 1
  by_cases h : b < levelOf tr c[k]
  · rw [if_pos h, List.filter_cons, if_pos (decide_eq_true h)]; rfl
  · rw [if_neg h, List.filter_cons, if_neg (by simp; omega)]; rfl
theorem open_one {n : Int} {ll : List (List Int)} {tr : List St} {cf : Int} (h : firstOk n ll tr cf = true) (hp : 0 < firstTop ll tr cf) : overN tr (firstK n ll tr cf) (firstL n ll tr cf) = 1 := by
  obtain ⟨ha, h1, _, _⟩ := learned_levels h hp
  obtain ⟨_, _, hb⟩ := learned_back h hp
  rw [← h1]
  unfold overN
  congr 1
  refine List.filter_congr fun y hy => ?_
  obtain ⟨_, hy2, hy3, _⟩ := ha y hy
  by_cases e : levelOf tr y = firstTop ll tr cf
  · rw [e, decide_eq_true hb]; simp
  · have := hy3 (by omega)
    rw [decide_eq_false (by omega)]
    simp [e]
set_option maxRecDepth 100000 in
set_option maxHeartbeats 8000000 in
theorem LearnUnit_any (n : Int) (lv : Value) (nb : Int) (kv : Value) (ll : List (List Int)) (ks : List Int) (w : World) (hR : RowsAt w lv ll) (hw : ∀ c ∈ ll, ∀ y ∈ c, (Lit.int .i64 y).wf = true) (hnb : 0 ≤ nb ∧ nb < 256) (hk : BytesAt w kv ks) (hks : ∀ k ∈ ks, 0 ≤ k ∧ k < 256) :
    Calls Try.prog 6 #[.agg #[.int .i64 n, lv, .int .u8 nb, kv]] w fun e w' => e = .returned (.bool true) ∧ Ex w w' := by
  have HLi : Hid (∀ wa, Ex w wa → Calls Try.prog 24 #[.agg #[.int .i64 n, lv, .int .u8 nb, kv]] wa (AskRet wa ll ks)) := fun wa hx => askLight_any n nb lv kv ll ks wa (hR.ex hx) (hk.ex hx)
  have HSe : Hid ((ll.length ≤ 60 ∧ ∀ c ∈ ll, c.length ≤ 140) → ks.length ≤ 30 → ∀ wa, Ex w wa → Calls Try.prog 25 #[.agg #[.int .i64 n, lv, .int .u8 nb, kv]] wa (SetRet wa)) := fun h1 h2 wa hx => setting13_any n nb lv kv ll ks wa (hR.ex hx) (hk.ex hx) hnb hks h1 h2 hw
  obtain ⟨ra, rcap, rfl, _, _, r3⟩ := hR
  obtain ⟨ka, kcap, rfl, _, _, k3⟩ := hk
  clear r3 k3 hw hks hnb
  have o := OwnB.new w [.int .i64 n, .slice ra ll.length rcap, .int .u8 nb, .slice ka ks.length kcap] 46
  have hxa := Ex.alloc w (.cells #[.int .i64 n, .slice ra ll.length rcap, .int .u8 nb, .slice ka ks.length kcap] 46)
  go_enter Try.func6, Try.ntmps6
  go_wp2_with fail
  refine (HLi.out _ hxa).mono ?_
  rintro e w2 ⟨b, rfl, hb, hx2⟩
  replace o := o.ex hx2
  replace hxa := hxa.trans hx2
  clear hx2 HLi
  cases b with
  | false =>
    clear hb
    go_wp2_with (refine (works13_any _).mono ?_; rintro e w' ⟨rfl, hx⟩)
    go_ret
    exact ⟨rfl, hxa.trans hx⟩
  | true =>
  obtain ⟨hb1, hb2⟩ := hb rfl
  have HSe2 : Hid _ := HSe.out hb1 hb2
  clear hb hb1 hb2 HSe
  have c0 := o.cell 0
  have c1 := o.cell 1
  have c2 := o.cell 2
  have c3 := o.cell 3
  have z0 := o.lt
  go_wp2_with fail
  refine (HSe2.out _ hxa).mono ?_
  rintro e w3 ⟨N, lv2, sv2, ld, ds, rfl, hN, hTh, hds, hE, hR3, hS3, hx3⟩
  have hF := trail_conf hE
  have htl : (trailL N ld ds).length ≤ 1000 := trail_len
  generalize trailL N ld ds = tr at *
  generalize trailC N ld ds = C at *
  obtain ⟨ta, tcap, rfl, _, _, _⟩ := id hR3
  obtain ⟨sa, scap, rfl, _, _, _⟩ := id hS3
  have oT := OwnB.new w3 [.int .i64 N, .slice ta ld.length tcap] 24
  have hx34 := Ex.alloc w3 (.cells #[.int .i64 N, .slice ta ld.length tcap] 24)
  have hR4 := hR3.ex hx34
  have hS4 := hS3.ex hx34
  have hxb := (hxa.trans hx3).trans hx34
  have t0 := oT.cell 0
  have t1 := oT.cell 1
  have zt := oT.lt
  have HFi := learnFirst_any N _ _ ld tr C _ hR4 hS4 htl
  clear c0 c1 c2 c3 z0 HSe2 hx3 hR3 hS3 hTh hds hE o hxa hR4
  rcases first_cases hF with ⟨hC, e1, e2, e3⟩ | ⟨hC, hok, e1, e2, e3⟩ | ⟨hC, hok, hp, e3⟩
  · rw [e1, e2, e3] at HFi
    have HFj : Hid _ := HFi
    clear HFi hF
    go_wp2_with fail
    refine Calls.mono HFj.out ?_
    rintro e w5 ⟨v5, rfl, ho5, hx5⟩
    go_wp2_with (refine (works13_any _).mono ?_; rintro e w' ⟨rfl, hx⟩)
    go_ret
    exact ⟨rfl, (hxb.trans hx5).trans hx⟩
  · rw [e1, e2, e3] at HFi
    have HFj : Hid _ := HFi
    clear HFi hF
    go_wp2_with fail
    refine Calls.mono HFj.out ?_
    rintro e w5 ⟨v5, rfl, ho5, hx5⟩
    obtain ⟨a5, q5, rfl, _, _, _⟩ := ho5.ints
    simp only [List.length_nil]
    go_wp2_with (refine (works13_any _).mono ?_; rintro e w' ⟨rfl, hx⟩)
    go_ret
    exact ⟨rfl, (hxb.trans hx5).trans hx⟩
  rw [e3] at HFi
  have HFj : Hid _ := HFi
  have hval := firstL_valid hok hp
  have hone := open_one hok hp
  obtain ⟨hlev, _, _, hnil⟩ := learned_levels hok hp
  have hsu : ∀ k, k < (firstL N ld tr C).length → overN tr (firstK N ld tr C) ((firstL N ld tr C).take (k + 1)) = overN tr (firstK N ld tr C) ((firstL N ld tr C).take k) + if firstK N ld tr C < levelOf tr ((firstL N ld tr C).getD k 0) then 1 else 0 := fun k hk => overN_succ _ _ _ hk
  have hle : ∀ k, overN tr (firstK N ld tr C) ((firstL N ld tr C).take k) ≤ k := fun k => Nat.le_trans (List.length_filter_le _ _) (by rw [List.length_take]; omega)
  generalize firstL N ld tr C = FL at *
  generalize firstK N ld tr C = FK at *
  have HLev : Hid (∀ k, k < FL.length → litValid (FL.getD k 0) N = true ∧ levelOf tr (-(FL.getD k 0)) = -1) := fun k hk => by
    have hm : FL.getD k 0 ∈ FL := by rw [getD_getElem hk]; exact List.getElem_mem hk
    exact ⟨hval _ hm, (hlev _ hm).2.2.2⟩
  have hFL : FL.length ≠ 0 := fun h => hnil (List.length_eq_zero_iff.1 h)
  have HOne : Hid (overN tr FK FL = 1) := hone
  have HSu : Hid (∀ k, k < FL.length → overN tr FK (FL.take (k + 1)) = overN tr FK (FL.take k) + if FK < levelOf tr (FL.getD k 0) then 1 else 0) := hsu
  have HLe : Hid (∀ k, overN tr FK (FL.take k) ≤ k) := hle
  have HLv : Hid (∀ (wa : World) (y : Int), Ex (w3.alloc (.cells #[.int .i64 N, .slice ta ld.length tcap] 24)) wa → -1000 ≤ y → y ≤ 1000 → Calls Try.prog 26 #[.slice sa tr.length scap, .int .i64 y] wa fun e w' => e = .returned (.int .i64 (levelOf tr y)) ∧ Ex wa w') := fun wa y hx y1 y2 => levels13_any _ tr y wa (hS4.ex hx) y1 y2 htl
  clear HFi hF hval hone hlev hnil hsu hle hok hp hS4
  have hFb : (((FL.length : Nat) : Int) == 0) = false := by rw [beq_eq_false_iff_ne]; omega
  go_wp2_with fail
  generalize w3.alloc (.cells #[.int .i64 N, .slice ta ld.length tcap] 24) = w4 at *
  generalize w3.heap.size = WB at *
  refine Calls.mono HFj.out ?_
  rintro e w5 ⟨v5, rfl, ho5, hx5⟩
  have hI5 := ho5.ints
  obtain ⟨a5, q5, rfl, _, q6, _⟩ := id hI5
  unfold maxLen at q6
  clear HFj oT hx34 t0 t1 zt ho5
  go_wp2
  clear hFb
  go_loopw [10, 45] (fun ov kv wr => ∃ k : Nat, k ≤ FL.length ∧ kv = .int .i64 k ∧ ov = .int .i64 (overN tr FK (FL.take k) : Nat) ∧ Ex w5 wr) (fun _ kv _ => FL.length - (intOf kv).toNat)
  case atStart => exact ⟨0, Nat.zero_le _, rfl, (by simp [overN]), Ex.refl _⟩
  case round =>
    obtain ⟨k, hk, rfl, rfl, hxr⟩ := hrel
    by_cases hlt : k < FL.length
    · obtain ⟨_, _, ev, _, _, e3⟩ := hI5.ex hxr
      cases ev
      obtain ⟨b, off, rfl, hb, hcell⟩ := e3 k hlt
      obtain ⟨hv, hneg⟩ := HLev.out k hlt
      replace hv := (litValid_iff _ _).1 hv
      have hs := HSu.out k hlt
      have hkk : (k : Int) < FL.length := by omega
      have hle := HLe.out k
      have H1 : Hid _ := HLv.out wr (FL.getD k 0) (hx5.trans hxr) (by omega) (by omega)
      have H2 : Hid _ := fun (wa : World) (hx : Ex wr wa) => HLv.out wa (-(FL.getD k 0)) ((hx5.trans hxr).trans hx) (by omega) (by omega)
      rw [hneg] at H2
      obtain ⟨oc, hoc⟩ : ∃ oc, overN tr FK (FL.take k) = oc := ⟨_, rfl⟩
      rw [hoc] at hs hle ⊢
      have HS : Hid _ := hs
      clear hs e3 HLev HSu HLe HOne HLv hneg hoc
      generalize FL.getD k 0 = y at *
      generalize levelOf tr y = LY at *
      have hwn : IntKind.i64.wrap (-y) = -y := IntWalk.i64_in _ (by omega)
      go_wp2_with fail
      refine Calls.mono H1.out ?_
      rintro e w6 ⟨rfl, hx6⟩
      by_cases hgt : FK < LY
      · have HS2 : Hid (overN tr FK (FL.take (k + 1)) = oc + 1) := by have := HS.out; rw [if_pos hgt] at this; exact this
        clear HS
        go_wp2_with fail
        refine Calls.mono (H2.out _ hx6) ?_
        rintro e w7 ⟨rfl, hx7⟩
        go_wp2
        go_roundw
        case rel => exact ⟨k + 1, by omega, by go_num, (by rw [HS2.out]; go_num), (hxr.trans hx6).trans hx7⟩
        case measure => simp [intOf]; omega
      · have HS2 : Hid (overN tr FK (FL.take (k + 1)) = oc) := by have := HS.out; rw [if_neg hgt] at this; exact this
        clear HS
        go_wp2_with fail
        refine Calls.mono (H2.out _ hx6) ?_
        rintro e w7 ⟨rfl, hx7⟩
        go_wp2
        go_roundw
        case rel => exact ⟨k + 1, by omega, by go_num, (by rw [HS2.out]), (hxr.trans hx6).trans hx7⟩
        case measure => simp [intOf]; omega
    · obtain rfl : k = FL.length := by omega
      rw [List.take_length, HOne.out]
      clear HLev HSu HLe HOne HLv
      go_wp2_with (refine (works13_any _).mono ?_; rintro e w' ⟨rfl, hx⟩)
      go_ret
      exact ⟨rfl, ((hxb.trans hx5).trans hxr).trans hx⟩
end Go.Proofs.Yteagoaiiacideaa
