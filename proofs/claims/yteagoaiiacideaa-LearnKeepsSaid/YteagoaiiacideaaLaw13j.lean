/- Chapter 13: LearnTrue: the walk. No condition. -/
import Derived.Test.YteagoaiiacideaaLaw13h
namespace Go.Proofs.Yteagoaiiacideaa
set_option linter.unusedSimpArgs false
set_option linter.unusedVariables false
open Go.RowKit
set_option maxRecDepth 20000
/-- How many literals of a list are of this level. -/
def eqN (tr : List St) (t : Int) (c : List Int) : Nat := (c.filter fun y => levelOf tr y == t).length
theorem eqN_succ (tr : List St) (t : Int) (c : List Int) {k : Nat} (hk : k < c.length) : eqN tr t (c.take (k + 1)) = eqN tr t (c.take k) + if levelOf tr (c.getD k 0) = t then 1 else 0 := by
  unfold eqN
  rw [List.take_succ_eq_append_getElem hk, List.filter_append, List.length_append, getD_getElem hk]
  congr 1
  by_cases h : levelOf tr c[k] = t
  · rw [if_pos h, List.filter_cons, if_pos (by simpa using h)]; rfl
  · rw [if_neg h, List.filter_cons, if_neg (by simpa using h)]; rfl
theorem topI_succ (tr : List St) (c : List Int) {k : Nat} (hk : k < c.length) : topI tr (c.take (k + 1)) = max (topI tr (c.take k)) (levelOf tr (c.getD k 0)) := by
  unfold topI
  rw [List.take_succ_eq_append_getElem hk, List.foldl_append, getD_getElem hk]
  rfl
theorem backL_succ (tr : List St) (t : Int) (c : List Int) {k : Nat} (hk : k < c.length) : backL tr (c.take (k + 1)) t = if levelOf tr (c.getD k 0) < t then max (backL tr (c.take k) t) (levelOf tr (c.getD k 0)) else backL tr (c.take k) t := by
  unfold backL
  rw [List.take_succ_eq_append_getElem hk, List.filter_append, List.foldl_append, getD_getElem hk]
  by_cases h : levelOf tr c[k] < t
  · rw [if_pos h, List.filter_cons, if_pos (decide_eq_true h)]; rfl
  · rw [if_neg h, List.filter_cons, if_neg (by simpa using h)]; rfl
theorem firstL_len {n : Nat} {ll : List (List Int)} {tr : List St} {cf : Int} (h : firstOk n ll tr cf = true) : (firstL n ll tr cf).length ≤ 2 * n := by
  by_cases hp : 0 < firstTop ll tr cf
  · obtain ⟨_, h2, _⟩ := firstOk_iff.1 h
    have e := first_eq (trl_of h2) (learned_rep h hp)
    have hl : (ordF (firstL n ll tr cf) n).length ≤ 2 * n := ordF_len _ _
    rwa [e, ← (first_good h hp).1] at hl
  · rw [(first_low h hp).1]; simp
/-- What First says of a trail's conflict. -/
theorem first_true {n : Nat} {ll : List (List Int)} {tr : List St} {cf : Int} (hF : firstOk n ll tr cf = decide (0 ≤ cf)) :
    (cf < 0 ∧ firstL n ll tr cf = [] ∧ firstK n ll tr cf = 0 ∧ firstE n ll tr cf = 1) ∨
    (0 ≤ cf ∧ firstE n ll tr cf = 0 ∧ impB n ll (firstL n ll tr cf) = true ∧ (firstL n ll tr cf).length ≤ 2 * n ∧
      ((firstL n ll tr cf = [] ∧ firstK n ll tr cf = -1) ∨ ∃ T, 0 < T ∧ firstL n ll tr cf ≠ [] ∧ (∀ y ∈ firstL n ll tr cf, 0 ≤ levelOf tr y ∧ levelOf tr y ≤ T) ∧ eqN tr T (firstL n ll tr cf) = 1 ∧ topI tr (firstL n ll tr cf) = T ∧ backL tr (firstL n ll tr cf) T = firstK n ll tr cf ∧ firstK n ll tr cf < T)) := by
  rcases first_cases hF with h | ⟨hC, hok, e1, e2, e3⟩ | ⟨hC, hok, hp, e3⟩
  · exact .inl h
  · exact .inr ⟨hC, e3, first_implied hok, firstL_len hok, .inl ⟨e1, e2⟩⟩
  · obtain ⟨h1, h2, h3, h4⟩ := learned_levels hok hp
    obtain ⟨b1, _, b3⟩ := learned_back hok hp
    exact .inr ⟨hC, e3, first_implied hok, firstL_len hok, .inr ⟨_, hp, h4, fun y hy => ⟨(h1 y hy).1, (h1 y hy).2.1⟩, h2, h3, b1.symm, b3⟩⟩
set_option maxRecDepth 100000 in
set_option maxHeartbeats 8000000 in
theorem LearnTrue_any (n : Int) (lv : Value) (nb : Int) (kv : Value) (ll : List (List Int)) (ks : List Int) (w : World) (hR : RowsAt w lv ll) (hw : ∀ c ∈ ll, ∀ y ∈ c, (Lit.int .i64 y).wf = true) (hnb : 0 ≤ nb ∧ nb < 256) (hk : BytesAt w kv ks) (hks : ∀ k ∈ ks, 0 ≤ k ∧ k < 256) :
    Calls Try.prog 8 #[.agg #[.int .i64 n, lv, .int .u8 nb, kv]] w fun e w' => e = .returned (.bool true) ∧ Ex w w' := by
  have HLi : Hid (∀ wa, Ex w wa → Calls Try.prog 24 #[.agg #[.int .i64 n, lv, .int .u8 nb, kv]] wa (AskRet wa ll ks)) := fun wa hx => askLight_any n nb lv kv ll ks wa (hR.ex hx) (hk.ex hx)
  have HSe : Hid ((ll.length ≤ 60 ∧ ∀ c ∈ ll, c.length ≤ 140) → ks.length ≤ 30 → ∀ wa, Ex w wa → Calls Try.prog 25 #[.agg #[.int .i64 n, lv, .int .u8 nb, kv]] wa (SetRet wa)) := fun h1 h2 wa hx => setting13_any n nb lv kv ll ks wa (hR.ex hx) (hk.ex hx) hnb hks h1 h2 hw
  obtain ⟨ra, rcap, rfl, _, _, r3⟩ := hR
  obtain ⟨ka, kcap, rfl, _, _, k3⟩ := hk
  clear r3 k3 hw hks hnb
  have o := OwnB.new w [.int .i64 n, .slice ra ll.length rcap, .int .u8 nb, .slice ka ks.length kcap] 46
  have hxa := Ex.alloc w (.cells #[.int .i64 n, .slice ra ll.length rcap, .int .u8 nb, .slice ka ks.length kcap] 46)
  go_enter Try.func8, Try.ntmps8
  go_wp2_with fail
  refine (HLi.out _ hxa).mono ?_
  rintro e w2 ⟨b, rfl, hb, hx2⟩
  replace o := o.ex hx2
  replace hxa := hxa.trans hx2
  clear hx2 HLi
  cases b with
  | false =>
    clear hb
    go_wp2_with (refine (works13_any _).mono ?_; rintro e w' ⟨rfl, hx⟩)
    go_ret
    exact ⟨rfl, hxa.trans hx⟩
  | true =>
  obtain ⟨hb1, hb2⟩ := hb rfl
  have HSe2 : Hid _ := HSe.out hb1 hb2
  clear hb hb1 hb2 HSe
  have c0 := o.cell 0
  have c1 := o.cell 1
  have c2 := o.cell 2
  have c3 := o.cell 3
  have z0 := o.lt
  go_wp2_with fail
  refine (HSe2.out _ hxa).mono ?_
  rintro e w3 ⟨N, lv2, sv2, ld, ds, rfl, hN, hTh, hds, hE, hR3, hS3, hx3⟩
  have hF := trail_conf hE
  have htl : (trailL N ld ds).length ≤ 1000 := trail_len
  generalize trailL N ld ds = tr at *
  generalize trailC N ld ds = C at *
  obtain ⟨ta, tcap, rfl, _, _, _⟩ := id hR3
  obtain ⟨sa, scap, rfl, _, _, _⟩ := id hS3
  have oT := OwnB.new w3 [.int .i64 N, .slice ta ld.length tcap] 24
  have hx34 := Ex.alloc w3 (.cells #[.int .i64 N, .slice ta ld.length tcap] 24)
  have hR4 := hR3.ex hx34
  have hS4 := hS3.ex hx34
  have hxb := (hxa.trans hx3).trans hx34
  have t0 := oT.cell 0
  have t1 := oT.cell 1
  have zt := oT.lt
  have HFi := learnFirst_any N _ _ ld tr C _ hR4 hS4 htl
  clear c0 c1 c2 c3 z0 HSe2 hx3 hR3 hS3 hTh hds hE o hxa
  rcases first_true hF with ⟨hC, e1, e2, e3⟩ | ⟨hC, e3, hI, hLn, hway⟩
  · rw [e1, e2, e3] at HFi
    have HFj : Hid _ := HFi
    clear HFi hF hR4
    go_wp2_with fail
    refine Calls.mono HFj.out ?_
    rintro e w5 ⟨v5, rfl, ho5, hx5⟩
    obtain ⟨a5, q5, rfl, _, _, _⟩ := ho5.ints
    simp only [List.length_nil]
    go_wp2_with (refine (works13_any _).mono ?_; rintro e w' ⟨rfl, hx⟩)
    go_ret
    exact ⟨rfl, (hxb.trans hx5).trans hx⟩
  rw [e3] at HFi
  have HFj : Hid _ := HFi
  have hts : ∀ k, k < (firstL N ld tr C).length → topI tr ((firstL N ld tr C).take (k + 1)) = max (topI tr ((firstL N ld tr C).take k)) (levelOf tr ((firstL N ld tr C).getD k 0)) := fun k hk => topI_succ _ _ hk
  generalize firstL N ld tr C = FL at *
  generalize firstK N ld tr C = FK at *
  have hval := (impB_iff.1 hI).2.1
  have HVal : Hid (∀ k, k < FL.length → litValid (FL.getD k 0) N = true) := fun k hk => hval _ (by rw [getD_getElem hk]; exact List.getElem_mem hk)
  have HTS : Hid (∀ k, k < FL.length → topI tr (FL.take (k + 1)) = max (topI tr (FL.take k)) (levelOf tr (FL.getD k 0))) := hts
  have HWay : Hid _ := hway
  have HLv : Hid (∀ (wa : World) (y : Int), Ex (w3.alloc (.cells #[.int .i64 N, .slice ta ld.length tcap] 24)) wa → -1000 ≤ y → y ≤ 1000 → Calls Try.prog 26 #[.slice sa tr.length scap, .int .i64 y] wa fun e w' => e = .returned (.int .i64 (levelOf tr y)) ∧ Ex wa w') := fun wa y hx y1 y2 => levels13_any _ tr y wa (hS4.ex hx) y1 y2 htl
  have HMo : Hid (∀ (wa : World) (v : Value), Ex (w3.alloc (.cells #[.int .i64 N, .slice ta ld.length tcap] 24)) wa → IntsAt wa v FL → Calls Try.prog 29 #[.agg #[.int .i64 N, .slice ta ld.length tcap], v] wa fun e w' => e = .returned (.bool true) ∧ Ex wa w') := fun wa v hx hi => by
    have := models13_any N _ v ld FL wa (hR4.ex hx) hi hN hval
    rwa [modB_imp hI] at this
  have HIm : Hid (∀ (wa : World) (v : Value), Ex (w3.alloc (.cells #[.int .i64 N, .slice ta ld.length tcap] 24)) wa → IntsAt wa v FL → Calls Try.prog 22 #[.agg #[.int .i64 N, .slice ta ld.length tcap], v] wa fun e w' => e = .returned (.bool true) ∧ Ex wa w') := fun wa v hx hi => by
    have := learnImplied_any N _ v ld FL wa (hR4.ex hx) hi (by omega)
    rwa [hI] at this
  clear HFi hF hval hway hts hI hR4
  go_wp2_with fail
  generalize w3.alloc (.cells #[.int .i64 N, .slice ta ld.length tcap] 24) = w4 at *
  generalize w3.heap.size = WB at *
  refine Calls.mono HFj.out ?_
  rintro e w5 ⟨v5, rfl, ho5, hx5⟩
  have hI5 := ho5.ints
  have hI50 := hI5
  obtain ⟨a5, q5, rfl, _, q6, q7⟩ := hI5
  unfold maxLen at q6
  have oT5 := oT.ex hx5
  clear HFj hx34 t0 t1 zt ho5 q7
  have t0 := oT5.cell 0
  have t1 := oT5.cell 1
  have zt := oT5.lt
  go_wp2_with fail
  refine Calls.mono (HMo.out _ _ hx5 hI50) ?_
  rintro e w6 ⟨rfl, hx6⟩
  have oT6 := oT5.ex hx6
  clear t0 t1 zt HMo oT5
  have t0 := oT6.cell 0
  have t1 := oT6.cell 1
  have zt := oT6.lt
  go_wp2_with fail
  refine Calls.mono (HIm.out _ _ (hx5.trans hx6) (hI50.ex hx6)) ?_
  rintro e w7 ⟨rfl, hx7⟩
  have hx57 := hx6.trans hx7
  have hx47 := hx5.trans hx57
  have hI7 := hI50.ex hx57
  have hx07 := hxb.trans hx47
  clear t0 t1 zt HIm oT6 oT hI50 hx57 hx6 hx7
  go_wp2
  go_loopw [10, 71] (fun tv kv wr => ∃ k : Nat, k ≤ FL.length ∧ kv = .int .i64 k ∧ tv = .int .i64 (topI tr (FL.take k)) ∧ Ex w7 wr) (fun _ kv _ => FL.length - (intOf kv).toNat)
  case atStart => exact ⟨0, Nat.zero_le _, rfl, (by simp [topI]), Ex.refl _⟩
  case round =>
    obtain ⟨k, hk, rfl, rfl, hxr⟩ := hrel
    by_cases hlt : k < FL.length
    · obtain ⟨_, _, ev, _, _, e3⟩ := hI7.ex hxr
      cases ev
      obtain ⟨b, off, rfl, hb, hcell⟩ := e3 k hlt
      have hv := (litValid_iff _ _).1 (HVal.out k hlt)
      have hs := HTS.out k hlt
      have hkk : (k : Int) < FL.length := by omega
      have H1 : Hid _ := HLv.out wr (FL.getD k 0) (hx47.trans hxr) (by omega) (by omega)
      have HS : Hid _ := hs
      clear hs e3 HVal HTS HWay HLv
      generalize FL.getD k 0 = y at *
      generalize levelOf tr y = LY at *
      obtain ⟨mx, hmx⟩ : ∃ mx, max (topI tr (FL.take k)) LY = mx := ⟨_, rfl⟩
      generalize topI tr (FL.take k) = tk at *
      go_wp2_with fail
      refine Calls.mono H1.out ?_
      rintro e w8 ⟨rfl, hx8⟩
      go_wp2
      go_roundw
      case rel => exact ⟨k + 1, by omega, by go_num, (by rw [HS.out, hmx]), hxr.trans hx8⟩
      case measure => simp [intOf]; omega
    · obtain rfl : k = FL.length := by omega
      rw [List.take_length]
      have hx4r := hx47.trans hxr
      have hx0r := hx07.trans hxr
      have hIr := hI7.ex hxr
      clear HTS hxr hx07 hx47 hI7 hlt hk
      rcases HWay.out with ⟨e1, e2⟩ | ⟨T, hT, hne, hlev, heq, htop, hback, hbt⟩
      · subst e1
        subst e2
        clear HWay HVal HLv
        go_wp2
        go_loopw [11, 12, 83] (fun _ _ kv ws => kv = .int .i64 0 ∧ Ex wr ws) (fun _ _ _ _ => 0)
        case atStart => exact ⟨rfl, Ex.refl _⟩
        case round =>
          obtain ⟨rfl, hxq⟩ := hrel
          simp only [List.length_nil]
          go_wp2_with (refine (works13_any _).mono ?_; rintro e w' ⟨rfl, hx⟩)
          go_ret
          exact ⟨rfl, (hx0r.trans hxq).trans hx⟩
      · rw [htop]
        have HSt : Hid (∀ k, k < FL.length → (0 ≤ levelOf tr (FL.getD k 0) ∧ levelOf tr (FL.getD k 0) ≤ T) ∧ (eqN tr T (FL.take (k + 1)) = eqN tr T (FL.take k) + if levelOf tr (FL.getD k 0) = T then 1 else 0) ∧ (backL tr (FL.take (k + 1)) T = if levelOf tr (FL.getD k 0) < T then max (backL tr (FL.take k) T) (levelOf tr (FL.getD k 0)) else backL tr (FL.take k) T) ∧ eqN tr T (FL.take k) ≤ k) := fun k hk => ⟨hlev _ (by rw [getD_getElem hk]; exact List.getElem_mem hk), eqN_succ _ _ _ hk, backL_succ _ _ _ hk, Nat.le_trans (List.length_filter_le _ _) (by rw [List.length_take]; omega)⟩
        have HEnd : Hid (eqN tr T FL = 1 ∧ backL tr FL T = FK) := ⟨heq, hback⟩
        have hFL : FL.length ≠ 0 := fun h => hne (List.length_eq_zero_iff.1 h)
        have hFb : (((FL.length : Nat) : Int) == 0) = false := by rw [beq_eq_false_iff_ne]; omega
        have hT1 : T ≠ -1 := by omega
        clear HWay hlev heq htop hback hne
        go_wp2
        go_loopw [11, 12, 83] (fun mv rv kv ws => ∃ k : Nat, k ≤ FL.length ∧ kv = .int .i64 k ∧ mv = .int .i64 (eqN tr T (FL.take k) : Nat) ∧ rv = .int .i64 (backL tr (FL.take k) T) ∧ Ex wr ws) (fun _ _ kv _ => FL.length - (intOf kv).toNat)
        case atStart => exact ⟨0, Nat.zero_le _, rfl, (by simp [eqN]), (by simp [backL]), Ex.refl _⟩
        case round =>
          obtain ⟨k, hk, rfl, rfl, rfl, hxq⟩ := hrel
          by_cases hlt : k < FL.length
          · obtain ⟨_, _, ev, _, _, e3⟩ := hIr.ex hxq
            cases ev
            obtain ⟨b, off, rfl, hb, hcell⟩ := e3 k hlt
            have hv := (litValid_iff _ _).1 (HVal.out k hlt)
            obtain ⟨⟨l0, l1⟩, hs1, hs2, hs3⟩ := HSt.out k hlt
            have hkk : (k : Int) < FL.length := by omega
            have H1 : Hid _ := HLv.out _ (FL.getD k 0) (hx4r.trans hxq) (by omega) (by omega)
            obtain ⟨en, hen⟩ : ∃ x, eqN tr T (FL.take k) = x := ⟨_, rfl⟩
            obtain ⟨bk, hbk⟩ : ∃ x, backL tr (FL.take k) T = x := ⟨_, rfl⟩
            rw [hen] at hs1 hs3 ⊢
            rw [hbk] at hs2 ⊢
            have HS : Hid (_ ∧ _) := ⟨hs1, hs2⟩
            clear hs1 hs2 e3 HVal HSt HEnd HLv hen hbk
            generalize FL.getD k 0 = y at *
            generalize levelOf tr y = LY at *
            go_wp2_with fail
            refine Calls.mono H1.out ?_
            rintro e w8 ⟨rfl, hx8⟩
            by_cases hLT : LY = T
            · have HS2 : Hid (eqN tr T (FL.take (k + 1)) = en + 1 ∧ backL tr (FL.take (k + 1)) T = bk) := by
                obtain ⟨h1, h2⟩ := HS.out
                rw [if_pos hLT] at h1
                rw [if_neg (by omega)] at h2
                exact ⟨h1, h2⟩
              clear HS
              subst hLT
              go_wp2
              go_roundw
              case rel => exact ⟨k + 1, by omega, by go_num, (by rw [HS2.out.1]; go_num), (by rw [HS2.out.2]), hxq.trans hx8⟩
              case measure => simp [intOf]; omega
            · obtain ⟨mx, hmx⟩ : ∃ mx, max bk LY = mx := ⟨_, rfl⟩
              have HS2 : Hid (eqN tr T (FL.take (k + 1)) = en ∧ backL tr (FL.take (k + 1)) T = mx) := by
                obtain ⟨h1, h2⟩ := HS.out
                rw [if_neg hLT] at h1
                rw [if_pos (by omega), hmx] at h2
                exact ⟨h1, h2⟩
              have hLb : (LY == T) = false := by rw [beq_eq_false_iff_ne]; exact hLT
              clear HS
              go_wp2
              go_roundw
              case rel => exact ⟨k + 1, by omega, by go_num, (by rw [HS2.out.1]), (by rw [HS2.out.2]), hxq.trans hx8⟩
              case measure => simp [intOf]; omega
          · obtain rfl : k = FL.length := by omega
            rw [List.take_length, HEnd.out.1, HEnd.out.2]
            clear HVal HSt HEnd HLv
            go_wp2_with (refine (works13_any _).mono ?_; rintro e w' ⟨rfl, hx⟩)
            go_ret
            exact ⟨rfl, (hx0r.trans hxq).trans hx⟩
end Go.Proofs.Yteagoaiiacideaa
