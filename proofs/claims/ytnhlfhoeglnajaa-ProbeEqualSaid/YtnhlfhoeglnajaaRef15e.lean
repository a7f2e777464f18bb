/- The reference's Equal: the walk. No condition. -/
import Derived.Test.YtnhlfhoeglnajaaChain2
namespace Go.Proofs.Ytnhlfhoeglnajaa
set_option linter.unusedSimpArgs false
set_option linter.unusedVariables false
open Go.RowKit
set_option maxRecDepth 20000
theorem leastF_last {t : Int → Int → Bool} {v : Int} : ∀ (m : Nat) (w : Int), w + m = v → t v v = true → leastF t v (m + 1) w = leastF t v m w
  | 0, w, h, ht => by
    have : w = v := by omega
    subst this
    show (if t w w then w else _) = w
    rw [if_pos ht]
  | m + 1, w, h, ht => by
    show (if t v w then w else if t v (-w) then -w else leastF t v (m + 1) (w + 1)) = (if t v w then w else if t v (-w) then -w else leastF t v m (w + 1))
    rw [leastF_last m (w + 1) (by omega) ht]
set_option maxRecDepth 100000 in
set_option maxHeartbeats 4000000 in
theorem r15Equal_bad (n : Int) (lv : Value) (ll : List (List Int)) (w : World) (hR : RowsAt w lv ll) (he : theoryErr n ll ≠ 0) :
    Calls Try.prog 29 #[.agg #[.int .i64 n, lv]] w (EqRet w [] (theoryErr n ll)) := by
  have HCk : Hid (∀ wa, Ex w wa → Calls Try.prog 37 #[.agg #[.int .i64 n, lv]] wa fun e w' => e = .returned (.int .i64 (theoryErr n ll)) ∧ Ex wa w') := fun wa hx => r05Check_any n lv ll wa (hR.ex hx)
  obtain ⟨ra, rcap, rfl, _, _, r3⟩ := hR
  have hxa := Ex.alloc w (.cells #[.int .i64 n, .slice ra ll.length rcap] 24)
  have he' : (theoryErr n ll != 0) = true := by simp [he]
  clear r3 he
  generalize theoryErr n ll = ER at *
  go_enter Try.func29, Try.ntmps29
  go_wp2_with fail
  refine (HCk.out _ hxa).mono ?_
  rintro e w2 ⟨rfl, hx2⟩
  go_wp2
  refine bodyPost_ret (v := .tuple #[.slice none 0 0, .int .i64 ER]) (by simp [results, Try.results29, go_sem]) rfl ?_
  exact ⟨_, rfl, OwnI.nil _ _, hxa.trans hx2⟩
set_option maxRecDepth 100000 in
set_option maxHeartbeats 4000000 in
theorem r15Equal_ok (n : Nat) (lv : Value) (ll : List (List Int)) (w : World) (hR : RowsAt w lv ll) (he : theoryErr n ll = 0) :
    Calls Try.prog 29 #[.agg #[.int .i64 n, lv]] w (EqRet w (eqL n ll n) 0) := by
  have hn : n ≤ 128 := by have := (theoryErr_zero he).2.1; omega
  have HCk : Hid (∀ wa, Ex w wa → Calls Try.prog 37 #[.agg #[.int .i64 n, lv]] wa fun e w' => e = .returned (.int .i64 0) ∧ Ex wa w') := fun wa hx => he ▸ r05Check_any n lv ll wa (hR.ex hx)
  have HCh : Hid (∀ wa v, Ex w wa → litValid v n = true → Calls Try.prog 56 #[.agg #[.int .i64 n, lv], .int .i64 v] wa (ChainRet wa n ll v)) := fun wa v hx hv => r15Chain_any n lv ll v wa hn (hR.ex hx) hv
  have HIn : Hid (∀ wa u (m : List Int) (x : Int), IntsAt wa u m → Calls Try.prog 57 #[u, .int .i64 x] wa fun e w' => e = .returned (.bool (m.contains x)) ∧ wa = w') := fun wa u m x h => r15in_any u m x wa h
  obtain ⟨ra, rcap, rfl, _, _, r3⟩ := hR
  have hbox := OwnB.new w [.int .i64 n, .slice ra ll.length rcap] 24
  have hxa := Ex.alloc w (.cells #[.int .i64 n, .slice ra ll.length rcap] 24)
  clear r3 he
  have HLs : Hid (∀ m, eqL n ll (m + 1) = eqL n ll m ++ [eqV n ll ((m : Int) + 1)]) := eqL_succ n ll
  have HLn : Hid (∀ m, (eqL n ll m).length = m) := eqL_len n ll
  go_enter Try.func29, Try.ntmps29
  go_wp2_with fail
  refine (HCk.out _ hxa).mono ?_
  rintro e w2 ⟨rfl, hx2⟩
  have hb2 := hbox.ex hx2
  have hxw := hxa.trans hx2
  clear HCk hbox hxa hx2
  have hsz := hxw.size
  go_wp2
  go_loopw [5, 6] (fun out vv wr => ∃ m : Nat, m ≤ n ∧ vv = .int .i64 ((m : Int) + 1) ∧ OwnI wr w2.heap.size out (eqL n ll m) ∧ Ex w2 wr) (fun _ vv _ => (n + 1 - intOf vv).toNat)
  case atStart => exact ⟨0, Nat.zero_le _, rfl, OwnI.nil _ _, Ex.refl _⟩
  case round =>
    obtain ⟨m, hm, rfl, hO, hxr⟩ := hrel
    have hbr := hb2.ex hxr
    have c0 := hbr.cell 0
    have c1 := hbr.cell 1
    have z1 := hbr.lt
    by_cases hlt : m < n
    · obtain ⟨v, hv⟩ : ∃ v : Int, v = (m : Int) + 1 := ⟨_, rfl⟩
      have HV : Hid _ := hv
      have q1 : v ≤ (n : Int) := by omega
      have q2 : 1 ≤ v := by omega
      have q3 : v ≤ 128 := by omega
      have hvv : litValid v n = true := (litValid_iff _ _).2 (by omega)
      have hS := HLs.out m
      have hlen : Hid ((eqL n ll m).length = m) := HLn.out m
      rw [← hv] at hS ⊢
      have HS : Hid _ := hS
      have HChv : Hid _ := HCh.out wr v (hxw.trans hxr) hvv
      clear hv hS HLs HLn HCh hvv
      go_wp2_with fail
      refine Calls.mono HChv.out ?_
      rintro e w3 ⟨v3, O, rfl, hO3, hT, hx3⟩
      have hI3 := hO3.ints
      obtain ⟨p3, q3', rfl, _, _, _⟩ := hI3
      have hI3 := hO3.ints
      have hO' := hO.ex hx3
      have hxr3 := hxr.trans hx3
      have hb3 := hbr.ex hx3
      have HTie : Hid (∀ x, O.contains x = tieB n ll v x) := fun x => by
        rw [Bool.eq_iff_iff, List.contains_iff_mem, tieB_iff]; exact hT x
      have HIc : Hid (∀ x, Calls Try.prog 57 #[.slice p3 O.length q3', .int .i64 x] w3 fun e w' => e = .returned (.bool (tieB n ll v x)) ∧ w3 = w') := fun x => by
        rw [← HTie.out x]; exact HIn.out w3 _ O x hI3
      have HE : Hid (leastF (tieB n ll) v v.toNat 1 = eqV n ll v) := by
        show _ = leastF (tieB n ll) v (v - 1).toNat 1
        rw [show v.toNat = (v - 1).toNat + 1 by omega]
        exact leastF_last _ 1 (by omega) (tieB_iff.2 (.refl v))
      clear HChv hO3 hT hI3 HTie c0 c1 z1 hO hxr hbr
      generalize O.length = ol at *
      obtain ⟨T, hTT⟩ : ∃ T : Int → Int → Bool, T = tieB n ll := ⟨_, rfl⟩
      rw [← hTT] at HIc HE
      clear hTT
      generalize eqV n ll v = ev at *
      go_wp2
      go_loop [8, 9] (fun bw iw => ∃ u : Nat, (u : Int) ≤ v ∧ iw = .int .i64 u ∧ bw = .int .i64 (leastF T v (v - u).toNat ((u : Int) + 1))) (fun _ iw => (intOf iw).toNat)
      case atStart => exact ⟨v.toNat, by omega, by rw [show ((v.toNat : Nat) : Int) = v by omega], by rw [show (v - ((v.toNat : Nat) : Int)).toNat = 0 by omega]; rfl⟩
      case round =>
        obtain ⟨u, hu, rfl, rfl⟩ := hrel
        by_cases hu1 : 1 ≤ u
        · obtain ⟨u', rfl⟩ : ∃ u', u = u' + 1 := ⟨u - 1, by omega⟩
          have H1 := HIc.out ((u' + 1 : Nat) : Int)
          have H2 := HIc.out (-((u' + 1 : Nat) : Int))
          have hm1 : (v - ((u' : Nat) : Int)).toNat = (v - ((u' + 1 : Nat) : Int)).toNat + 1 := by omega
          have hcc : ((u' : Nat) : Int) + 1 = ((u' + 1 : Nat) : Int) := by omega
          have HNew : Hid (leastF T v (v - ((u' : Nat) : Int)).toNat ((u' : Int) + 1) = if T v ((u' + 1 : Nat) : Int) then ((u' + 1 : Nat) : Int) else if T v (-((u' + 1 : Nat) : Int)) then -((u' + 1 : Nat) : Int) else leastF T v (v - ((u' + 1 : Nat) : Int)).toNat (((u' + 1 : Nat) : Int) + 1)) := by
            show _ = _
            rw [hm1, hcc]; rfl
          clear HIc HE hm1 hcc
          obtain ⟨x, hx⟩ : ∃ x : Int, x = ((u' + 1 : Nat) : Int) := ⟨_, rfl⟩
          have HX : Hid _ := hx
          have x1 : 1 ≤ x := by omega
          have x2 : x ≤ 128 := by omega
          rw [← hx] at H1 H2 HNew ⊢
          clear hx
          generalize leastF T v (v - x).toNat (x + 1) = old at *
          cases ht : T v x with
          | true =>
            rw [ht] at H1
            have H1' : Hid _ := H1
            have hN : Hid (leastF T v (v - ((u' : Nat) : Int)).toNat ((u' : Int) + 1) = x) := by show _ = _; rw [HNew.out, ht]; rfl
            clear H1 H2 HNew ht
            go_wp2_with fail
            refine Calls.mono H1'.out ?_
            rintro e w' ⟨rfl, rfl⟩
            go_wp2
            go_round
            case rel => exact ⟨u', by have := HX.out; omega, by rw [HX.out]; go_num, by rw [hN.out]⟩
            case measure => have := HX.out; simp [intOf]; omega
          | false =>
            rw [ht] at H1
            have H1' : Hid _ := H1
            cases ht2 : T v (-x) with
            | true =>
              rw [ht2] at H2
              have H2' : Hid _ := H2
              have hN : Hid (leastF T v (v - ((u' : Nat) : Int)).toNat ((u' : Int) + 1) = -x) := by show _ = _; rw [HNew.out, ht, ht2]; rfl
              clear H1 H2 HNew ht ht2
              go_wp2_with fail
              refine Calls.mono H1'.out ?_
              rintro e w' ⟨rfl, rfl⟩
              go_wp2_with fail
              refine Calls.mono H2'.out ?_
              rintro e w' ⟨rfl, rfl⟩
              go_wp2
              go_round
              case rel => exact ⟨u', by have := HX.out; omega, by rw [HX.out]; go_num, by rw [hN.out]⟩
              case measure => have := HX.out; simp [intOf]; omega
            | false =>
              rw [ht2] at H2
              have H2' : Hid _ := H2
              have hN : Hid (leastF T v (v - ((u' : Nat) : Int)).toNat ((u' : Int) + 1) = old) := by show _ = _; rw [HNew.out, ht, ht2]; rfl
              clear H1 H2 HNew ht ht2
              go_wp2_with fail
              refine Calls.mono H1'.out ?_
              rintro e w' ⟨rfl, rfl⟩
              go_wp2_with fail
              refine Calls.mono H2'.out ?_
              rintro e w' ⟨rfl, rfl⟩
              go_wp2
              go_round
              case rel => exact ⟨u', by have := HX.out; omega, by rw [HX.out]; go_num, by rw [hN.out]⟩
              case measure => have := HX.out; simp [intOf]; omega
        · obtain rfl : u = 0 := by omega
          have HE2 : Hid (leastF T v (v - ((0 : Nat) : Int)).toNat (((0 : Nat) : Int) + 1) = ev) := by
            show _ = _
            rw [← HE.out]; simp
          rw [HE2.out]
          clear HE HE2 HIc
          have hI := intsAt_fresh w3 ev 3
          have hs3 := hxr3.size
          go_wp2_with (at_builtin; refine wpList_append_ints rfl (.tmp 40) (.tmp 42) rfl rfl rfl (hO'.ex (Ex.alloc _ _)) hI ?c1 ?c2 ?_)
          case c1 => rw [hlen.out]; first | omega | (simp only [List.length_cons, List.length_nil]; omega)
          case c2 => first | omega | (rw [alloc_size]; omega)
          intro v8 w8 hown hg
          have hx8 : Ex w2 w8 := grown_ex (hxr3.alloc' _) hg (ownsRow_block hO')
          rw [← HS.out] at hown
          clear hI hg hO'
          go_wp2
          go_roundw
          case rel => exact ⟨m + 1, by omega, by rw [HV.out]; go_num, hown, hx8⟩
          case measure => have := HV.out; simp [intOf]; omega
    · obtain rfl : m = n := by omega
      clear HLs HLn HCh HIn
      go_wp2
      go_ret2
      exact ⟨_, rfl, hO.base hsz, hxw.trans hxr⟩
end Go.Proofs.Ytnhlfhoeglnajaa
