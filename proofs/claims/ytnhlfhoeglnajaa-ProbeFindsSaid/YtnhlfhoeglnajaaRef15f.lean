/- The reference of probing: Probe: it says what probe.Probe says. No condition. -/
import Derived.Test.YtnhlfhoeglnajaaRef15c
import Derived.Test.YtnhlfhoeglnajaaProbeT
namespace Go.Proofs.Ytnhlfhoeglnajaa
set_option linter.unusedSimpArgs false
set_option linter.unusedVariables false
open Go.RowKit
set_option maxRecDepth 20000
theorem probeT_bad {n : Int} {ll : List (List Int)} {l : List Int} (h : theoryErr n ll ≠ 0 ∨ termB l n = false) : probeT n ll l = none := by
  unfold probeT probeO
  rw [if_neg]
  rintro ⟨h1, h2⟩
  rcases h with h | h
  · exact h h1
  · rw [h] at h2; cases h2
def lenV : Value → Nat | .slice _ n _ => n | _ => 0
set_option maxRecDepth 100000 in
set_option maxHeartbeats 4000000 in
theorem r15Probe_err (n : Int) (lv av : Value) (ll : List (List Int)) (term : List Int) (w : World) (hR : RowsAt w lv ll) (he : theoryErr n ll ≠ 0) :
    Calls Try.prog 24 #[.agg #[.int .i64 n, lv], av] w (TermRet w [] false) := by
  have HCk : Hid (∀ wa, Ex w wa → Calls Try.prog 37 #[.agg #[.int .i64 n, lv]] wa fun e w' => e = .returned (.int .i64 (theoryErr n ll)) ∧ Ex wa w') := fun wa hx => r05Check_any n lv ll wa (hR.ex hx)
  obtain ⟨ra, rcap, rfl, _, _, r3⟩ := hR
  have hxa := Ex.alloc w (.cells #[.int .i64 n, .slice ra ll.length rcap] 24)
  have he' : (theoryErr n ll != 0) = true := by simp [he]
  clear r3 he
  generalize theoryErr n ll = ER at *
  go_enter Try.func24, Try.ntmps24
  go_wp2_with fail
  refine (HCk.out _ hxa).mono ?_
  rintro e w2 ⟨rfl, hx2⟩
  go_wp2
  go_ret2
  exact ⟨_, rfl, OwnI.nil _ _, hxa.trans hx2⟩
set_option maxRecDepth 100000 in
set_option maxHeartbeats 4000000 in
theorem r15Probe_any (n : Nat) (lv av : Value) (ll : List (List Int)) (term : List Int) (w : World) (hR : RowsAt w lv ll) (hl : IntsAt w av term) (he : theoryErr n ll = 0) :
    Calls Try.prog 24 #[.agg #[.int .i64 n, lv], av] w (TermRet w ((probeT n ll term).getD []) (probeT n ll term).isSome) := by
  have hn : n ≤ 128 := by have := (theoryErr_zero he).2.1; omega
  have HCk : Hid (∀ wa, Ex w wa → Calls Try.prog 37 #[.agg #[.int .i64 n, lv]] wa fun e w' => e = .returned (.int .i64 0) ∧ Ex wa w') := fun wa hx => he ▸ r05Check_any n lv ll wa (hR.ex hx)
  have HTe : Hid (∀ wa, Ex w wa → Calls Try.prog 48 #[av, .int .i64 n] wa fun e w' => e = .returned (.bool (termB term n)) ∧ Ex wa w') := fun wa hx => (r05Term_any av term n (by omega) (by omega) wa (hl.ex hx)).mono fun e w' h => ⟨h.1, h.2 ▸ Ex.refl _⟩
  have HSo : Hid (∀ wa u m, IntsAt wa u m → Calls Try.prog 49 #[u, .int .i64 n] wa (OrdRet wa (sortF m n))) := fun wa u m h => r15sorted_any u m n hn wa h
  have HSt : Hid (∀ wa u m, Ex w wa → IntsAt wa u m → Calls Try.prog 50 #[.agg #[.int .i64 n, lv], u] wa (TermRet wa (if closB n ll m then stepTo n ll (closL n ll m) n else []) (closB n ll m))) := fun wa u m hx h => r15step_any n lv u ll m wa hn (hR.ex hx) h
  have HTl : Hid (IntsAt w av term) := hl
  obtain ⟨ra, rcap, rfl, _, _, r3⟩ := hR
  obtain ⟨pa, pcap, rfl, _, _, p3⟩ := hl
  have hbox := OwnB.new w [.int .i64 n, .slice ra ll.length rcap] 24
  have hxa := Ex.alloc w (.cells #[.int .i64 n, .slice ra ll.length rcap] 24)
  clear r3 p3 he
  cases hb : termB term n with
  | false =>
    have hr : probeT n ll term = none := probeT_bad (.inr hb)
    rw [hb] at HTe
    rw [hr]
    show Calls _ _ _ _ (TermRet w [] false)
    clear hb hr HSo HSt HTl
    have c0 := hbox.cell 0
    have z0 := hbox.lt
    clear hbox
    go_enter Try.func24, Try.ntmps24
    go_wp2_with fail
    refine (HCk.out _ hxa).mono ?_
    rintro e w2 ⟨rfl, hx2⟩
    replace c0 := ex_cell c0 hx2
    replace z0 := Nat.lt_of_lt_of_le z0 hx2.size
    go_wp2_with fail
    refine (HTe.out _ (hxa.trans hx2)).mono ?_
    rintro e w3 ⟨rfl, hx3⟩
    go_wp2
    go_ret2
    exact ⟨_, rfl, OwnI.nil _ _, (hxa.trans hx2).trans hx3⟩
  | true =>
  rw [hb] at HTe
  have HW0 : Hid (OnWay n ll term (sortF term n)) := onway_start hb
  clear hb
  generalize hPT : probeT n ll term = PT
  have HPT : Hid (probeT n ll term = PT) := hPT
  clear hPT
  go_enter Try.func24, Try.ntmps24
  go_wp2_with fail
  refine (HCk.out _ hxa).mono ?_
  rintro e w2 ⟨rfl, hx2⟩
  replace hbox := hbox.ex hx2
  replace hxa := hxa.trans hx2
  have c0 := hbox.cell 0
  have z0 := hbox.lt
  clear hx2 HCk
  go_wp2_with fail
  refine (HTe.out _ hxa).mono ?_
  rintro e w3 ⟨rfl, hx3⟩
  replace hbox := hbox.ex hx3
  replace hxa := hxa.trans hx3
  clear hx3 HTe c0 z0
  have c0 := hbox.cell 0
  have z0 := hbox.lt
  go_wp2_with fail
  refine (HSo.out _ _ _ (HTl.out.ex hxa)).mono ?_
  rintro e w4 ⟨v4, rfl, ho4, hx4⟩
  replace hbox := hbox.ex hx4
  replace ho4 := ho4.base hxa.size
  replace hxa := hxa.trans hx4
  clear hx4 c0 z0
  generalize sortF term n = f0 at *
  go_wp2
  go_loopw [6] (fun fv wr => ∃ f : List Int, OwnI wr w.heap.size fv f ∧ Hid (OnWay n ll term f) ∧ Ex w4 wr) (fun fv _ => 300 - lenV fv)
  case atStart => exact ⟨f0, ho4, HW0, Ex.refl _⟩
  case round =>
    obtain ⟨f, hO, HW, hxr⟩ := hrel
    have hbr := hbox.ex hxr
    have hI := hO.ints
    obtain ⟨pf, qf, rfl, _, _, _⟩ := hI
    have hI := hO.ints
    have c0 := hbr.cell 0
    have c1 := hbr.cell 1
    have z0 := hbr.lt
    have HS1 : Hid _ := HSt.out wr _ f (hxa.trans hxr) hI
    clear HW0 ho4 HSt
    cases hc : closB n ll f with
    | false =>
      have hr : PT = none := by rw [← HPT.out]; exact onway_fail HW.out hc
      subst hr
      have HS2 := HS1.out
      rw [hc] at HS2
      have HS3 : Hid _ := HS2
      clear HS1 HS2 hc HW HPT HSo
      go_wp2_with fail
      refine Calls.mono HS3.out ?_
      rintro e w5 ⟨v5, rfl, ho5, hx5⟩
      go_wp2
      go_ret2
      exact ⟨_, rfl, OwnI.nil _ _, (hxa.trans hxr).trans hx5⟩
    | true =>
      have HS2 := HS1.out
      rw [hc, if_pos rfl] at HS2
      obtain ⟨g, hg⟩ : ∃ g, g = stepTo n ll (closL n ll f) n := ⟨_, rfl⟩
      rw [← hg] at HS2
      have HS3 : Hid _ := HS2
      have HG : Hid (g = stepTo n ll (closL n ll f) n) := hg
      have HC : Hid (closB n ll f = true) := hc
      clear HS1 HS2 hc hg
      by_cases hlen : g.length = f.length
      · have hr : PT = some (sortF f n) := by rw [← HPT.out]; exact onway_end HW.out HC.out (by rw [← HG.out]; exact hlen)
        subst hr
        go_wp2_with fail
        refine Calls.mono HS3.out ?_
        rintro e w5 ⟨v5, rfl, ho5, hx5⟩
        have hI5 := ho5.ints
        obtain ⟨p5, q5, rfl, _, _, _⟩ := hI5
        have d0 := ex_cell c0 hx5
        have d1 := ex_cell c1 hx5
        have y0 := Nat.lt_of_lt_of_le z0 hx5.size
        have HS4 : Hid _ := HSo.out w5 _ f (hI.ex hx5)
        clear HS3 c0 c1 z0 HW HG HC HPT HSo hO hI ho5
        go_wp2_with fail
        refine Calls.mono HS4.out ?_
        rintro e w6 ⟨v6, rfl, ho6, hx6⟩
        go_wp2
        go_ret2
        exact ⟨_, rfl, ho6.base (((hxa.trans hxr).trans hx5).size), ((hxa.trans hxr).trans hx5).trans hx6⟩
      · obtain ⟨HW2, _⟩ := onway_step HW.out HC.out
        have hmore := onway_more HW.out HC.out (by rw [← HG.out]; exact hlen)
        have hle := onway_len HW2 hn
        rw [← HG.out] at HW2 hmore hle
        have HW3 : Hid (OnWay n ll term g) := HW2
        clear HW HG HC HW2
        go_wp2_with fail
        refine Calls.mono HS3.out ?_
        rintro e w5 ⟨v5, rfl, ho5, hx5⟩
        have hI5 := ho5.ints
        obtain ⟨p5, q5, rfl, _, _, _⟩ := hI5
        replace ho5 := ho5.base ((hxa.trans hxr).size)
        clear HS3 c0 c1 z0 HPT HSo hO hI
        go_wp2
        go_roundw
        case rel => exact ⟨g, ho5, HW3, hxr.trans hx5⟩
        case measure => simp only [lenV]; omega
end Go.Proofs.Ytnhlfhoeglnajaa
