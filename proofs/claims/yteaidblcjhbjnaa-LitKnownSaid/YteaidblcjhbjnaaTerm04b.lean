/- The reference's Term and Clause: the same lists. -/
import Derived.Test.YteaidblcjhbjnaaTerm04
import Derived.Test.YteaidblcjhbjnaaOpp04
import Derived.Test.YteaidblcjhbjnaaOppLaw
namespace Go.Proofs.Yteaidblcjhbjnaa
set_option linter.unusedSimpArgs false
set_option linter.unusedVariables false
open Go.RowKit
set_option maxHeartbeats 1000000 in
theorem r04Term_any (lv : Value) (l : List Int) (n : Int) (w : World) (hl : IntsAt w lv l) :
    Calls Try.prog 19 #[lv, .int .i64 n] w (TermRet w (termL l n) (termB l n)) := by
  have HV : Hid _ := r04All1_any lv l n w hl
  have HO : Hid _ := r04Order_any lv l w hl
  have HP : Hid (l.all (litValid · n) = true → Calls Try.prog 38 #[lv] w fun e w' => e = .returned (.bool (oppB (orderL l))) ∧ w = w') := fun h => by
    rw [opp_order (valid_vars h)]; exact r04Opposite_any lv l w hl (valid_vars h)
  unfold termL termB
  obtain ⟨a, cap, rfl, _, _, h3⟩ := hl
  clear h3
  generalize orderL l = L at *
  generalize l.all (litValid · n) = V at *
  generalize oppB L = O at *
  cases V
  · clear HO HP
    show Calls _ _ _ _ (TermRet w [] false)
    go_enter Try.func19, Try.ntmps19
    go_wp2_with fail
    refine Calls.mono HV.out ?_
    rintro e w2 ⟨rfl, rfl⟩
    go_wp2
    go_ret2
    exact ⟨_, rfl, OwnI.nil _ _, Ex.refl _⟩
  · have HP2 : Hid _ := HP.out rfl
    clear HP
    cases O
    · show Calls _ _ _ _ (TermRet w L true)
      go_enter Try.func19, Try.ntmps19
      go_wp2_with fail
      refine Calls.mono HV.out ?_
      rintro e w2 ⟨rfl, rfl⟩
      go_wp2_with fail
      refine Calls.mono HP2.out ?_
      rintro e w2 ⟨rfl, rfl⟩
      go_wp2_with fail
      refine Calls.mono HO.out ?_
      rintro e w2 ⟨v, rfl, hO, hx⟩
      go_wp2
      go_ret2
      exact ⟨_, rfl, hO, hx⟩
    · show Calls _ _ _ _ (TermRet w [] false)
      go_enter Try.func19, Try.ntmps19
      go_wp2_with fail
      refine Calls.mono HV.out ?_
      rintro e w2 ⟨rfl, rfl⟩
      go_wp2_with fail
      refine Calls.mono HP2.out ?_
      rintro e w2 ⟨rfl, rfl⟩
      go_wp2
      go_ret2
      exact ⟨_, rfl, OwnI.nil _ _, Ex.refl _⟩
set_option maxHeartbeats 1000000 in
theorem r04Clause_any (lv : Value) (l : List Int) (n : Int) (w : World) (hl : IntsAt w lv l) :
    Calls Try.prog 21 #[lv, .int .i64 n] w (ClauseRet w (clauseL l n) (clauseB l n) (clauseE l n)) := by
  have HV : Hid _ := r04All1_any lv l n w hl
  have HO : Hid _ := r04Order_any lv l w hl
  have HP : Hid (l.all (litValid · n) = true → ∀ wa, Ex w wa → Calls Try.prog 38 #[lv] wa fun e w' => e = .returned (.bool (oppB (orderL l))) ∧ wa = w') := fun h wa hx => by
    rw [opp_order (valid_vars h)]; exact r04Opposite_any lv l wa (hl.ex hx) (valid_vars h)
  unfold clauseL clauseB clauseE
  obtain ⟨a, cap, rfl, _, _, h3⟩ := hl
  clear h3
  generalize orderL l = L at *
  generalize l.all (litValid · n) = V at *
  generalize oppB L = O at *
  cases V
  · clear HO HP
    show Calls _ _ _ _ (ClauseRet w [] false 1)
    go_enter Try.func21, Try.ntmps21
    go_wp2_with fail
    refine Calls.mono HV.out ?_
    rintro e w2 ⟨rfl, rfl⟩
    go_wp2
    go_ret3
    exact ⟨_, rfl, OwnI.nil _ _, Ex.refl _⟩
  · have HP2 : Hid _ := HP.out rfl
    clear HP
    show Calls _ _ _ _ (ClauseRet w L O 0)
    go_enter Try.func21, Try.ntmps21
    go_wp2_with fail
    refine Calls.mono HV.out ?_
    rintro e w2 ⟨rfl, rfl⟩
    go_wp2_with fail
    refine Calls.mono HO.out ?_
    rintro e w2 ⟨v, rfl, hO, hx⟩
    go_wp2_with fail
    refine (HP2.out _ hx).mono ?_
    rintro e w3 ⟨rfl, rfl⟩
    go_wp2
    go_ret3
    exact ⟨_, rfl, hO, hx⟩
end Go.Proofs.Yteaidblcjhbjnaa
