/- lit.Term and lit.Clause: lists in new memory. -/
import Derived.Test.YtlaejhmpnlcceaaSort04b
namespace Go.Proofs.Ytlaejhmpnlcceaa
set_option linter.unusedSimpArgs false
set_option linter.unusedVariables false
open Go.RowKit

def termL (l : List Int) (n : Int) : List Int := if l.all (litValid · n) && !oppB (orderL l) then orderL l else []
def termB (l : List Int) (n : Int) : Bool := l.all (litValid · n) && !oppB (orderL l)
def clauseL (l : List Int) (n : Int) : List Int := if l.all (litValid · n) then orderL l else []
def clauseB (l : List Int) (n : Int) : Bool := l.all (litValid · n) && oppB (orderL l)
def clauseE (l : List Int) (n : Int) : Int := if l.all (litValid · n) then 0 else 1
def TermRet (w : World) (L : List Int) (b : Bool) (e : Ending) (w' : World) : Prop := ∃ v, e = .returned (.tuple #[v, .bool b]) ∧ OwnI w' w.heap.size v L ∧ Ex w w'
theorem valid_vars {l : List Int} {n : Int} (h : l.all (litValid · n) = true) : ∀ x ∈ l, litVar x ≠ 0 := fun x hx => litVar_ne (List.all_eq_true.1 h x hx)
set_option maxHeartbeats 1000000 in
theorem litTerm_any (lv : Value) (l : List Int) (n : Int) (w : World) (hl : IntsAt w lv l) (hb : l.length * 8 ≤ 140737488355328) :
    Calls Try.prog 38 #[lv, .int .i64 n] w (TermRet w (termL l n) (termB l n)) := by
  have HV : Hid (∀ wa, Ex w wa → Calls Try.prog 51 #[lv, .int .i64 n] wa fun e w' => e = .returned (.bool (l.all (litValid · n))) ∧ Ex wa w') := fun wa hx => litValidAll_any lv l n wa (hl.ex hx)
  have HO : Hid (l.all (litValid · n) = true → ∀ wa, Ex w wa → Calls Try.prog 52 #[lv] wa (OrdRet wa (orderL l))) := fun h wa hx => litOrder_any lv l wa (hl.ex hx) (valid_vars h) hb
  have HP : Hid (l.all (litValid · n) = true → ∀ wa v, IntsAt wa v (orderL l) → Calls Try.prog 53 #[v] wa fun e w' => e = .returned (.bool (oppB (orderL l))) ∧ Ex wa w') := fun h wa v hv =>
    litOpposite_any v (orderL l) wa hv fun x hx => valid_vars h x ((orderL_mem (valid_vars h) x).1 hx)
  unfold termL termB
  obtain ⟨a, cap, rfl, _, _, h3⟩ := hl
  clear h3
  generalize orderL l = L at *
  generalize l.all (litValid · n) = V at *
  generalize oppB L = O at *
  cases V
  · clear HO HP
    show Calls _ _ _ _ (TermRet w [] false)
    go_enter Try.func38, Try.ntmps38
    go_wp2_with fail
    refine (HV.out _ (Ex.refl _)).mono ?_
    rintro e w2 ⟨rfl, hx2⟩
    go_wp2
    go_ret2
    exact ⟨_, rfl, OwnI.nil _ _, hx2⟩
  · cases O
    · show Calls _ _ _ _ (TermRet w L true)
      have HO' := HO.out rfl
      have HP' := HP.out rfl
      have HO2 : Hid _ := HO'
      have HP2 : Hid _ := HP'
      clear HO HP HO' HP'
      go_enter Try.func38, Try.ntmps38
      go_wp2_with fail
      refine (HV.out _ (Ex.refl _)).mono ?_
      rintro e w2 ⟨rfl, hx2⟩
      go_wp2_with fail
      refine (HO2.out _ hx2).mono ?_
      rintro e w3 ⟨v, rfl, hO, hx3⟩
      have hI := hO.ints
      obtain ⟨p, q, rfl, _, _, _⟩ := hI
      have hI := hO.ints
      go_wp2_with fail
      refine (HP2.out _ _ hI).mono ?_
      rintro e w4 ⟨rfl, hx4⟩
      have hO4 := (hO.ex hx4).base hx2.size
      have hx := (hx2.trans hx3).trans hx4
      clear hO hx2 hx3 hx4 hI
      go_wp2
      go_ret2
      exact ⟨_, rfl, hO4, hx⟩
    · show Calls _ _ _ _ (TermRet w [] false)
      have HO' := HO.out rfl
      have HP' := HP.out rfl
      have HO2 : Hid _ := HO'
      have HP2 : Hid _ := HP'
      clear HO HP HO' HP'
      go_enter Try.func38, Try.ntmps38
      go_wp2_with fail
      refine (HV.out _ (Ex.refl _)).mono ?_
      rintro e w2 ⟨rfl, hx2⟩
      go_wp2_with fail
      refine (HO2.out _ hx2).mono ?_
      rintro e w3 ⟨v, rfl, hO, hx3⟩
      have hI := hO.ints
      obtain ⟨p, q, rfl, _, _, _⟩ := hI
      have hI := hO.ints
      go_wp2_with fail
      refine (HP2.out _ _ hI).mono ?_
      rintro e w4 ⟨rfl, hx4⟩
      have hO4 := (hO.ex hx4).base hx2.size
      have hx := (hx2.trans hx3).trans hx4
      clear hO hx2 hx3 hx4 hI
      go_wp2
      go_ret2
      exact ⟨_, rfl, OwnI.nil _ _, hx⟩
end Go.Proofs.Ytlaejhmpnlcceaa
