/- Chapter 13: LearnImplies: the walk. No condition. -/
import Derived.Test.YteagoaiiacideaaLaw13a
import Derived.Test.YteagoaiiacideaaLrnE
namespace Go.Proofs.Yteagoaiiacideaa
set_option linter.unusedSimpArgs false
set_option linter.unusedVariables false
open Go.RowKit
set_option maxRecDepth 20000
set_option maxRecDepth 100000 in
set_option maxHeartbeats 4000000 in
theorem LearnImplies_any (n : Int) (lv sv : Value) (cf : Int) (cv : Value) (ll : List (List Int)) (tr : List St) (c : List Int) (w : World) (hR : RowsAt w lv ll) (hS : StepsAt w sv tr) (hc : IntsAt w cv c) :
    Calls Try.prog 5 #[.agg #[.int .i64 n, lv, sv, .int .i64 cf, cv]] w fun e w' => e = .returned (.bool true) ∧ Ex w w' := by
  have HLi : Hid (∀ wa, Ex w wa → Calls Try.prog 12 #[.agg #[.int .i64 n, lv, sv, .int .i64 cf, cv]] wa (CaseRet wa ll tr c)) := fun wa hx => caseLight_any n cf lv sv cv ll tr c wa (hR.ex hx) (hS.ex hx) (hc.ex hx)
  have HIm : Hid (c.length ≤ 140 → ∀ wa, Ex w wa → Calls Try.prog 22 #[.agg #[.int .i64 n, lv], cv] wa fun e w' => e = .returned (.bool (impB n ll c)) ∧ Ex wa w') := fun h wa hx => learnImplied_any n lv cv ll c wa (hR.ex hx) (hc.ex hx) (by omega)
  have HRm : Hid (c.length ≤ 140 → ∀ wa, Ex w wa → Calls Try.prog 23 #[.agg #[.int .i64 n, lv], cv] wa fun e w' => e = .returned (.bool (impB n ll c)) ∧ Ex wa w') := fun h wa hx => r13Implied_any n lv cv ll c wa (hR.ex hx) (hc.ex hx) (by omega)
  obtain ⟨ra, rcap, rfl, _, _, r3⟩ := hR
  obtain ⟨sa, scap, rfl, _, _, s3⟩ := hS
  obtain ⟨pa, pcap, rfl, _, _, p3⟩ := hc
  clear r3 s3 p3
  have o := OwnB.new w [.int .i64 n, .slice ra ll.length rcap, .slice sa tr.length scap, .int .i64 cf, .slice pa c.length pcap] 28
  have hxa := Ex.alloc w (.cells #[.int .i64 n, .slice ra ll.length rcap, .slice sa tr.length scap, .int .i64 cf, .slice pa c.length pcap] 28)
  generalize impB n ll c = IB at *
  go_enter Try.func5, Try.ntmps5
  go_wp2_with fail
  refine (HLi.out _ hxa).mono ?_
  rintro e w2 ⟨b, rfl, hb, hx2⟩
  replace o := o.ex hx2
  replace hxa := hxa.trans hx2
  clear hx2 HLi
  cases b with
  | false =>
    clear hb
    go_wp2_with (refine (works13_any _).mono ?_; rintro e w' ⟨rfl, hx⟩)
    go_ret
    exact ⟨rfl, hxa.trans hx⟩
  | true =>
    have HI2 : Hid _ := HIm.out (hb rfl).2.2
    have HR2 : Hid _ := HRm.out (hb rfl).2.2
    have c0 := ext_cell (o.cell 0)
    have c1 := ext_cell (o.cell 1)
    have c4 := ext_cell (o.cell 4)
    have z0 := o.lt
    have hbb : (IB == IB) = true := by simp
    clear hb HIm HRm
    go_wp2
    refine wp_region_quiet_ext (by kernel_rfl) (by kernel_rfl) ?_
    repeat (go_big_quiet_step ((first | (go_at_call 22; exact Calls.quiet_ext (HI2.out _ (hxa.trans (ex_ext _ _)))) | (go_at_call 23; exact Calls.quiet_ext (HR2.out _ (hxa.trans (ex_ext _ _)))) | (go_at_call 13; exact Calls.quiet_ext (works13_any _)) | fail)))
    refine wpQuiet_nil ?_
    intro w3 hx3
    go_wp2
    go_ret
    exact ⟨rfl, hxa.trans hx3⟩
end Go.Proofs.Yteagoaiiacideaa
