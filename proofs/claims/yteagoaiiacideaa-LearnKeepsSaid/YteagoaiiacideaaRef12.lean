/- The reference of unit propagation: True, Open, False, Unit, first: what each call returns; the world stays, or old memory does. -/
import Derived.Test.YteagoaiiacideaaStp
import Derived.Test.YteagoaiiacideaaG2
namespace Go.Proofs.Yteagoaiiacideaa
set_option linter.unusedSimpArgs false
set_option linter.unusedVariables false
open Go.RowKit
theorem openT_neg {tr : List St} {x : Int} (h : trueT tr (-x) = false) : openT tr x = !trueT tr x := by unfold openT; rw [h]; simp
end Go.Proofs.Yteagoaiiacideaa
