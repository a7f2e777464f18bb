/- The models of a theory in the references, in order; the least one under assumptions. -/
import Derived.Test.YtagohmpbbbkdjaaDoorEval
import Derived.Test.YtagohmpbbbkdjaaDoorOwn
import Derived.Test.YtagohmpbbbkdjaaDoorVars
namespace Go.Proofs.YtagohmpbbbkdjaaDoor
set_option linter.unusedSimpArgs false
set_option linter.unusedVariables false
open Go.RowKit
set_option maxRecDepth 20000

theorem wrap_add {x p : Nat} (h : x + p < 2 ^ 64) : IntKind.u64.wrap ((x : Int) + (p : Int)) = ((x + p : Nat) : Int) := by
  rw [IntKind.wrap_u64]; omega
end Go.Proofs.YtagohmpbbbkdjaaDoor
