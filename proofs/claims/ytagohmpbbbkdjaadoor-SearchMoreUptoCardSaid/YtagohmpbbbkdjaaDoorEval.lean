/- Assignments and the truth of a theory in the references: each Go function returns what the plain definition says, and old memory stays. -/
import Derived.Test.YtagohmpbbbkdjaaDoorSet
import Derived.Test.YtagohmpbbbkdjaaDoorSem
namespace Go.Proofs.YtagohmpbbbkdjaaDoor
set_option linter.unusedSimpArgs false
set_option linter.unusedVariables false
open Go.RowKit

theorem any_take_succ {p : Int → Bool} {l : List Int} {m : Nat} (h : m < l.length) : (l.take (m + 1)).any p = ((l.take m).any p || p (l.getD m 0)) := by
  rw [List.take_succ_eq_append_getElem h, List.any_append, getD_getElem h]; simp

end Go.Proofs.YtagohmpbbbkdjaaDoor
