/- slices.Contains at []int: whether a number is in a list; the world stays. -/
import Derived.Test.YtlaejhmpnlcceaaBase
namespace Go.Proofs.Ytlaejhmpnlcceaa
set_option linter.unusedSimpArgs false
set_option linter.unusedVariables false
open Go.RowKit
/-- What Index hands back: not below 0 exactly if the number is there. -/
def IdxAt (w : World) (b : Bool) (e : Ending) (w' : World) : Prop := ∃ r : Int, e = .returned (.int .i64 r) ∧ decide (0 ≤ r) = b ∧ w = w'
end Go.Proofs.Ytlaejhmpnlcceaa
