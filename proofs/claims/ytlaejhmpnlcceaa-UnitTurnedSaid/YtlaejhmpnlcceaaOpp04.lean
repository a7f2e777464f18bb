/- The reference's Opposite: whether a list of literals has opposite ones; the world stays. -/
import Derived.Test.YtlaejhmpnlcceaaRef04
namespace Go.Proofs.Ytlaejhmpnlcceaa
set_option linter.unusedSimpArgs false
set_option linter.unusedVariables false
open Go.RowKit
end Go.Proofs.Ytlaejhmpnlcceaa
