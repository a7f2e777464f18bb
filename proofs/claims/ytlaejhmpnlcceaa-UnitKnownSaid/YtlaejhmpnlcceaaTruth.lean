/- Clauses and terms under a set: lit.Any, lit.All; old memory stays. No condition but that the words fit and the list can be read. -/
import Derived.Test.YtlaejhmpnlcceaaVars
import Derived.Test.YtlaejhmpnlcceaaFuncs
import Derived.Test.YtlaejhmpnlcceaaOwn
namespace Go.Proofs.Ytlaejhmpnlcceaa
set_option linter.unusedSimpArgs false
set_option linter.unusedVariables false
open Go.RowKit

end Go.Proofs.Ytlaejhmpnlcceaa
