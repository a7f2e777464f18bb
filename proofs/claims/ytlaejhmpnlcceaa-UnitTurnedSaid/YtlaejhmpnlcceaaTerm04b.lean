/- The reference's Term and Clause: the same lists. -/
import Derived.Test.YtlaejhmpnlcceaaTerm04
import Derived.Test.YtlaejhmpnlcceaaOpp04
import Derived.Test.YtlaejhmpnlcceaaOppLaw
namespace Go.Proofs.Ytlaejhmpnlcceaa
set_option linter.unusedSimpArgs false
set_option linter.unusedVariables false
open Go.RowKit
end Go.Proofs.Ytlaejhmpnlcceaa
