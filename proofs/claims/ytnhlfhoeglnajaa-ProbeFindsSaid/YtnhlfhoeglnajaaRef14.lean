/- The reference of the chapter on search: each Go function returns what the plain definition says, and old memory stays. -/
import Derived.Test.YtnhlfhoeglnajaaModels
namespace Go.Proofs.Ytnhlfhoeglnajaa
set_option linter.unusedSimpArgs false
set_option linter.unusedVariables false
open Go.RowKit
set_option maxRecDepth 20000

end Go.Proofs.Ytnhlfhoeglnajaa
