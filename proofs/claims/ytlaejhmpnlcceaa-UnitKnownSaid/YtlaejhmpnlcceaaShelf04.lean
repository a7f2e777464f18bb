/- The library's functions by the shelf's contracts, laid at this dump. -/
import Derived.Test.YtlaejhmpnlcceaaLit2
import Derived.Shelf.SlSortCmp.NoneTotal
import Derived.Shelf.SlicesG.In.CompactI
import Derived.Shelf.Lay
import Derived.Ground.SlsfProg
import Derived.Ground.SlgnProg
import Derived.Lib.RowBridge
import Derived.Lib.SortBridge
import Derived.Sort.EveryDepth
namespace Go.Proofs.Ytlaejhmpnlcceaa
set_option linter.unusedSimpArgs false
set_option linter.unusedVariables false
open Go.Shelf
shelf_lay_g SlLaysF.n6 Slsf 6 at Try 59 as Try.sortL
shelf_lay_g SlLaysN.n43 Slgn 43 at Try 62 as Try.compactL
end Go.Proofs.Ytlaejhmpnlcceaa
