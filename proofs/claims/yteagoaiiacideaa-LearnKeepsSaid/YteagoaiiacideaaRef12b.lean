/- The reference of unit propagation: propagate and Trail: what each call returns; old memory stays. -/
import Derived.Test.YteagoaiiacideaaRef12
import Derived.Test.YteagoaiiacideaaG5
import Derived.Test.YteagoaiiacideaaG1
import Derived.Test.YteagoaiiacideaaG2
namespace Go.Proofs.Yteagoaiiacideaa
set_option linter.unusedSimpArgs false
set_option linter.unusedVariables false
open Go.RowKit
theorem ownS_block {w : World} {e : TypeId} {base : Nat} {v : Value} {tr : List St} (h : OwnS w e base v tr) : ∀ k, v.ownBlock = some k → base ≤ k ∧ k < w.heap.size := fun k hk => World.ownsRow.lt h k hk
end Go.Proofs.Yteagoaiiacideaa
