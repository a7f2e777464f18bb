/- The table of TrailingZeros64: from the row's list to the walk's condition; a world that holds it. -/
import Derived.Test.YtagohmpbbbkdjaaDoorFirst
import Derived.Test.YtagohmpbbbkdjaaDoorOpen
import Derived.Test.YtagohmpbbbkdjaaDoorTie
import Derived.Test.YtagohmpbbbkdjaaDoorCards
import Derived.Deep.DeepHandedRow
import Derived.Lib.LaidTab
namespace Go.Proofs.YtagohmpbbbkdjaaDoor
set_option linter.unusedSimpArgs false
set_option linter.unusedVariables false
open Go.ChangeShapes Go.WideShapes Go.ChangeAt Go.RowKit
set_option maxRecDepth 20000
theorem gTab : Tryd.prog.globalNamed "math/bits.deBruijn64tab" = some 0 := by kernel_rfl
theorem gTabType : (Tryd.prog.globals[0]?).map (·.type) = some 75 := by kernel_rfl
theorem cellsTab : Tryd.prog.cellsOf 75 = 64 := by kernel_rfl
theorem cellsByte : Tryd.prog.cellsOf 5 = 1 := by kernel_rfl
/-- The list of the rows. -/
abbrev laidTab : List (String × DataW Unit) := [("math/bits.deBruijn64tab", Rows.laid_math_bits_deBruijn64tab)]
abbrev tabZ : List Int := Lib.deBruijn64tab.map fun (k : Nat) => (k : Int)
theorem laid_is : (Rows.laid_math_bits_deBruijn64tab : DataW Unit) = Lib.tabData .u8 tabZ := by rfl
theorem table {W : World} (h : laidMetH Tryd.prog laidTab W) : Lib.TabIs Tryd.prog W "math/bits.deBruijn64tab" .u8 tabZ :=
  Lib.tabIs_of_head (rest := []) gTab gTabType Tryd.underlying75 Tryd.underlying5 cellsByte cellsTab h
theorem tab_of_laid {W : World} (h : laidMetH Tryd.prog laidTab W) : Tab W := fun j hj => by
  have hg : Tryd.tzL_ren.g 1 = 0 := by kernel_rfl
  rw [hg]
  have := (table h).cell gTab j (by rw [List.length_map]; exact hj)
  rw [this, getD_getElem (by rw [List.length_map]; exact hj), getD_getElem hj, List.getElem_map]
/-- A world for the witness: the settled one, the table in its variable. -/
noncomputable def laidWorld (os : Os) : World :=
  { World.holding Tryd.prog os ⟨#[], #[], []⟩ with heap := (World.holding Tryd.prog os ⟨#[], #[], []⟩).heap.modify 0 fun
      | .cells _ t frozen => .cells (tabZ.map fun z => Value.int .u8 z).toArray t frozen
      | o => o }
end Go.Proofs.YtagohmpbbbkdjaaDoor
