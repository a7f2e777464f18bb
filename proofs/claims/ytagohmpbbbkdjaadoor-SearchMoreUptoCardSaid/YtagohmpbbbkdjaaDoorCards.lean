/-
  DERIVED. GIVEN WITH THE SEED: THE CARDS: each row of YtagohmpbbbkdjaaDoorRows.lean that lists a variable, with what it lists TIED to the program's text (the seventh form; the later family's looks); each row that meets fmt, with fmt's text TOLD by the authors' own Lean function (tested against real Go, not proved from fmt's source: count such statements apart). THE CARD IS WHAT COUNTS. Prove the row's statement (the work); the ties are given (YtagohmpbbbkdjaaDoorTie.lean); close each card by the builder's one call (the guide's Derived/Test/ToyasCard.lean, 'card_holds'). Laid BY PROGRAM, IN A SANDBOX (cutbox-door.mjs). By AI agents, Wed Nov 11 2026. No macro, syntax, notation, axiom, sorry.
-/
import Derived.Test.YtagohmpbbbkdjaaDoorRows
import GoSem.ClaimSeven
namespace Go.Proofs.YtagohmpbbbkdjaaDoor
namespace Rows

/-- THE TIED CARD OF 'censuslaw14.SearchMore'. -/
def searchMoreCard : Claim7 := { stood := { row := searchMoreRow, standIns := [], harness := (true, "dc0bf744a75bb682a15c6c6060405045c14f36238a810890f533f6cb7bde5262"), looks := false }, kinds := [], alts := [], laidByText := true, laidKinds := [.data], laidTests := true, laidLooks := .later }
def SearchMoreCardSaid : Prop := Claim7.holds Tryd.pinned (.plain (OpenSpec.ofChange searchMoreSpec)) searchMoreCard

/-- THE TIED CARD OF 'censuslaw14.SearchLeast'. -/
def searchLeastCard : Claim7 := { stood := { row := searchLeastRow, standIns := [], harness := (true, "dc0bf744a75bb682a15c6c6060405045c14f36238a810890f533f6cb7bde5262"), looks := false }, kinds := [], alts := [], laidByText := true, laidKinds := [.data], laidTests := true, laidLooks := .later }
def SearchLeastCardSaid : Prop := Claim7.holds Tryd.pinned (.plain (OpenSpec.ofChange searchLeastSpec)) searchLeastCard

/-- THE SECOND FORM's CARD OF 'censuslaw14.SearchMore'. -/
def searchMoreUptoCard : Claim7 := { stood := { row := searchMoreUptoRow, standIns := [], harness := (true, "dc0bf744a75bb682a15c6c6060405045c14f36238a810890f533f6cb7bde5262"), looks := false }, kinds := [], alts := [], laidByText := true, laidKinds := [.data], laidTests := true, laidLooks := .later }
def SearchMoreUptoCardSaid : Prop := Claim7.holds Tryd.pinned (.plain (OpenSpec.upto searchMoreSpec)) searchMoreUptoCard

/-- THE SECOND FORM's CARD OF 'censuslaw14.SearchLeast'. -/
def searchLeastUptoCard : Claim7 := { stood := { row := searchLeastUptoRow, standIns := [], harness := (true, "dc0bf744a75bb682a15c6c6060405045c14f36238a810890f533f6cb7bde5262"), looks := false }, kinds := [], alts := [], laidByText := true, laidKinds := [.data], laidTests := true, laidLooks := .later }
def SearchLeastUptoCardSaid : Prop := Claim7.holds Tryd.pinned (.plain (OpenSpec.upto searchLeastSpec)) searchLeastUptoCard
end Rows
end Go.Proofs.YtagohmpbbbkdjaaDoor
