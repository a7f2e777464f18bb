/-
  No cell of these rows narrows 'for every input' (looked for: loops, veiled, ifaces, maps, wideKeys, modest, calm, conditions, laid).
  DERIVED. THE GIVEN ROWS OF THIS SEAT. 7 by the template 'for every input the law returns true; each argument reads behind the call as it read before'; 0 by the template 'total and deterministic' (their statements: YtlaejhmpnlcceaaTotals.lean).
  GIVEN WITH THE SEED: the statements are not yours to turn. If you find one false, say at which input.
  Laid BY PROGRAM, IN A SANDBOX (cutbox-rows.mjs): the forced cells as the released guide's own fill.sh prints them over the translation 70b20394b070a5d4… (all of the seat's roots in one cut). By AI agents, Wed Nov 11 2026. No macro, syntax, notation, axiom, sorry.
-/
import Derived.Test.YtlaejhmpnlcceaaChecked
import GoSem.Claim
import GoSem.ClaimJoined
import GoSem.ClaimMapViews
import Derived.JoinedTies
import Derived.KernelRfl
namespace Go.Proofs.Ytlaejhmpnlcceaa
/- THE CELL 'sum', in the pinned program and in every row, IS THE sha256 OF THE DUMP (.gsa) THAT YtlaejhmpnlcceaaProg.lean LOADS. Nothing in Lean hashes anything: it is a label: what it is worth is what the hold of that sum in a sandbox is worth. -/
noncomputable def Try.pinned : Pinned := { name := "ytlaejhmpnlcceaa", sum := "70b20394b070a5d48798667c9716b161910ddab5ae78767943023da241d284a9", checked := Try.checked }
namespace Rows
def none {H : Type} : Left H := { results := [], args := [] }

/-- 'censuslaw12.UnitTrails': WHATEVER THE INPUT: true; the input reads as it did. -/
def unitTrailsSpec : ChangeSpec := { name := "unitTrails", fn := fun _ => fun
  | [d1, d2] => { results := [.lit (.bool true)], args := [d1, d2] }
  | _ => none }
def unitTrailsRow : OpenClaim := { program := "ytlaejhmpnlcceaa", sum := "70b20394b070a5d48798667c9716b161910ddab5ae78767943023da241d284a9", func := "census/censuslaw12.UnitTrails", spec := "unitTrails", unfollowed := true, recurses := true, apart := false }
def UnitTrailsSaid : Prop := unitTrailsRow.holds Try.pinned (OpenSpec.ofChange unitTrailsSpec)

/-- ITS FALSE NEIGHBOUR: 'it returns false'. Refute it at one input. -/
def unitTrailsWrong : ChangeSpec := { name := "unitTrails", fn := fun _ => fun
  | [d1, d2] => { results := [.lit (.bool false)], args := [d1, d2] }
  | _ => none }
def UnitTrailsWrongFalsely : Prop := unitTrailsRow.holds Try.pinned (OpenSpec.ofChange unitTrailsWrong)

/-- 'censuslaw12.UnitCloses': WHATEVER THE INPUT: true; the input reads as it did. -/
def unitClosesSpec : ChangeSpec := { name := "unitCloses", fn := fun _ => fun
  | [d1, d2] => { results := [.lit (.bool true)], args := [d1, d2] }
  | _ => none }
def unitClosesRow : OpenClaim := { program := "ytlaejhmpnlcceaa", sum := "70b20394b070a5d48798667c9716b161910ddab5ae78767943023da241d284a9", func := "census/censuslaw12.UnitCloses", spec := "unitCloses", unfollowed := true, recurses := true, apart := false }
def UnitClosesSaid : Prop := unitClosesRow.holds Try.pinned (OpenSpec.ofChange unitClosesSpec)

/-- ITS FALSE NEIGHBOUR: 'it returns false'. Refute it at one input. -/
def unitClosesWrong : ChangeSpec := { name := "unitCloses", fn := fun _ => fun
  | [d1, d2] => { results := [.lit (.bool false)], args := [d1, d2] }
  | _ => none }
def UnitClosesWrongFalsely : Prop := unitClosesRow.holds Try.pinned (OpenSpec.ofChange unitClosesWrong)

/-- 'censuslaw12.UnitReasons': WHATEVER THE INPUT: true; the input reads as it did. -/
def unitReasonsSpec : ChangeSpec := { name := "unitReasons", fn := fun _ => fun
  | [d1, d2] => { results := [.lit (.bool true)], args := [d1, d2] }
  | _ => none }
def unitReasonsRow : OpenClaim := { program := "ytlaejhmpnlcceaa", sum := "70b20394b070a5d48798667c9716b161910ddab5ae78767943023da241d284a9", func := "census/censuslaw12.UnitReasons", spec := "unitReasons", unfollowed := true, recurses := true, apart := false }
def UnitReasonsSaid : Prop := unitReasonsRow.holds Try.pinned (OpenSpec.ofChange unitReasonsSpec)

/-- ITS FALSE NEIGHBOUR: 'it returns false'. Refute it at one input. -/
def unitReasonsWrong : ChangeSpec := { name := "unitReasons", fn := fun _ => fun
  | [d1, d2] => { results := [.lit (.bool false)], args := [d1, d2] }
  | _ => none }
def UnitReasonsWrongFalsely : Prop := unitReasonsRow.holds Try.pinned (OpenSpec.ofChange unitReasonsWrong)

/-- 'censuslaw12.UnitFollows': WHATEVER THE INPUT: true; the input reads as it did. -/
def unitFollowsSpec : ChangeSpec := { name := "unitFollows", fn := fun _ => fun
  | [d1, d2, d3] => { results := [.lit (.bool true)], args := [d1, d2, d3] }
  | _ => none }
def unitFollowsRow : OpenClaim := { program := "ytlaejhmpnlcceaa", sum := "70b20394b070a5d48798667c9716b161910ddab5ae78767943023da241d284a9", func := "census/censuslaw12.UnitFollows", spec := "unitFollows", unfollowed := true, recurses := true, apart := false }
def UnitFollowsSaid : Prop := unitFollowsRow.holds Try.pinned (OpenSpec.ofChange unitFollowsSpec)

/-- ITS FALSE NEIGHBOUR: 'it returns false'. Refute it at one input. -/
def unitFollowsWrong : ChangeSpec := { name := "unitFollows", fn := fun _ => fun
  | [d1, d2, d3] => { results := [.lit (.bool false)], args := [d1, d2, d3] }
  | _ => none }
def UnitFollowsWrongFalsely : Prop := unitFollowsRow.holds Try.pinned (OpenSpec.ofChange unitFollowsWrong)

/-- 'censuslaw12.UnitEnds': WHATEVER THE INPUT: true; the input reads as it did. -/
def unitEndsSpec : ChangeSpec := { name := "unitEnds", fn := fun _ => fun
  | [d1, d2] => { results := [.lit (.bool true)], args := [d1, d2] }
  | _ => none }
def unitEndsRow : OpenClaim := { program := "ytlaejhmpnlcceaa", sum := "70b20394b070a5d48798667c9716b161910ddab5ae78767943023da241d284a9", func := "census/censuslaw12.UnitEnds", spec := "unitEnds", unfollowed := true, recurses := true, apart := false }
def UnitEndsSaid : Prop := unitEndsRow.holds Try.pinned (OpenSpec.ofChange unitEndsSpec)

/-- ITS FALSE NEIGHBOUR: 'it returns false'. Refute it at one input. -/
def unitEndsWrong : ChangeSpec := { name := "unitEnds", fn := fun _ => fun
  | [d1, d2] => { results := [.lit (.bool false)], args := [d1, d2] }
  | _ => none }
def UnitEndsWrongFalsely : Prop := unitEndsRow.holds Try.pinned (OpenSpec.ofChange unitEndsWrong)

/-- 'censuslaw12.UnitTurned': WHATEVER THE INPUT: true; the input reads as it did. -/
def unitTurnedSpec : ChangeSpec := { name := "unitTurned", fn := fun _ => fun
  | [d1, d2, d3] => { results := [.lit (.bool true)], args := [d1, d2, d3] }
  | _ => none }
def unitTurnedRow : OpenClaim := { program := "ytlaejhmpnlcceaa", sum := "70b20394b070a5d48798667c9716b161910ddab5ae78767943023da241d284a9", func := "census/censuslaw12.UnitTurned", spec := "unitTurned", unfollowed := true, recurses := true, apart := false }
def UnitTurnedSaid : Prop := unitTurnedRow.holds Try.pinned (OpenSpec.ofChange unitTurnedSpec)

/-- ITS FALSE NEIGHBOUR: 'it returns false'. Refute it at one input. -/
def unitTurnedWrong : ChangeSpec := { name := "unitTurned", fn := fun _ => fun
  | [d1, d2, d3] => { results := [.lit (.bool false)], args := [d1, d2, d3] }
  | _ => none }
def UnitTurnedWrongFalsely : Prop := unitTurnedRow.holds Try.pinned (OpenSpec.ofChange unitTurnedWrong)

/-- 'censuslaw12.UnitKnown': WHATEVER THE INPUT: true; the input reads as it did. -/
def unitKnownSpec : ChangeSpec := { name := "unitKnown", fn := fun _ => fun
  | [] => { results := [.lit (.bool true)], args := [] }
  | _ => none }
def unitKnownRow : OpenClaim := { program := "ytlaejhmpnlcceaa", sum := "70b20394b070a5d48798667c9716b161910ddab5ae78767943023da241d284a9", func := "census/censuslaw12.UnitKnown", spec := "unitKnown", unfollowed := true, recurses := true, apart := false }
def UnitKnownSaid : Prop := unitKnownRow.holds Try.pinned (OpenSpec.ofChange unitKnownSpec)

/-- ITS FALSE NEIGHBOUR: 'it returns false'. Refute it at one input. -/
def unitKnownWrong : ChangeSpec := { name := "unitKnown", fn := fun _ => fun
  | [] => { results := [.lit (.bool false)], args := [] }
  | _ => none }
def UnitKnownWrongFalsely : Prop := unitKnownRow.holds Try.pinned (OpenSpec.ofChange unitKnownWrong)

/- THE SECOND FORM. 'bulk': how many values and letters a reading holds, each counted each time it is reached (what is shared counts as often as it is met; a slice's spare places count too). A statement '..UptoSaid' is the law's where the arguments, and the package variables that the reading takes, are together of bulk at most 1048576: NARROWER than '..Said'. Prove '..Said' where nothing that the law and all that it calls make is longer than what came in: it says more and counts as full. Else prove '..UptoSaid'. A law counts once. -/
mutual
def uptoBulk {H : Type} : DataW H → Nat
  | .lit (.string bytes) => bytes.length + 1
  | .lit _ => 1
  | .nil => 1
  | .ptr d => uptoBulk d + 1
  | .slice elems spare => uptoBulkAll elems + uptoBulkAll spare + 1
  | .agg parts => uptoBulkAll parts + 1
  | .iface _ d => uptoBulk d + 1
  | .map entries => uptoBulkEntries entries + 1
  | .held _ => 1
def uptoBulkAll {H : Type} : List (DataW H) → Nat
  | [] => 0
  | d :: r => uptoBulk d + uptoBulkAll r
def uptoBulkEntries {H : Type} : List (Lit × DataW H) → Nat
  | [] => 0
  | x :: r => uptoBulkEntry x + uptoBulkEntries r
def uptoBulkEntry {H : Type} : Lit × DataW H → Nat
  | (.string bytes, d) => bytes.length + uptoBulk d + 1
  | (_, d) => uptoBulk d + 1
 end
def uptoSmall : (H : Type) → List (DataW H) → Bool := fun _ ds => decide (uptoBulkAll ds ≤ 1048576)
def OpenSpec.upto (s : _root_.Go.ChangeSpec) : _root_.Go.OpenSpec := { _root_.Go.OpenSpec.ofChange s with cond := some uptoSmall }

/-- 'censuslaw12.UnitTrails', WHERE WHAT IT READS IS OF BULK AT MOST 1048576: true; the input reads as it did. -/
def unitTrailsUptoRow : OpenClaim := { program := "ytlaejhmpnlcceaa", sum := "70b20394b070a5d48798667c9716b161910ddab5ae78767943023da241d284a9", func := "census/censuslaw12.UnitTrails", spec := "unitTrails", unfollowed := true, recurses := true, apart := false, narrowed := true }
def UnitTrailsUptoSaid : Prop := unitTrailsUptoRow.holds Try.pinned (OpenSpec.upto unitTrailsSpec)

/-- 'censuslaw12.UnitCloses', WHERE WHAT IT READS IS OF BULK AT MOST 1048576: true; the input reads as it did. -/
def unitClosesUptoRow : OpenClaim := { program := "ytlaejhmpnlcceaa", sum := "70b20394b070a5d48798667c9716b161910ddab5ae78767943023da241d284a9", func := "census/censuslaw12.UnitCloses", spec := "unitCloses", unfollowed := true, recurses := true, apart := false, narrowed := true }
def UnitClosesUptoSaid : Prop := unitClosesUptoRow.holds Try.pinned (OpenSpec.upto unitClosesSpec)

/-- 'censuslaw12.UnitReasons', WHERE WHAT IT READS IS OF BULK AT MOST 1048576: true; the input reads as it did. -/
def unitReasonsUptoRow : OpenClaim := { program := "ytlaejhmpnlcceaa", sum := "70b20394b070a5d48798667c9716b161910ddab5ae78767943023da241d284a9", func := "census/censuslaw12.UnitReasons", spec := "unitReasons", unfollowed := true, recurses := true, apart := false, narrowed := true }
def UnitReasonsUptoSaid : Prop := unitReasonsUptoRow.holds Try.pinned (OpenSpec.upto unitReasonsSpec)

/-- 'censuslaw12.UnitFollows', WHERE WHAT IT READS IS OF BULK AT MOST 1048576: true; the input reads as it did. -/
def unitFollowsUptoRow : OpenClaim := { program := "ytlaejhmpnlcceaa", sum := "70b20394b070a5d48798667c9716b161910ddab5ae78767943023da241d284a9", func := "census/censuslaw12.UnitFollows", spec := "unitFollows", unfollowed := true, recurses := true, apart := false, narrowed := true }
def UnitFollowsUptoSaid : Prop := unitFollowsUptoRow.holds Try.pinned (OpenSpec.upto unitFollowsSpec)

/-- 'censuslaw12.UnitEnds', WHERE WHAT IT READS IS OF BULK AT MOST 1048576: true; the input reads as it did. -/
def unitEndsUptoRow : OpenClaim := { program := "ytlaejhmpnlcceaa", sum := "70b20394b070a5d48798667c9716b161910ddab5ae78767943023da241d284a9", func := "census/censuslaw12.UnitEnds", spec := "unitEnds", unfollowed := true, recurses := true, apart := false, narrowed := true }
def UnitEndsUptoSaid : Prop := unitEndsUptoRow.holds Try.pinned (OpenSpec.upto unitEndsSpec)

/-- 'censuslaw12.UnitTurned', WHERE WHAT IT READS IS OF BULK AT MOST 1048576: true; the input reads as it did. -/
def unitTurnedUptoRow : OpenClaim := { program := "ytlaejhmpnlcceaa", sum := "70b20394b070a5d48798667c9716b161910ddab5ae78767943023da241d284a9", func := "census/censuslaw12.UnitTurned", spec := "unitTurned", unfollowed := true, recurses := true, apart := false, narrowed := true }
def UnitTurnedUptoSaid : Prop := unitTurnedUptoRow.holds Try.pinned (OpenSpec.upto unitTurnedSpec)

/-- 'censuslaw12.UnitKnown', WHERE WHAT IT READS IS OF BULK AT MOST 1048576: true; the input reads as it did. -/
def unitKnownUptoRow : OpenClaim := { program := "ytlaejhmpnlcceaa", sum := "70b20394b070a5d48798667c9716b161910ddab5ae78767943023da241d284a9", func := "census/censuslaw12.UnitKnown", spec := "unitKnown", unfollowed := true, recurses := true, apart := false, narrowed := true }
def UnitKnownUptoSaid : Prop := unitKnownUptoRow.holds Try.pinned (OpenSpec.upto unitKnownSpec)

end Rows
end Go.Proofs.Ytlaejhmpnlcceaa
