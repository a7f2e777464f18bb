/-
  No cell of these rows narrows 'for every input' (looked for: loops, veiled, ifaces, maps, wideKeys, modest, calm, conditions, laid).
  DERIVED. THE GIVEN ROWS OF THIS SEAT. 7 by the template 'for every input the law returns true; each argument reads behind the call as it read before'; 0 by the template 'total and deterministic' (their statements: YtagohmpbbbkdjaaTotals.lean).
  GIVEN WITH THE SEED: the statements are not yours to turn. If you find one false, say at which input.
  Laid BY PROGRAM, IN A SANDBOX (cutbox-rows.mjs): the forced cells as the released guide's own fill.sh prints them over the translation c1868b58f53f3a1a… (all of the seat's roots in one cut). By AI agents, Wed Nov 11 2026. No macro, syntax, notation, axiom, sorry.
-/
import Derived.Test.YtagohmpbbbkdjaaChecked
import GoSem.Claim
import GoSem.ClaimJoined
import GoSem.ClaimMapViews
import Derived.JoinedTies
import Derived.KernelRfl
namespace Go.Proofs.Ytagohmpbbbkdjaa
/- THE CELL 'sum', in the pinned program and in every row, IS THE sha256 OF THE DUMP (.gsa) THAT YtagohmpbbbkdjaaProg.lean LOADS. Nothing in Lean hashes anything: it is a label: what it is worth is what the hold of that sum in a sandbox is worth. -/
noncomputable def Try.pinned : Pinned := { name := "ytagohmpbbbkdjaa", sum := "c1868b58f53f3a1a7f876d32ac594631dd29af1cf60641ea8ed9e32f66a6cc69", checked := Try.checked }
namespace Rows
def none {H : Type} : Left H := { results := [], args := [] }

/-- 'censuslaw14.SearchSolves': WHATEVER THE INPUT: true; the input reads as it did. -/
def searchSolvesSpec : ChangeSpec := { name := "searchSolves", fn := fun _ => fun
  | [d1, d2] => { results := [.lit (.bool true)], args := [d1, d2] }
  | _ => none }
def searchSolvesRow : OpenClaim := { program := "ytagohmpbbbkdjaa", sum := "c1868b58f53f3a1a7f876d32ac594631dd29af1cf60641ea8ed9e32f66a6cc69", func := "census/censuslaw14.SearchSolves", spec := "searchSolves", unfollowed := true, recurses := true, apart := false }
def SearchSolvesSaid : Prop := searchSolvesRow.holds Try.pinned (OpenSpec.ofChange searchSolvesSpec)

/-- ITS FALSE NEIGHBOUR: 'it returns false'. Refute it at one input. -/
def searchSolvesWrong : ChangeSpec := { name := "searchSolves", fn := fun _ => fun
  | [d1, d2] => { results := [.lit (.bool false)], args := [d1, d2] }
  | _ => none }
def SearchSolvesWrongFalsely : Prop := searchSolvesRow.holds Try.pinned (OpenSpec.ofChange searchSolvesWrong)

/-- 'censuslaw14.SearchCores': WHATEVER THE INPUT: true; the input reads as it did. -/
def searchCoresSpec : ChangeSpec := { name := "searchCores", fn := fun _ => fun
  | [d1, d2] => { results := [.lit (.bool true)], args := [d1, d2] }
  | _ => none }
def searchCoresRow : OpenClaim := { program := "ytagohmpbbbkdjaa", sum := "c1868b58f53f3a1a7f876d32ac594631dd29af1cf60641ea8ed9e32f66a6cc69", func := "census/censuslaw14.SearchCores", spec := "searchCores", unfollowed := true, recurses := true, apart := false }
def SearchCoresSaid : Prop := searchCoresRow.holds Try.pinned (OpenSpec.ofChange searchCoresSpec)

/-- ITS FALSE NEIGHBOUR: 'it returns false'. Refute it at one input. -/
def searchCoresWrong : ChangeSpec := { name := "searchCores", fn := fun _ => fun
  | [d1, d2] => { results := [.lit (.bool false)], args := [d1, d2] }
  | _ => none }
def SearchCoresWrongFalsely : Prop := searchCoresRow.holds Try.pinned (OpenSpec.ofChange searchCoresWrong)

/-- 'censuslaw14.SearchEntails': WHATEVER THE INPUT: true; the input reads as it did. -/
def searchEntailsSpec : ChangeSpec := { name := "searchEntails", fn := fun _ => fun
  | [d1, d2] => { results := [.lit (.bool true)], args := [d1, d2] }
  | _ => none }
def searchEntailsRow : OpenClaim := { program := "ytagohmpbbbkdjaa", sum := "c1868b58f53f3a1a7f876d32ac594631dd29af1cf60641ea8ed9e32f66a6cc69", func := "census/censuslaw14.SearchEntails", spec := "searchEntails", unfollowed := true, recurses := true, apart := false }
def SearchEntailsSaid : Prop := searchEntailsRow.holds Try.pinned (OpenSpec.ofChange searchEntailsSpec)

/-- ITS FALSE NEIGHBOUR: 'it returns false'. Refute it at one input. -/
def searchEntailsWrong : ChangeSpec := { name := "searchEntails", fn := fun _ => fun
  | [d1, d2] => { results := [.lit (.bool false)], args := [d1, d2] }
  | _ => none }
def SearchEntailsWrongFalsely : Prop := searchEntailsRow.holds Try.pinned (OpenSpec.ofChange searchEntailsWrong)

/-- 'censuslaw14.SearchMinimal': WHATEVER THE INPUT: true; the input reads as it did. -/
def searchMinimalSpec : ChangeSpec := { name := "searchMinimal", fn := fun _ => fun
  | [d1, d2] => { results := [.lit (.bool true)], args := [d1, d2] }
  | _ => none }
def searchMinimalRow : OpenClaim := { program := "ytagohmpbbbkdjaa", sum := "c1868b58f53f3a1a7f876d32ac594631dd29af1cf60641ea8ed9e32f66a6cc69", func := "census/censuslaw14.SearchMinimal", spec := "searchMinimal", unfollowed := true, recurses := true, apart := false }
def SearchMinimalSaid : Prop := searchMinimalRow.holds Try.pinned (OpenSpec.ofChange searchMinimalSpec)

/-- ITS FALSE NEIGHBOUR: 'it returns false'. Refute it at one input. -/
def searchMinimalWrong : ChangeSpec := { name := "searchMinimal", fn := fun _ => fun
  | [d1, d2] => { results := [.lit (.bool false)], args := [d1, d2] }
  | _ => none }
def SearchMinimalWrongFalsely : Prop := searchMinimalRow.holds Try.pinned (OpenSpec.ofChange searchMinimalWrong)

/-- 'censuslaw14.SearchRefutes': WHATEVER THE INPUT: true; the input reads as it did. -/
def searchRefutesSpec : ChangeSpec := { name := "searchRefutes", fn := fun _ => fun
  | [d1, d2] => { results := [.lit (.bool true)], args := [d1, d2] }
  | _ => none }
def searchRefutesRow : OpenClaim := { program := "ytagohmpbbbkdjaa", sum := "c1868b58f53f3a1a7f876d32ac594631dd29af1cf60641ea8ed9e32f66a6cc69", func := "census/censuslaw14.SearchRefutes", spec := "searchRefutes", unfollowed := true, recurses := true, apart := false }
def SearchRefutesSaid : Prop := searchRefutesRow.holds Try.pinned (OpenSpec.ofChange searchRefutesSpec)

/-- ITS FALSE NEIGHBOUR: 'it returns false'. Refute it at one input. -/
def searchRefutesWrong : ChangeSpec := { name := "searchRefutes", fn := fun _ => fun
  | [d1, d2] => { results := [.lit (.bool false)], args := [d1, d2] }
  | _ => none }
def SearchRefutesWrongFalsely : Prop := searchRefutesRow.holds Try.pinned (OpenSpec.ofChange searchRefutesWrong)

/-- 'censuslaw14.SearchOwn': WHATEVER THE INPUT: true; the input reads as it did. -/
def searchOwnSpec : ChangeSpec := { name := "searchOwn", fn := fun _ => fun
  | [d1, d2] => { results := [.lit (.bool true)], args := [d1, d2] }
  | _ => none }
def searchOwnRow : OpenClaim := { program := "ytagohmpbbbkdjaa", sum := "c1868b58f53f3a1a7f876d32ac594631dd29af1cf60641ea8ed9e32f66a6cc69", func := "census/censuslaw14.SearchOwn", spec := "searchOwn", unfollowed := true, recurses := true, apart := false }
def SearchOwnSaid : Prop := searchOwnRow.holds Try.pinned (OpenSpec.ofChange searchOwnSpec)

/-- ITS FALSE NEIGHBOUR: 'it returns false'. Refute it at one input. -/
def searchOwnWrong : ChangeSpec := { name := "searchOwn", fn := fun _ => fun
  | [d1, d2] => { results := [.lit (.bool false)], args := [d1, d2] }
  | _ => none }
def SearchOwnWrongFalsely : Prop := searchOwnRow.holds Try.pinned (OpenSpec.ofChange searchOwnWrong)

/-- 'censuslaw14.SearchKnown': WHATEVER THE INPUT: true; the input reads as it did. -/
def searchKnownSpec : ChangeSpec := { name := "searchKnown", fn := fun _ => fun
  | [] => { results := [.lit (.bool true)], args := [] }
  | _ => none }
def searchKnownRow : OpenClaim := { program := "ytagohmpbbbkdjaa", sum := "c1868b58f53f3a1a7f876d32ac594631dd29af1cf60641ea8ed9e32f66a6cc69", func := "census/censuslaw14.SearchKnown", spec := "searchKnown", unfollowed := true, recurses := true, apart := false }
def SearchKnownSaid : Prop := searchKnownRow.holds Try.pinned (OpenSpec.ofChange searchKnownSpec)

/-- ITS FALSE NEIGHBOUR: 'it returns false'. Refute it at one input. -/
def searchKnownWrong : ChangeSpec := { name := "searchKnown", fn := fun _ => fun
  | [] => { results := [.lit (.bool false)], args := [] }
  | _ => none }
def SearchKnownWrongFalsely : Prop := searchKnownRow.holds Try.pinned (OpenSpec.ofChange searchKnownWrong)

/- THE SECOND FORM. 'bulk': how many values and letters a reading holds, each counted each time it is reached (what is shared counts as often as it is met; a slice's spare places count too). A statement '..UptoSaid' is the law's where the arguments, and the package variables that the reading takes, are together of bulk at most 1048576: NARROWER than '..Said'. Prove '..Said' where nothing that the law and all that it calls make is longer than what came in: it says more and counts as full. Else prove '..UptoSaid'. A law counts once. -/
mutual
def uptoBulk {H : Type} : DataW H → Nat
  | .lit (.string bytes) => bytes.length + 1
  | .lit _ => 1
  | .nil => 1
  | .ptr d => uptoBulk d + 1
  | .slice elems spare => uptoBulkAll elems + uptoBulkAll spare + 1
  | .agg parts => uptoBulkAll parts + 1
  | .iface _ d => uptoBulk d + 1
  | .map entries => uptoBulkEntries entries + 1
  | .held _ => 1
def uptoBulkAll {H : Type} : List (DataW H) → Nat
  | [] => 0
  | d :: r => uptoBulk d + uptoBulkAll r
def uptoBulkEntries {H : Type} : List (Lit × DataW H) → Nat
  | [] => 0
  | x :: r => uptoBulkEntry x + uptoBulkEntries r
def uptoBulkEntry {H : Type} : Lit × DataW H → Nat
  | (.string bytes, d) => bytes.length + uptoBulk d + 1
  | (_, d) => uptoBulk d + 1
 end
def uptoSmall : (H : Type) → List (DataW H) → Bool := fun _ ds => decide (uptoBulkAll ds ≤ 1048576)
def OpenSpec.upto (s : _root_.Go.ChangeSpec) : _root_.Go.OpenSpec := { _root_.Go.OpenSpec.ofChange s with cond := some uptoSmall }

/-- 'censuslaw14.SearchSolves', WHERE WHAT IT READS IS OF BULK AT MOST 1048576: true; the input reads as it did. -/
def searchSolvesUptoRow : OpenClaim := { program := "ytagohmpbbbkdjaa", sum := "c1868b58f53f3a1a7f876d32ac594631dd29af1cf60641ea8ed9e32f66a6cc69", func := "census/censuslaw14.SearchSolves", spec := "searchSolves", unfollowed := true, recurses := true, apart := false, narrowed := true }
def SearchSolvesUptoSaid : Prop := searchSolvesUptoRow.holds Try.pinned (OpenSpec.upto searchSolvesSpec)

/-- 'censuslaw14.SearchCores', WHERE WHAT IT READS IS OF BULK AT MOST 1048576: true; the input reads as it did. -/
def searchCoresUptoRow : OpenClaim := { program := "ytagohmpbbbkdjaa", sum := "c1868b58f53f3a1a7f876d32ac594631dd29af1cf60641ea8ed9e32f66a6cc69", func := "census/censuslaw14.SearchCores", spec := "searchCores", unfollowed := true, recurses := true, apart := false, narrowed := true }
def SearchCoresUptoSaid : Prop := searchCoresUptoRow.holds Try.pinned (OpenSpec.upto searchCoresSpec)

/-- 'censuslaw14.SearchEntails', WHERE WHAT IT READS IS OF BULK AT MOST 1048576: true; the input reads as it did. -/
def searchEntailsUptoRow : OpenClaim := { program := "ytagohmpbbbkdjaa", sum := "c1868b58f53f3a1a7f876d32ac594631dd29af1cf60641ea8ed9e32f66a6cc69", func := "census/censuslaw14.SearchEntails", spec := "searchEntails", unfollowed := true, recurses := true, apart := false, narrowed := true }
def SearchEntailsUptoSaid : Prop := searchEntailsUptoRow.holds Try.pinned (OpenSpec.upto searchEntailsSpec)

/-- 'censuslaw14.SearchMinimal', WHERE WHAT IT READS IS OF BULK AT MOST 1048576: true; the input reads as it did. -/
def searchMinimalUptoRow : OpenClaim := { program := "ytagohmpbbbkdjaa", sum := "c1868b58f53f3a1a7f876d32ac594631dd29af1cf60641ea8ed9e32f66a6cc69", func := "census/censuslaw14.SearchMinimal", spec := "searchMinimal", unfollowed := true, recurses := true, apart := false, narrowed := true }
def SearchMinimalUptoSaid : Prop := searchMinimalUptoRow.holds Try.pinned (OpenSpec.upto searchMinimalSpec)

/-- 'censuslaw14.SearchRefutes', WHERE WHAT IT READS IS OF BULK AT MOST 1048576: true; the input reads as it did. -/
def searchRefutesUptoRow : OpenClaim := { program := "ytagohmpbbbkdjaa", sum := "c1868b58f53f3a1a7f876d32ac594631dd29af1cf60641ea8ed9e32f66a6cc69", func := "census/censuslaw14.SearchRefutes", spec := "searchRefutes", unfollowed := true, recurses := true, apart := false, narrowed := true }
def SearchRefutesUptoSaid : Prop := searchRefutesUptoRow.holds Try.pinned (OpenSpec.upto searchRefutesSpec)

/-- 'censuslaw14.SearchOwn', WHERE WHAT IT READS IS OF BULK AT MOST 1048576: true; the input reads as it did. -/
def searchOwnUptoRow : OpenClaim := { program := "ytagohmpbbbkdjaa", sum := "c1868b58f53f3a1a7f876d32ac594631dd29af1cf60641ea8ed9e32f66a6cc69", func := "census/censuslaw14.SearchOwn", spec := "searchOwn", unfollowed := true, recurses := true, apart := false, narrowed := true }
def SearchOwnUptoSaid : Prop := searchOwnUptoRow.holds Try.pinned (OpenSpec.upto searchOwnSpec)

/-- 'censuslaw14.SearchKnown', WHERE WHAT IT READS IS OF BULK AT MOST 1048576: true; the input reads as it did. -/
def searchKnownUptoRow : OpenClaim := { program := "ytagohmpbbbkdjaa", sum := "c1868b58f53f3a1a7f876d32ac594631dd29af1cf60641ea8ed9e32f66a6cc69", func := "census/censuslaw14.SearchKnown", spec := "searchKnown", unfollowed := true, recurses := true, apart := false, narrowed := true }
def SearchKnownUptoSaid : Prop := searchKnownUptoRow.holds Try.pinned (OpenSpec.upto searchKnownSpec)

end Rows
end Go.Proofs.Ytagohmpbbbkdjaa
