/-
  No cell of these rows narrows 'for every input' (looked for: loops, veiled, ifaces, maps, wideKeys, modest, calm, conditions, laid).
  DERIVED. THE GIVEN ROWS OF THIS SEAT. 9 by the template 'for every input the law returns true; each argument reads behind the call as it read before'; 0 by the template 'total and deterministic' (their statements: YteagoaiiacideaaTotals.lean).
  GIVEN WITH THE SEED: the statements are not yours to turn. If you find one false, say at which input.
  Laid BY PROGRAM, IN A SANDBOX (cutbox-rows.mjs): the forced cells as the released guide's own fill.sh prints them over the translation 0ade7c3f6cbf80c4… (all of the seat's roots in one cut). By AI agents, Wed Nov 11 2026. No macro, syntax, notation, axiom, sorry.
-/
import Derived.Test.YteagoaiiacideaaChecked
import GoSem.Claim
import GoSem.ClaimJoined
import GoSem.ClaimMapViews
import Derived.JoinedTies
import Derived.KernelRfl
namespace Go.Proofs.Yteagoaiiacideaa
/- THE CELL 'sum', in the pinned program and in every row, IS THE sha256 OF THE DUMP (.gsa) THAT YteagoaiiacideaaProg.lean LOADS. Nothing in Lean hashes anything: it is a label: what it is worth is what the hold of that sum in a sandbox is worth. -/
noncomputable def Try.pinned : Pinned := { name := "yteagoaiiacideaa", sum := "0ade7c3f6cbf80c4e918c4da1cfbb59cb3bf254bd33e5f9c1c3efb793c0be574", checked := Try.checked }
namespace Rows
def none {H : Type} : Left H := { results := [], args := [] }

/-- 'censuslaw13.LearnFirsts': WHATEVER THE INPUT: true; the input reads as it did. -/
def learnFirstsSpec : ChangeSpec := { name := "learnFirsts", fn := fun _ => fun
  | [d] => { results := [.lit (.bool true)], args := [d] }
  | _ => none }
def learnFirstsRow : OpenClaim := { program := "yteagoaiiacideaa", sum := "0ade7c3f6cbf80c4e918c4da1cfbb59cb3bf254bd33e5f9c1c3efb793c0be574", func := "census/censuslaw13.LearnFirsts", spec := "learnFirsts", unfollowed := true, recurses := true, apart := false }
def LearnFirstsSaid : Prop := learnFirstsRow.holds Try.pinned (OpenSpec.ofChange learnFirstsSpec)

/-- ITS FALSE NEIGHBOUR: 'it returns false'. Refute it at one input. -/
def learnFirstsWrong : ChangeSpec := { name := "learnFirsts", fn := fun _ => fun
  | [d] => { results := [.lit (.bool false)], args := [d] }
  | _ => none }
def LearnFirstsWrongFalsely : Prop := learnFirstsRow.holds Try.pinned (OpenSpec.ofChange learnFirstsWrong)

/-- 'censuslaw13.LearnRedundants': WHATEVER THE INPUT: true; the input reads as it did. -/
def learnRedundantsSpec : ChangeSpec := { name := "learnRedundants", fn := fun _ => fun
  | [d] => { results := [.lit (.bool true)], args := [d] }
  | _ => none }
def learnRedundantsRow : OpenClaim := { program := "yteagoaiiacideaa", sum := "0ade7c3f6cbf80c4e918c4da1cfbb59cb3bf254bd33e5f9c1c3efb793c0be574", func := "census/censuslaw13.LearnRedundants", spec := "learnRedundants", unfollowed := true, recurses := true, apart := false }
def LearnRedundantsSaid : Prop := learnRedundantsRow.holds Try.pinned (OpenSpec.ofChange learnRedundantsSpec)

/-- ITS FALSE NEIGHBOUR: 'it returns false'. Refute it at one input. -/
def learnRedundantsWrong : ChangeSpec := { name := "learnRedundants", fn := fun _ => fun
  | [d] => { results := [.lit (.bool false)], args := [d] }
  | _ => none }
def LearnRedundantsWrongFalsely : Prop := learnRedundantsRow.holds Try.pinned (OpenSpec.ofChange learnRedundantsWrong)

/-- 'censuslaw13.LearnImplies': WHATEVER THE INPUT: true; the input reads as it did. -/
def learnImpliesSpec : ChangeSpec := { name := "learnImplies", fn := fun _ => fun
  | [d] => { results := [.lit (.bool true)], args := [d] }
  | _ => none }
def learnImpliesRow : OpenClaim := { program := "yteagoaiiacideaa", sum := "0ade7c3f6cbf80c4e918c4da1cfbb59cb3bf254bd33e5f9c1c3efb793c0be574", func := "census/censuslaw13.LearnImplies", spec := "learnImplies", unfollowed := true, recurses := true, apart := false }
def LearnImpliesSaid : Prop := learnImpliesRow.holds Try.pinned (OpenSpec.ofChange learnImpliesSpec)

/-- ITS FALSE NEIGHBOUR: 'it returns false'. Refute it at one input. -/
def learnImpliesWrong : ChangeSpec := { name := "learnImplies", fn := fun _ => fun
  | [d] => { results := [.lit (.bool false)], args := [d] }
  | _ => none }
def LearnImpliesWrongFalsely : Prop := learnImpliesRow.holds Try.pinned (OpenSpec.ofChange learnImpliesWrong)

/-- 'censuslaw13.LearnUnit': WHATEVER THE INPUT: true; the input reads as it did. -/
def learnUnitSpec : ChangeSpec := { name := "learnUnit", fn := fun _ => fun
  | [d] => { results := [.lit (.bool true)], args := [d] }
  | _ => none }
def learnUnitRow : OpenClaim := { program := "yteagoaiiacideaa", sum := "0ade7c3f6cbf80c4e918c4da1cfbb59cb3bf254bd33e5f9c1c3efb793c0be574", func := "census/censuslaw13.LearnUnit", spec := "learnUnit", unfollowed := true, recurses := true, apart := false }
def LearnUnitSaid : Prop := learnUnitRow.holds Try.pinned (OpenSpec.ofChange learnUnitSpec)

/-- ITS FALSE NEIGHBOUR: 'it returns false'. Refute it at one input. -/
def learnUnitWrong : ChangeSpec := { name := "learnUnit", fn := fun _ => fun
  | [d] => { results := [.lit (.bool false)], args := [d] }
  | _ => none }
def LearnUnitWrongFalsely : Prop := learnUnitRow.holds Try.pinned (OpenSpec.ofChange learnUnitWrong)

/-- 'censuslaw13.LearnKnown': WHATEVER THE INPUT: true; the input reads as it did. -/
def learnKnownSpec : ChangeSpec := { name := "learnKnown", fn := fun _ => fun
  | [] => { results := [.lit (.bool true)], args := [] }
  | _ => none }
def learnKnownRow : OpenClaim := { program := "yteagoaiiacideaa", sum := "0ade7c3f6cbf80c4e918c4da1cfbb59cb3bf254bd33e5f9c1c3efb793c0be574", func := "census/censuslaw13.LearnKnown", spec := "learnKnown", unfollowed := true, recurses := true, apart := false }
def LearnKnownSaid : Prop := learnKnownRow.holds Try.pinned (OpenSpec.ofChange learnKnownSpec)

/-- ITS FALSE NEIGHBOUR: 'it returns false'. Refute it at one input. -/
def learnKnownWrong : ChangeSpec := { name := "learnKnown", fn := fun _ => fun
  | [] => { results := [.lit (.bool false)], args := [] }
  | _ => none }
def LearnKnownWrongFalsely : Prop := learnKnownRow.holds Try.pinned (OpenSpec.ofChange learnKnownWrong)

/-- 'censuslaw13.LearnTrue': WHATEVER THE INPUT: true; the input reads as it did. -/
def learnTrueSpec : ChangeSpec := { name := "learnTrue", fn := fun _ => fun
  | [d] => { results := [.lit (.bool true)], args := [d] }
  | _ => none }
def learnTrueRow : OpenClaim := { program := "yteagoaiiacideaa", sum := "0ade7c3f6cbf80c4e918c4da1cfbb59cb3bf254bd33e5f9c1c3efb793c0be574", func := "census/censuslaw13.LearnTrue", spec := "learnTrue", unfollowed := true, recurses := true, apart := false }
def LearnTrueSaid : Prop := learnTrueRow.holds Try.pinned (OpenSpec.ofChange learnTrueSpec)

/-- ITS FALSE NEIGHBOUR: 'it returns false'. Refute it at one input. -/
def learnTrueWrong : ChangeSpec := { name := "learnTrue", fn := fun _ => fun
  | [d] => { results := [.lit (.bool false)], args := [d] }
  | _ => none }
def LearnTrueWrongFalsely : Prop := learnTrueRow.holds Try.pinned (OpenSpec.ofChange learnTrueWrong)

/-- 'censuslaw13.LearnKeeps': WHATEVER THE INPUT: true; the input reads as it did. -/
def learnKeepsSpec : ChangeSpec := { name := "learnKeeps", fn := fun _ => fun
  | [d1, d2] => { results := [.lit (.bool true)], args := [d1, d2] }
  | _ => none }
def learnKeepsRow : OpenClaim := { program := "yteagoaiiacideaa", sum := "0ade7c3f6cbf80c4e918c4da1cfbb59cb3bf254bd33e5f9c1c3efb793c0be574", func := "census/censuslaw13.LearnKeeps", spec := "learnKeeps", unfollowed := true, recurses := true, apart := false }
def LearnKeepsSaid : Prop := learnKeepsRow.holds Try.pinned (OpenSpec.ofChange learnKeepsSpec)

/-- ITS FALSE NEIGHBOUR: 'it returns false'. Refute it at one input. -/
def learnKeepsWrong : ChangeSpec := { name := "learnKeeps", fn := fun _ => fun
  | [d1, d2] => { results := [.lit (.bool false)], args := [d1, d2] }
  | _ => none }
def LearnKeepsWrongFalsely : Prop := learnKeepsRow.holds Try.pinned (OpenSpec.ofChange learnKeepsWrong)

/-- 'censuslaw13.LearnSound': WHATEVER THE INPUT: true; the input reads as it did. -/
def learnSoundSpec : ChangeSpec := { name := "learnSound", fn := fun _ => fun
  | [d1, d2] => { results := [.lit (.bool true)], args := [d1, d2] }
  | _ => none }
def learnSoundRow : OpenClaim := { program := "yteagoaiiacideaa", sum := "0ade7c3f6cbf80c4e918c4da1cfbb59cb3bf254bd33e5f9c1c3efb793c0be574", func := "census/censuslaw13.LearnSound", spec := "learnSound", unfollowed := true, recurses := true, apart := false }
def LearnSoundSaid : Prop := learnSoundRow.holds Try.pinned (OpenSpec.ofChange learnSoundSpec)

/-- ITS FALSE NEIGHBOUR: 'it returns false'. Refute it at one input. -/
def learnSoundWrong : ChangeSpec := { name := "learnSound", fn := fun _ => fun
  | [d1, d2] => { results := [.lit (.bool false)], args := [d1, d2] }
  | _ => none }
def LearnSoundWrongFalsely : Prop := learnSoundRow.holds Try.pinned (OpenSpec.ofChange learnSoundWrong)

/-- 'censuslaw13.LearnAgain': WHATEVER THE INPUT: true; the input reads as it did. -/
def learnAgainSpec : ChangeSpec := { name := "learnAgain", fn := fun _ => fun
  | [d] => { results := [.lit (.bool true)], args := [d] }
  | _ => none }
def learnAgainRow : OpenClaim := { program := "yteagoaiiacideaa", sum := "0ade7c3f6cbf80c4e918c4da1cfbb59cb3bf254bd33e5f9c1c3efb793c0be574", func := "census/censuslaw13.LearnAgain", spec := "learnAgain", unfollowed := true, recurses := true, apart := false }
def LearnAgainSaid : Prop := learnAgainRow.holds Try.pinned (OpenSpec.ofChange learnAgainSpec)

/-- ITS FALSE NEIGHBOUR: 'it returns false'. Refute it at one input. -/
def learnAgainWrong : ChangeSpec := { name := "learnAgain", fn := fun _ => fun
  | [d] => { results := [.lit (.bool false)], args := [d] }
  | _ => none }
def LearnAgainWrongFalsely : Prop := learnAgainRow.holds Try.pinned (OpenSpec.ofChange learnAgainWrong)

/- THE SECOND FORM. 'bulk': how many values and letters a reading holds, each counted each time it is reached (what is shared counts as often as it is met; a slice's spare places count too). A statement '..UptoSaid' is the law's where the arguments, and the package variables that the reading takes, are together of bulk at most 1048576: NARROWER than '..Said'. Prove '..Said' where nothing that the law and all that it calls make is longer than what came in: it says more and counts as full. Else prove '..UptoSaid'. A law counts once. -/
mutual
def uptoBulk {H : Type} : DataW H → Nat
  | .lit (.string bytes) => bytes.length + 1
  | .lit _ => 1
  | .nil => 1
  | .ptr d => uptoBulk d + 1
  | .slice elems spare => uptoBulkAll elems + uptoBulkAll spare + 1
  | .agg parts => uptoBulkAll parts + 1
  | .iface _ d => uptoBulk d + 1
  | .map entries => uptoBulkEntries entries + 1
  | .held _ => 1
def uptoBulkAll {H : Type} : List (DataW H) → Nat
  | [] => 0
  | d :: r => uptoBulk d + uptoBulkAll r
def uptoBulkEntries {H : Type} : List (Lit × DataW H) → Nat
  | [] => 0
  | x :: r => uptoBulkEntry x + uptoBulkEntries r
def uptoBulkEntry {H : Type} : Lit × DataW H → Nat
  | (.string bytes, d) => bytes.length + uptoBulk d + 1
  | (_, d) => uptoBulk d + 1
 end
def uptoSmall : (H : Type) → List (DataW H) → Bool := fun _ ds => decide (uptoBulkAll ds ≤ 1048576)
def OpenSpec.upto (s : _root_.Go.ChangeSpec) : _root_.Go.OpenSpec := { _root_.Go.OpenSpec.ofChange s with cond := some uptoSmall }

/-- 'censuslaw13.LearnFirsts', WHERE WHAT IT READS IS OF BULK AT MOST 1048576: true; the input reads as it did. -/
def learnFirstsUptoRow : OpenClaim := { program := "yteagoaiiacideaa", sum := "0ade7c3f6cbf80c4e918c4da1cfbb59cb3bf254bd33e5f9c1c3efb793c0be574", func := "census/censuslaw13.LearnFirsts", spec := "learnFirsts", unfollowed := true, recurses := true, apart := false, narrowed := true }
def LearnFirstsUptoSaid : Prop := learnFirstsUptoRow.holds Try.pinned (OpenSpec.upto learnFirstsSpec)

/-- 'censuslaw13.LearnRedundants', WHERE WHAT IT READS IS OF BULK AT MOST 1048576: true; the input reads as it did. -/
def learnRedundantsUptoRow : OpenClaim := { program := "yteagoaiiacideaa", sum := "0ade7c3f6cbf80c4e918c4da1cfbb59cb3bf254bd33e5f9c1c3efb793c0be574", func := "census/censuslaw13.LearnRedundants", spec := "learnRedundants", unfollowed := true, recurses := true, apart := false, narrowed := true }
def LearnRedundantsUptoSaid : Prop := learnRedundantsUptoRow.holds Try.pinned (OpenSpec.upto learnRedundantsSpec)

/-- 'censuslaw13.LearnImplies', WHERE WHAT IT READS IS OF BULK AT MOST 1048576: true; the input reads as it did. -/
def learnImpliesUptoRow : OpenClaim := { program := "yteagoaiiacideaa", sum := "0ade7c3f6cbf80c4e918c4da1cfbb59cb3bf254bd33e5f9c1c3efb793c0be574", func := "census/censuslaw13.LearnImplies", spec := "learnImplies", unfollowed := true, recurses := true, apart := false, narrowed := true }
def LearnImpliesUptoSaid : Prop := learnImpliesUptoRow.holds Try.pinned (OpenSpec.upto learnImpliesSpec)

/-- 'censuslaw13.LearnUnit', WHERE WHAT IT READS IS OF BULK AT MOST 1048576: true; the input reads as it did. -/
def learnUnitUptoRow : OpenClaim := { program := "yteagoaiiacideaa", sum := "0ade7c3f6cbf80c4e918c4da1cfbb59cb3bf254bd33e5f9c1c3efb793c0be574", func := "census/censuslaw13.LearnUnit", spec := "learnUnit", unfollowed := true, recurses := true, apart := false, narrowed := true }
def LearnUnitUptoSaid : Prop := learnUnitUptoRow.holds Try.pinned (OpenSpec.upto learnUnitSpec)

/-- 'censuslaw13.LearnKnown', WHERE WHAT IT READS IS OF BULK AT MOST 1048576: true; the input reads as it did. -/
def learnKnownUptoRow : OpenClaim := { program := "yteagoaiiacideaa", sum := "0ade7c3f6cbf80c4e918c4da1cfbb59cb3bf254bd33e5f9c1c3efb793c0be574", func := "census/censuslaw13.LearnKnown", spec := "learnKnown", unfollowed := true, recurses := true, apart := false, narrowed := true }
def LearnKnownUptoSaid : Prop := learnKnownUptoRow.holds Try.pinned (OpenSpec.upto learnKnownSpec)

/-- 'censuslaw13.LearnTrue', WHERE WHAT IT READS IS OF BULK AT MOST 1048576: true; the input reads as it did. -/
def learnTrueUptoRow : OpenClaim := { program := "yteagoaiiacideaa", sum := "0ade7c3f6cbf80c4e918c4da1cfbb59cb3bf254bd33e5f9c1c3efb793c0be574", func := "census/censuslaw13.LearnTrue", spec := "learnTrue", unfollowed := true, recurses := true, apart := false, narrowed := true }
def LearnTrueUptoSaid : Prop := learnTrueUptoRow.holds Try.pinned (OpenSpec.upto learnTrueSpec)

/-- 'censuslaw13.LearnKeeps', WHERE WHAT IT READS IS OF BULK AT MOST 1048576: true; the input reads as it did. -/
def learnKeepsUptoRow : OpenClaim := { program := "yteagoaiiacideaa", sum := "0ade7c3f6cbf80c4e918c4da1cfbb59cb3bf254bd33e5f9c1c3efb793c0be574", func := "census/censuslaw13.LearnKeeps", spec := "learnKeeps", unfollowed := true, recurses := true, apart := false, narrowed := true }
def LearnKeepsUptoSaid : Prop := learnKeepsUptoRow.holds Try.pinned (OpenSpec.upto learnKeepsSpec)

/-- 'censuslaw13.LearnSound', WHERE WHAT IT READS IS OF BULK AT MOST 1048576: true; the input reads as it did. -/
def learnSoundUptoRow : OpenClaim := { program := "yteagoaiiacideaa", sum := "0ade7c3f6cbf80c4e918c4da1cfbb59cb3bf254bd33e5f9c1c3efb793c0be574", func := "census/censuslaw13.LearnSound", spec := "learnSound", unfollowed := true, recurses := true, apart := false, narrowed := true }
def LearnSoundUptoSaid : Prop := learnSoundUptoRow.holds Try.pinned (OpenSpec.upto learnSoundSpec)

/-- 'censuslaw13.LearnAgain', WHERE WHAT IT READS IS OF BULK AT MOST 1048576: true; the input reads as it did. -/
def learnAgainUptoRow : OpenClaim := { program := "yteagoaiiacideaa", sum := "0ade7c3f6cbf80c4e918c4da1cfbb59cb3bf254bd33e5f9c1c3efb793c0be574", func := "census/censuslaw13.LearnAgain", spec := "learnAgain", unfollowed := true, recurses := true, apart := false, narrowed := true }
def LearnAgainUptoSaid : Prop := learnAgainUptoRow.holds Try.pinned (OpenSpec.upto learnAgainSpec)

end Rows
end Go.Proofs.Yteagoaiiacideaa
