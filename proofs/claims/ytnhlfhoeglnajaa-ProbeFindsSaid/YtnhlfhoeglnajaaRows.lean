/-
  No cell of these rows narrows 'for every input' (looked for: loops, veiled, ifaces, maps, wideKeys, modest, calm, conditions, laid).
  DERIVED. THE GIVEN ROWS OF THIS SEAT. 10 by the template 'for every input the law returns true; each argument reads behind the call as it read before'; 0 by the template 'total and deterministic' (their statements: YtnhlfhoeglnajaaTotals.lean).
  GIVEN WITH THE SEED: the statements are not yours to turn. If you find one false, say at which input.
  Laid BY PROGRAM, IN A SANDBOX (cutbox-rows.mjs): the forced cells as the released guide's own fill.sh prints them over the translation 568ad5cf90073f72… (all of the seat's roots in one cut). By AI agents, Wed Nov 11 2026. No macro, syntax, notation, axiom, sorry.
-/
import Derived.Test.YtnhlfhoeglnajaaChecked
import GoSem.Claim
import GoSem.ClaimJoined
import GoSem.ClaimMapViews
import Derived.JoinedTies
import Derived.KernelRfl
namespace Go.Proofs.Ytnhlfhoeglnajaa
/- THE CELL 'sum', in the pinned program and in every row, IS THE sha256 OF THE DUMP (.gsa) THAT YtnhlfhoeglnajaaProg.lean LOADS. Nothing in Lean hashes anything: it is a label: what it is worth is what the hold of that sum in a sandbox is worth. -/
noncomputable def Try.pinned : Pinned := { name := "ytnhlfhoeglnajaa", sum := "568ad5cf90073f72ff1394146dc6f6f5ed946126f16b4aec4a36179a8dba9910", checked := Try.checked }
namespace Rows
def none {H : Type} : Left H := { results := [], args := [] }

/-- 'censuslaw15.ProbeSound': WHATEVER THE INPUT: true; the input reads as it did. -/
def probeSoundSpec : ChangeSpec := { name := "probeSound", fn := fun _ => fun
  | [d1, d2, d3] => { results := [.lit (.bool true)], args := [d1, d2, d3] }
  | _ => none }
def probeSoundRow : OpenClaim := { program := "ytnhlfhoeglnajaa", sum := "568ad5cf90073f72ff1394146dc6f6f5ed946126f16b4aec4a36179a8dba9910", func := "census/censuslaw15.ProbeSound", spec := "probeSound", unfollowed := true, recurses := true, apart := false }
def ProbeSoundSaid : Prop := probeSoundRow.holds Try.pinned (OpenSpec.ofChange probeSoundSpec)

/-- ITS FALSE NEIGHBOUR: 'it returns false'. Refute it at one input. -/
def probeSoundWrong : ChangeSpec := { name := "probeSound", fn := fun _ => fun
  | [d1, d2, d3] => { results := [.lit (.bool false)], args := [d1, d2, d3] }
  | _ => none }
def ProbeSoundWrongFalsely : Prop := probeSoundRow.holds Try.pinned (OpenSpec.ofChange probeSoundWrong)

/-- 'censuslaw15.ProbeBones': WHATEVER THE INPUT: true; the input reads as it did. -/
def probeBonesSpec : ChangeSpec := { name := "probeBones", fn := fun _ => fun
  | [d1, d2] => { results := [.lit (.bool true)], args := [d1, d2] }
  | _ => none }
def probeBonesRow : OpenClaim := { program := "ytnhlfhoeglnajaa", sum := "568ad5cf90073f72ff1394146dc6f6f5ed946126f16b4aec4a36179a8dba9910", func := "census/censuslaw15.ProbeBones", spec := "probeBones", unfollowed := true, recurses := true, apart := false }
def ProbeBonesSaid : Prop := probeBonesRow.holds Try.pinned (OpenSpec.ofChange probeBonesSpec)

/-- ITS FALSE NEIGHBOUR: 'it returns false'. Refute it at one input. -/
def probeBonesWrong : ChangeSpec := { name := "probeBones", fn := fun _ => fun
  | [d1, d2] => { results := [.lit (.bool false)], args := [d1, d2] }
  | _ => none }
def ProbeBonesWrongFalsely : Prop := probeBonesRow.holds Try.pinned (OpenSpec.ofChange probeBonesWrong)

/-- 'censuslaw15.ProbeFinds': WHATEVER THE INPUT: true; the input reads as it did. -/
def probeFindsSpec : ChangeSpec := { name := "probeFinds", fn := fun _ => fun
  | [d1, d2] => { results := [.lit (.bool true)], args := [d1, d2] }
  | _ => none }
def probeFindsRow : OpenClaim := { program := "ytnhlfhoeglnajaa", sum := "568ad5cf90073f72ff1394146dc6f6f5ed946126f16b4aec4a36179a8dba9910", func := "census/censuslaw15.ProbeFinds", spec := "probeFinds", unfollowed := true, recurses := true, apart := false }
def ProbeFindsSaid : Prop := probeFindsRow.holds Try.pinned (OpenSpec.ofChange probeFindsSpec)

/-- ITS FALSE NEIGHBOUR: 'it returns false'. Refute it at one input. -/
def probeFindsWrong : ChangeSpec := { name := "probeFinds", fn := fun _ => fun
  | [d1, d2] => { results := [.lit (.bool false)], args := [d1, d2] }
  | _ => none }
def ProbeFindsWrongFalsely : Prop := probeFindsRow.holds Try.pinned (OpenSpec.ofChange probeFindsWrong)

/-- 'censuslaw15.ProbeBackbone': WHATEVER THE INPUT: true; the input reads as it did. -/
def probeBackboneSpec : ChangeSpec := { name := "probeBackbone", fn := fun _ => fun
  | [d] => { results := [.lit (.bool true)], args := [d] }
  | _ => none }
def probeBackboneRow : OpenClaim := { program := "ytnhlfhoeglnajaa", sum := "568ad5cf90073f72ff1394146dc6f6f5ed946126f16b4aec4a36179a8dba9910", func := "census/censuslaw15.ProbeBackbone", spec := "probeBackbone", unfollowed := true, recurses := true, apart := false }
def ProbeBackboneSaid : Prop := probeBackboneRow.holds Try.pinned (OpenSpec.ofChange probeBackboneSpec)

/-- ITS FALSE NEIGHBOUR: 'it returns false'. Refute it at one input. -/
def probeBackboneWrong : ChangeSpec := { name := "probeBackbone", fn := fun _ => fun
  | [d] => { results := [.lit (.bool false)], args := [d] }
  | _ => none }
def ProbeBackboneWrongFalsely : Prop := probeBackboneRow.holds Try.pinned (OpenSpec.ofChange probeBackboneWrong)

/-- 'censuslaw15.ProbeEqual': WHATEVER THE INPUT: true; the input reads as it did. -/
def probeEqualSpec : ChangeSpec := { name := "probeEqual", fn := fun _ => fun
  | [d] => { results := [.lit (.bool true)], args := [d] }
  | _ => none }
def probeEqualRow : OpenClaim := { program := "ytnhlfhoeglnajaa", sum := "568ad5cf90073f72ff1394146dc6f6f5ed946126f16b4aec4a36179a8dba9910", func := "census/censuslaw15.ProbeEqual", spec := "probeEqual", unfollowed := true, recurses := true, apart := false }
def ProbeEqualSaid : Prop := probeEqualRow.holds Try.pinned (OpenSpec.ofChange probeEqualSpec)

/-- ITS FALSE NEIGHBOUR: 'it returns false'. Refute it at one input. -/
def probeEqualWrong : ChangeSpec := { name := "probeEqual", fn := fun _ => fun
  | [d] => { results := [.lit (.bool false)], args := [d] }
  | _ => none }
def ProbeEqualWrongFalsely : Prop := probeEqualRow.holds Try.pinned (OpenSpec.ofChange probeEqualWrong)

/-- 'censuslaw15.ProbeCloses': WHATEVER THE INPUT: true; the input reads as it did. -/
def probeClosesSpec : ChangeSpec := { name := "probeCloses", fn := fun _ => fun
  | [d1, d2] => { results := [.lit (.bool true)], args := [d1, d2] }
  | _ => none }
def probeClosesRow : OpenClaim := { program := "ytnhlfhoeglnajaa", sum := "568ad5cf90073f72ff1394146dc6f6f5ed946126f16b4aec4a36179a8dba9910", func := "census/censuslaw15.ProbeCloses", spec := "probeCloses", unfollowed := true, recurses := true, apart := false }
def ProbeClosesSaid : Prop := probeClosesRow.holds Try.pinned (OpenSpec.ofChange probeClosesSpec)

/-- ITS FALSE NEIGHBOUR: 'it returns false'. Refute it at one input. -/
def probeClosesWrong : ChangeSpec := { name := "probeCloses", fn := fun _ => fun
  | [d1, d2] => { results := [.lit (.bool false)], args := [d1, d2] }
  | _ => none }
def ProbeClosesWrongFalsely : Prop := probeClosesRow.holds Try.pinned (OpenSpec.ofChange probeClosesWrong)

/-- 'censuslaw15.ProbeMore': WHATEVER THE INPUT: true; the input reads as it did. -/
def probeMoreSpec : ChangeSpec := { name := "probeMore", fn := fun _ => fun
  | [d1, d2, d3] => { results := [.lit (.bool true)], args := [d1, d2, d3] }
  | _ => none }
def probeMoreRow : OpenClaim := { program := "ytnhlfhoeglnajaa", sum := "568ad5cf90073f72ff1394146dc6f6f5ed946126f16b4aec4a36179a8dba9910", func := "census/censuslaw15.ProbeMore", spec := "probeMore", unfollowed := true, recurses := true, apart := false }
def ProbeMoreSaid : Prop := probeMoreRow.holds Try.pinned (OpenSpec.ofChange probeMoreSpec)

/-- ITS FALSE NEIGHBOUR: 'it returns false'. Refute it at one input. -/
def probeMoreWrong : ChangeSpec := { name := "probeMore", fn := fun _ => fun
  | [d1, d2, d3] => { results := [.lit (.bool false)], args := [d1, d2, d3] }
  | _ => none }
def ProbeMoreWrongFalsely : Prop := probeMoreRow.holds Try.pinned (OpenSpec.ofChange probeMoreWrong)

/-- 'censuslaw15.ProbeKnown': WHATEVER THE INPUT: true; the input reads as it did. -/
def probeKnownSpec : ChangeSpec := { name := "probeKnown", fn := fun _ => fun
  | [] => { results := [.lit (.bool true)], args := [] }
  | _ => none }
def probeKnownRow : OpenClaim := { program := "ytnhlfhoeglnajaa", sum := "568ad5cf90073f72ff1394146dc6f6f5ed946126f16b4aec4a36179a8dba9910", func := "census/censuslaw15.ProbeKnown", spec := "probeKnown", unfollowed := true, recurses := true, apart := false }
def ProbeKnownSaid : Prop := probeKnownRow.holds Try.pinned (OpenSpec.ofChange probeKnownSpec)

/-- ITS FALSE NEIGHBOUR: 'it returns false'. Refute it at one input. -/
def probeKnownWrong : ChangeSpec := { name := "probeKnown", fn := fun _ => fun
  | [] => { results := [.lit (.bool false)], args := [] }
  | _ => none }
def ProbeKnownWrongFalsely : Prop := probeKnownRow.holds Try.pinned (OpenSpec.ofChange probeKnownWrong)

/-- 'censuslaw15.ProbeSame': WHATEVER THE INPUT: true; the input reads as it did. -/
def probeSameSpec : ChangeSpec := { name := "probeSame", fn := fun _ => fun
  | [d1, d2] => { results := [.lit (.bool true)], args := [d1, d2] }
  | _ => none }
def probeSameRow : OpenClaim := { program := "ytnhlfhoeglnajaa", sum := "568ad5cf90073f72ff1394146dc6f6f5ed946126f16b4aec4a36179a8dba9910", func := "census/censuslaw15.ProbeSame", spec := "probeSame", unfollowed := true, recurses := true, apart := false }
def ProbeSameSaid : Prop := probeSameRow.holds Try.pinned (OpenSpec.ofChange probeSameSpec)

/-- ITS FALSE NEIGHBOUR: 'it returns false'. Refute it at one input. -/
def probeSameWrong : ChangeSpec := { name := "probeSame", fn := fun _ => fun
  | [d1, d2] => { results := [.lit (.bool false)], args := [d1, d2] }
  | _ => none }
def ProbeSameWrongFalsely : Prop := probeSameRow.holds Try.pinned (OpenSpec.ofChange probeSameWrong)

/-- 'censuslaw15.ProbeWhole': WHATEVER THE INPUT: true; the input reads as it did. -/
def probeWholeSpec : ChangeSpec := { name := "probeWhole", fn := fun _ => fun
  | [d1, d2] => { results := [.lit (.bool true)], args := [d1, d2] }
  | _ => none }
def probeWholeRow : OpenClaim := { program := "ytnhlfhoeglnajaa", sum := "568ad5cf90073f72ff1394146dc6f6f5ed946126f16b4aec4a36179a8dba9910", func := "census/censuslaw15.ProbeWhole", spec := "probeWhole", unfollowed := true, recurses := true, apart := false }
def ProbeWholeSaid : Prop := probeWholeRow.holds Try.pinned (OpenSpec.ofChange probeWholeSpec)

/-- ITS FALSE NEIGHBOUR: 'it returns false'. Refute it at one input. -/
def probeWholeWrong : ChangeSpec := { name := "probeWhole", fn := fun _ => fun
  | [d1, d2] => { results := [.lit (.bool false)], args := [d1, d2] }
  | _ => none }
def ProbeWholeWrongFalsely : Prop := probeWholeRow.holds Try.pinned (OpenSpec.ofChange probeWholeWrong)

/- THE SECOND FORM. 'bulk': how many values and letters a reading holds, each counted each time it is reached (what is shared counts as often as it is met; a slice's spare places count too). A statement '..UptoSaid' is the law's where the arguments, and the package variables that the reading takes, are together of bulk at most 1048576: NARROWER than '..Said'. Prove '..Said' where nothing that the law and all that it calls make is longer than what came in: it says more and counts as full. Else prove '..UptoSaid'. A law counts once. -/
mutual
def uptoBulk {H : Type} : DataW H → Nat
  | .lit (.string bytes) => bytes.length + 1
  | .lit _ => 1
  | .nil => 1
  | .ptr d => uptoBulk d + 1
  | .slice elems spare => uptoBulkAll elems + uptoBulkAll spare + 1
  | .agg parts => uptoBulkAll parts + 1
  | .iface _ d => uptoBulk d + 1
  | .map entries => uptoBulkEntries entries + 1
  | .held _ => 1
def uptoBulkAll {H : Type} : List (DataW H) → Nat
  | [] => 0
  | d :: r => uptoBulk d + uptoBulkAll r
def uptoBulkEntries {H : Type} : List (Lit × DataW H) → Nat
  | [] => 0
  | x :: r => uptoBulkEntry x + uptoBulkEntries r
def uptoBulkEntry {H : Type} : Lit × DataW H → Nat
  | (.string bytes, d) => bytes.length + uptoBulk d + 1
  | (_, d) => uptoBulk d + 1
 end
def uptoSmall : (H : Type) → List (DataW H) → Bool := fun _ ds => decide (uptoBulkAll ds ≤ 1048576)
def OpenSpec.upto (s : _root_.Go.ChangeSpec) : _root_.Go.OpenSpec := { _root_.Go.OpenSpec.ofChange s with cond := some uptoSmall }

/-- 'censuslaw15.ProbeSound', WHERE WHAT IT READS IS OF BULK AT MOST 1048576: true; the input reads as it did. -/
def probeSoundUptoRow : OpenClaim := { program := "ytnhlfhoeglnajaa", sum := "568ad5cf90073f72ff1394146dc6f6f5ed946126f16b4aec4a36179a8dba9910", func := "census/censuslaw15.ProbeSound", spec := "probeSound", unfollowed := true, recurses := true, apart := false, narrowed := true }
def ProbeSoundUptoSaid : Prop := probeSoundUptoRow.holds Try.pinned (OpenSpec.upto probeSoundSpec)

/-- 'censuslaw15.ProbeBones', WHERE WHAT IT READS IS OF BULK AT MOST 1048576: true; the input reads as it did. -/
def probeBonesUptoRow : OpenClaim := { program := "ytnhlfhoeglnajaa", sum := "568ad5cf90073f72ff1394146dc6f6f5ed946126f16b4aec4a36179a8dba9910", func := "census/censuslaw15.ProbeBones", spec := "probeBones", unfollowed := true, recurses := true, apart := false, narrowed := true }
def ProbeBonesUptoSaid : Prop := probeBonesUptoRow.holds Try.pinned (OpenSpec.upto probeBonesSpec)

/-- 'censuslaw15.ProbeFinds', WHERE WHAT IT READS IS OF BULK AT MOST 1048576: true; the input reads as it did. -/
def probeFindsUptoRow : OpenClaim := { program := "ytnhlfhoeglnajaa", sum := "568ad5cf90073f72ff1394146dc6f6f5ed946126f16b4aec4a36179a8dba9910", func := "census/censuslaw15.ProbeFinds", spec := "probeFinds", unfollowed := true, recurses := true, apart := false, narrowed := true }
def ProbeFindsUptoSaid : Prop := probeFindsUptoRow.holds Try.pinned (OpenSpec.upto probeFindsSpec)

/-- 'censuslaw15.ProbeBackbone', WHERE WHAT IT READS IS OF BULK AT MOST 1048576: true; the input reads as it did. -/
def probeBackboneUptoRow : OpenClaim := { program := "ytnhlfhoeglnajaa", sum := "568ad5cf90073f72ff1394146dc6f6f5ed946126f16b4aec4a36179a8dba9910", func := "census/censuslaw15.ProbeBackbone", spec := "probeBackbone", unfollowed := true, recurses := true, apart := false, narrowed := true }
def ProbeBackboneUptoSaid : Prop := probeBackboneUptoRow.holds Try.pinned (OpenSpec.upto probeBackboneSpec)

/-- 'censuslaw15.ProbeEqual', WHERE WHAT IT READS IS OF BULK AT MOST 1048576: true; the input reads as it did. -/
def probeEqualUptoRow : OpenClaim := { program := "ytnhlfhoeglnajaa", sum := "568ad5cf90073f72ff1394146dc6f6f5ed946126f16b4aec4a36179a8dba9910", func := "census/censuslaw15.ProbeEqual", spec := "probeEqual", unfollowed := true, recurses := true, apart := false, narrowed := true }
def ProbeEqualUptoSaid : Prop := probeEqualUptoRow.holds Try.pinned (OpenSpec.upto probeEqualSpec)

/-- 'censuslaw15.ProbeCloses', WHERE WHAT IT READS IS OF BULK AT MOST 1048576: true; the input reads as it did. -/
def probeClosesUptoRow : OpenClaim := { program := "ytnhlfhoeglnajaa", sum := "568ad5cf90073f72ff1394146dc6f6f5ed946126f16b4aec4a36179a8dba9910", func := "census/censuslaw15.ProbeCloses", spec := "probeCloses", unfollowed := true, recurses := true, apart := false, narrowed := true }
def ProbeClosesUptoSaid : Prop := probeClosesUptoRow.holds Try.pinned (OpenSpec.upto probeClosesSpec)

/-- 'censuslaw15.ProbeMore', WHERE WHAT IT READS IS OF BULK AT MOST 1048576: true; the input reads as it did. -/
def probeMoreUptoRow : OpenClaim := { program := "ytnhlfhoeglnajaa", sum := "568ad5cf90073f72ff1394146dc6f6f5ed946126f16b4aec4a36179a8dba9910", func := "census/censuslaw15.ProbeMore", spec := "probeMore", unfollowed := true, recurses := true, apart := false, narrowed := true }
def ProbeMoreUptoSaid : Prop := probeMoreUptoRow.holds Try.pinned (OpenSpec.upto probeMoreSpec)

/-- 'censuslaw15.ProbeKnown', WHERE WHAT IT READS IS OF BULK AT MOST 1048576: true; the input reads as it did. -/
def probeKnownUptoRow : OpenClaim := { program := "ytnhlfhoeglnajaa", sum := "568ad5cf90073f72ff1394146dc6f6f5ed946126f16b4aec4a36179a8dba9910", func := "census/censuslaw15.ProbeKnown", spec := "probeKnown", unfollowed := true, recurses := true, apart := false, narrowed := true }
def ProbeKnownUptoSaid : Prop := probeKnownUptoRow.holds Try.pinned (OpenSpec.upto probeKnownSpec)

/-- 'censuslaw15.ProbeSame', WHERE WHAT IT READS IS OF BULK AT MOST 1048576: true; the input reads as it did. -/
def probeSameUptoRow : OpenClaim := { program := "ytnhlfhoeglnajaa", sum := "568ad5cf90073f72ff1394146dc6f6f5ed946126f16b4aec4a36179a8dba9910", func := "census/censuslaw15.ProbeSame", spec := "probeSame", unfollowed := true, recurses := true, apart := false, narrowed := true }
def ProbeSameUptoSaid : Prop := probeSameUptoRow.holds Try.pinned (OpenSpec.upto probeSameSpec)

/-- 'censuslaw15.ProbeWhole', WHERE WHAT IT READS IS OF BULK AT MOST 1048576: true; the input reads as it did. -/
def probeWholeUptoRow : OpenClaim := { program := "ytnhlfhoeglnajaa", sum := "568ad5cf90073f72ff1394146dc6f6f5ed946126f16b4aec4a36179a8dba9910", func := "census/censuslaw15.ProbeWhole", spec := "probeWhole", unfollowed := true, recurses := true, apart := false, narrowed := true }
def ProbeWholeUptoSaid : Prop := probeWholeUptoRow.holds Try.pinned (OpenSpec.upto probeWholeSpec)

end Rows
end Go.Proofs.Ytnhlfhoeglnajaa
