/-
  No cell of these rows narrows 'for every input' (looked for: loops, veiled, ifaces, maps, wideKeys, modest, calm, conditions, laid).
  DERIVED. THE GIVEN ROWS OF THIS SEAT. 14 by the template 'for every input the law returns true; each argument reads behind the call as it read before'; 0 by the template 'total and deterministic' (their statements: YtmfcdjkeofohpaaTotals.lean).
  GIVEN WITH THE SEED: the statements are not yours to turn. If you find one false, say at which input.
  Laid BY PROGRAM, IN A SANDBOX (cutbox-rows.mjs): the forced cells as the released guide's own fill.sh prints them over the translation 130b3065242c3164… (all of the seat's roots in one cut). By AI agents, Wed Nov 11 2026. No macro, syntax, notation, axiom, sorry.
-/
import Derived.Test.YtmfcdjkeofohpaaChecked
import GoSem.Claim
import GoSem.ClaimJoined
import GoSem.ClaimMapViews
import Derived.JoinedTies
import Derived.KernelRfl
namespace Go.Proofs.Ytmfcdjkeofohpaa
/- THE CELL 'sum', in the pinned program and in every row, IS THE sha256 OF THE DUMP (.gsa) THAT YtmfcdjkeofohpaaProg.lean LOADS. Nothing in Lean hashes anything: it is a label: what it is worth is what the hold of that sum in a sandbox is worth. -/
noncomputable def Try.pinned : Pinned := { name := "ytmfcdjkeofohpaa", sum := "130b3065242c3164202f065a0fdd363bce2270a2eed601cf854e7a1391204e0a", checked := Try.checked }
namespace Rows
def none {H : Type} : Left H := { results := [], args := [] }

/-- 'laws.FnExactSameLeaf': WHATEVER THE INPUT: true; the input reads as it did. -/
def fnExactSameLeafSpec : ChangeSpec := { name := "fnExactSameLeaf", fn := fun _ => fun
  | [d1, d2] => { results := [.lit (.bool true)], args := [d1, d2] }
  | _ => none }
def fnExactSameLeafRow : OpenClaim := { program := "ytmfcdjkeofohpaa", sum := "130b3065242c3164202f065a0fdd363bce2270a2eed601cf854e7a1391204e0a", func := "loop.example/g00956/laws.FnExactSameLeaf", spec := "fnExactSameLeaf", apart := false }
def FnExactSameLeafSaid : Prop := fnExactSameLeafRow.holds Try.pinned (OpenSpec.ofChange fnExactSameLeafSpec)

/-- ITS FALSE NEIGHBOUR: 'it returns false'. Refute it at one input. -/
def fnExactSameLeafWrong : ChangeSpec := { name := "fnExactSameLeaf", fn := fun _ => fun
  | [d1, d2] => { results := [.lit (.bool false)], args := [d1, d2] }
  | _ => none }
def FnExactSameLeafWrongFalsely : Prop := fnExactSameLeafRow.holds Try.pinned (OpenSpec.ofChange fnExactSameLeafWrong)

/-- 'laws.FnExactMeanShade': WHATEVER THE INPUT: true; the input reads as it did. -/
def fnExactMeanShadeSpec : ChangeSpec := { name := "fnExactMeanShade", fn := fun _ => fun
  | [d] => { results := [.lit (.bool true)], args := [d] }
  | _ => none }
def fnExactMeanShadeRow : OpenClaim := { program := "ytmfcdjkeofohpaa", sum := "130b3065242c3164202f065a0fdd363bce2270a2eed601cf854e7a1391204e0a", func := "loop.example/g00956/laws.FnExactMeanShade", spec := "fnExactMeanShade", apart := false }
def FnExactMeanShadeSaid : Prop := fnExactMeanShadeRow.holds Try.pinned (OpenSpec.ofChange fnExactMeanShadeSpec)

/-- ITS FALSE NEIGHBOUR: 'it returns false'. Refute it at one input. -/
def fnExactMeanShadeWrong : ChangeSpec := { name := "fnExactMeanShade", fn := fun _ => fun
  | [d] => { results := [.lit (.bool false)], args := [d] }
  | _ => none }
def FnExactMeanShadeWrongFalsely : Prop := fnExactMeanShadeRow.holds Try.pinned (OpenSpec.ofChange fnExactMeanShadeWrong)

/-- 'laws.FnExactValidLeaf': WHATEVER THE INPUT: true; the input reads as it did. -/
def fnExactValidLeafSpec : ChangeSpec := { name := "fnExactValidLeaf", fn := fun _ => fun
  | [d] => { results := [.lit (.bool true)], args := [d] }
  | _ => none }
def fnExactValidLeafRow : OpenClaim := { program := "ytmfcdjkeofohpaa", sum := "130b3065242c3164202f065a0fdd363bce2270a2eed601cf854e7a1391204e0a", func := "loop.example/g00956/laws.FnExactValidLeaf", spec := "fnExactValidLeaf", unfollowed := true, recurses := true, apart := false }
def FnExactValidLeafSaid : Prop := fnExactValidLeafRow.holds Try.pinned (OpenSpec.ofChange fnExactValidLeafSpec)

/-- ITS FALSE NEIGHBOUR: 'it returns false'. Refute it at one input. -/
def fnExactValidLeafWrong : ChangeSpec := { name := "fnExactValidLeaf", fn := fun _ => fun
  | [d] => { results := [.lit (.bool false)], args := [d] }
  | _ => none }
def FnExactValidLeafWrongFalsely : Prop := fnExactValidLeafRow.holds Try.pinned (OpenSpec.ofChange fnExactValidLeafWrong)

/-- 'laws.FnExactDefectAt': WHATEVER THE INPUT: true; the input reads as it did. -/
def fnExactDefectAtSpec : ChangeSpec := { name := "fnExactDefectAt", fn := fun _ => fun
  | [d1, d2, d3] => { results := [.lit (.bool true)], args := [d1, d2, d3] }
  | _ => none }
def fnExactDefectAtRow : OpenClaim := { program := "ytmfcdjkeofohpaa", sum := "130b3065242c3164202f065a0fdd363bce2270a2eed601cf854e7a1391204e0a", func := "loop.example/g00956/laws.FnExactDefectAt", spec := "fnExactDefectAt", unfollowed := true, recurses := true, apart := false }
def FnExactDefectAtSaid : Prop := fnExactDefectAtRow.holds Try.pinned (OpenSpec.ofChange fnExactDefectAtSpec)

/-- ITS FALSE NEIGHBOUR: 'it returns false'. Refute it at one input. -/
def fnExactDefectAtWrong : ChangeSpec := { name := "fnExactDefectAt", fn := fun _ => fun
  | [d1, d2, d3] => { results := [.lit (.bool false)], args := [d1, d2, d3] }
  | _ => none }
def FnExactDefectAtWrongFalsely : Prop := fnExactDefectAtRow.holds Try.pinned (OpenSpec.ofChange fnExactDefectAtWrong)

/-- 'laws.FnExactValidLeaves': WHATEVER THE INPUT: true; the input reads as it did. -/
def fnExactValidLeavesSpec : ChangeSpec := { name := "fnExactValidLeaves", fn := fun _ => fun
  | [d] => { results := [.lit (.bool true)], args := [d] }
  | _ => none }
def fnExactValidLeavesRow : OpenClaim := { program := "ytmfcdjkeofohpaa", sum := "130b3065242c3164202f065a0fdd363bce2270a2eed601cf854e7a1391204e0a", func := "loop.example/g00956/laws.FnExactValidLeaves", spec := "fnExactValidLeaves", unfollowed := true, recurses := true, apart := false }
def FnExactValidLeavesSaid : Prop := fnExactValidLeavesRow.holds Try.pinned (OpenSpec.ofChange fnExactValidLeavesSpec)

/-- ITS FALSE NEIGHBOUR: 'it returns false'. Refute it at one input. -/
def fnExactValidLeavesWrong : ChangeSpec := { name := "fnExactValidLeaves", fn := fun _ => fun
  | [d] => { results := [.lit (.bool false)], args := [d] }
  | _ => none }
def FnExactValidLeavesWrongFalsely : Prop := fnExactValidLeavesRow.holds Try.pinned (OpenSpec.ofChange fnExactValidLeavesWrong)

/-- 'laws.FnExactSamePicture': WHATEVER THE INPUT: true; the input reads as it did. -/
def fnExactSamePictureSpec : ChangeSpec := { name := "fnExactSamePicture", fn := fun _ => fun
  | [d1, d2] => { results := [.lit (.bool true)], args := [d1, d2] }
  | _ => none }
def fnExactSamePictureRow : OpenClaim := { program := "ytmfcdjkeofohpaa", sum := "130b3065242c3164202f065a0fdd363bce2270a2eed601cf854e7a1391204e0a", func := "loop.example/g00956/laws.FnExactSamePicture", spec := "fnExactSamePicture", unfollowed := true, recurses := true, apart := false }
def FnExactSamePictureSaid : Prop := fnExactSamePictureRow.holds Try.pinned (OpenSpec.ofChange fnExactSamePictureSpec)

/-- ITS FALSE NEIGHBOUR: 'it returns false'. Refute it at one input. -/
def fnExactSamePictureWrong : ChangeSpec := { name := "fnExactSamePicture", fn := fun _ => fun
  | [d1, d2] => { results := [.lit (.bool false)], args := [d1, d2] }
  | _ => none }
def FnExactSamePictureWrongFalsely : Prop := fnExactSamePictureRow.holds Try.pinned (OpenSpec.ofChange fnExactSamePictureWrong)

/-- 'laws.FnExactMatchScore': WHATEVER THE INPUT: true; the input reads as it did. -/
def fnExactMatchScoreSpec : ChangeSpec := { name := "fnExactMatchScore", fn := fun _ => fun
  | [d1, d2, d3] => { results := [.lit (.bool true)], args := [d1, d2, d3] }
  | _ => none }
def fnExactMatchScoreRow : OpenClaim := { program := "ytmfcdjkeofohpaa", sum := "130b3065242c3164202f065a0fdd363bce2270a2eed601cf854e7a1391204e0a", func := "loop.example/g00956/laws.FnExactMatchScore", spec := "fnExactMatchScore", unfollowed := true, recurses := true, apart := false }
def FnExactMatchScoreSaid : Prop := fnExactMatchScoreRow.holds Try.pinned (OpenSpec.ofChange fnExactMatchScoreSpec)

/-- ITS FALSE NEIGHBOUR: 'it returns false'. Refute it at one input. -/
def fnExactMatchScoreWrong : ChangeSpec := { name := "fnExactMatchScore", fn := fun _ => fun
  | [d1, d2, d3] => { results := [.lit (.bool false)], args := [d1, d2, d3] }
  | _ => none }
def FnExactMatchScoreWrongFalsely : Prop := fnExactMatchScoreRow.holds Try.pinned (OpenSpec.ofChange fnExactMatchScoreWrong)

/-- 'laws.FnExactMirrorLeaf': WHATEVER THE INPUT: true; the input reads as it did. -/
def fnExactMirrorLeafSpec : ChangeSpec := { name := "fnExactMirrorLeaf", fn := fun _ => fun
  | [d] => { results := [.lit (.bool true)], args := [d] }
  | _ => none }
def fnExactMirrorLeafRow : OpenClaim := { program := "ytmfcdjkeofohpaa", sum := "130b3065242c3164202f065a0fdd363bce2270a2eed601cf854e7a1391204e0a", func := "loop.example/g00956/laws.FnExactMirrorLeaf", spec := "fnExactMirrorLeaf", unfollowed := true, recurses := true, apart := false }
def FnExactMirrorLeafSaid : Prop := fnExactMirrorLeafRow.holds Try.pinned (OpenSpec.ofChange fnExactMirrorLeafSpec)

/-- ITS FALSE NEIGHBOUR: 'it returns false'. Refute it at one input. -/
def fnExactMirrorLeafWrong : ChangeSpec := { name := "fnExactMirrorLeaf", fn := fun _ => fun
  | [d] => { results := [.lit (.bool false)], args := [d] }
  | _ => none }
def FnExactMirrorLeafWrongFalsely : Prop := fnExactMirrorLeafRow.holds Try.pinned (OpenSpec.ofChange fnExactMirrorLeafWrong)

/-- 'laws.FnExactVeneerFault': WHATEVER THE INPUT: true; the input reads as it did. -/
def fnExactVeneerFaultSpec : ChangeSpec := { name := "fnExactVeneerFault", fn := fun _ => fun
  | [d1, d2, d3, d4] => { results := [.lit (.bool true)], args := [d1, d2, d3, d4] }
  | _ => none }
def fnExactVeneerFaultRow : OpenClaim := { program := "ytmfcdjkeofohpaa", sum := "130b3065242c3164202f065a0fdd363bce2270a2eed601cf854e7a1391204e0a", func := "loop.example/g00956/laws.FnExactVeneerFault", spec := "fnExactVeneerFault", unfollowed := true, recurses := true, apart := false }
def FnExactVeneerFaultSaid : Prop := fnExactVeneerFaultRow.holds Try.pinned (OpenSpec.ofChange fnExactVeneerFaultSpec)

/-- ITS FALSE NEIGHBOUR: 'it returns false'. Refute it at one input. -/
def fnExactVeneerFaultWrong : ChangeSpec := { name := "fnExactVeneerFault", fn := fun _ => fun
  | [d1, d2, d3, d4] => { results := [.lit (.bool false)], args := [d1, d2, d3, d4] }
  | _ => none }
def FnExactVeneerFaultWrongFalsely : Prop := fnExactVeneerFaultRow.holds Try.pinned (OpenSpec.ofChange fnExactVeneerFaultWrong)

/-- 'laws.FnExactIsSequence': WHATEVER THE INPUT: true; the input reads as it did. -/
def fnExactIsSequenceSpec : ChangeSpec := { name := "fnExactIsSequence", fn := fun _ => fun
  | [d1, d2] => { results := [.lit (.bool true)], args := [d1, d2] }
  | _ => none }
def fnExactIsSequenceRow : OpenClaim := { program := "ytmfcdjkeofohpaa", sum := "130b3065242c3164202f065a0fdd363bce2270a2eed601cf854e7a1391204e0a", func := "loop.example/g00956/laws.FnExactIsSequence", spec := "fnExactIsSequence", unfollowed := true, recurses := true, apart := false }
def FnExactIsSequenceSaid : Prop := fnExactIsSequenceRow.holds Try.pinned (OpenSpec.ofChange fnExactIsSequenceSpec)

/-- ITS FALSE NEIGHBOUR: 'it returns false'. Refute it at one input. -/
def fnExactIsSequenceWrong : ChangeSpec := { name := "fnExactIsSequence", fn := fun _ => fun
  | [d1, d2] => { results := [.lit (.bool false)], args := [d1, d2] }
  | _ => none }
def FnExactIsSequenceWrongFalsely : Prop := fnExactIsSequenceRow.holds Try.pinned (OpenSpec.ofChange fnExactIsSequenceWrong)

/-- 'laws.FnExactTrimLeaf': WHATEVER THE INPUT: true; the input reads as it did. -/
def fnExactTrimLeafSpec : ChangeSpec := { name := "fnExactTrimLeaf", fn := fun _ => fun
  | [d1, d2] => { results := [.lit (.bool true)], args := [d1, d2] }
  | _ => none }
def fnExactTrimLeafRow : OpenClaim := { program := "ytmfcdjkeofohpaa", sum := "130b3065242c3164202f065a0fdd363bce2270a2eed601cf854e7a1391204e0a", func := "loop.example/g00956/laws.FnExactTrimLeaf", spec := "fnExactTrimLeaf", unfollowed := true, recurses := true, apart := false }
def FnExactTrimLeafSaid : Prop := fnExactTrimLeafRow.holds Try.pinned (OpenSpec.ofChange fnExactTrimLeafSpec)

/-- ITS FALSE NEIGHBOUR: 'it returns false'. Refute it at one input. -/
def fnExactTrimLeafWrong : ChangeSpec := { name := "fnExactTrimLeaf", fn := fun _ => fun
  | [d1, d2] => { results := [.lit (.bool false)], args := [d1, d2] }
  | _ => none }
def FnExactTrimLeafWrongFalsely : Prop := fnExactTrimLeafRow.holds Try.pinned (OpenSpec.ofChange fnExactTrimLeafWrong)

/-- 'laws.FnExactLeavesOf': WHATEVER THE INPUT: true; the input reads as it did. -/
def fnExactLeavesOfSpec : ChangeSpec := { name := "fnExactLeavesOf", fn := fun _ => fun
  | [d1, d2] => { results := [.lit (.bool true)], args := [d1, d2] }
  | _ => none }
def fnExactLeavesOfRow : OpenClaim := { program := "ytmfcdjkeofohpaa", sum := "130b3065242c3164202f065a0fdd363bce2270a2eed601cf854e7a1391204e0a", func := "loop.example/g00956/laws.FnExactLeavesOf", spec := "fnExactLeavesOf", unfollowed := true, recurses := true, apart := false }
def FnExactLeavesOfSaid : Prop := fnExactLeavesOfRow.holds Try.pinned (OpenSpec.ofChange fnExactLeavesOfSpec)

/-- ITS FALSE NEIGHBOUR: 'it returns false'. Refute it at one input. -/
def fnExactLeavesOfWrong : ChangeSpec := { name := "fnExactLeavesOf", fn := fun _ => fun
  | [d1, d2] => { results := [.lit (.bool false)], args := [d1, d2] }
  | _ => none }
def FnExactLeavesOfWrongFalsely : Prop := fnExactLeavesOfRow.holds Try.pinned (OpenSpec.ofChange fnExactLeavesOfWrong)

/-- 'laws.FnExactBestMatch': WHATEVER THE INPUT: true; the input reads as it did. -/
def fnExactBestMatchSpec : ChangeSpec := { name := "fnExactBestMatch", fn := fun _ => fun
  | [d1, d2, d3] => { results := [.lit (.bool true)], args := [d1, d2, d3] }
  | _ => none }
def fnExactBestMatchRow : OpenClaim := { program := "ytmfcdjkeofohpaa", sum := "130b3065242c3164202f065a0fdd363bce2270a2eed601cf854e7a1391204e0a", func := "loop.example/g00956/laws.FnExactBestMatch", spec := "fnExactBestMatch", unfollowed := true, recurses := true, apart := false }
def FnExactBestMatchSaid : Prop := fnExactBestMatchRow.holds Try.pinned (OpenSpec.ofChange fnExactBestMatchSpec)

/-- ITS FALSE NEIGHBOUR: 'it returns false'. Refute it at one input. -/
def fnExactBestMatchWrong : ChangeSpec := { name := "fnExactBestMatch", fn := fun _ => fun
  | [d1, d2, d3] => { results := [.lit (.bool false)], args := [d1, d2, d3] }
  | _ => none }
def FnExactBestMatchWrongFalsely : Prop := fnExactBestMatchRow.holds Try.pinned (OpenSpec.ofChange fnExactBestMatchWrong)

/-- 'laws.FnExactStraightPoints': WHATEVER THE INPUT: true; the input reads as it did. -/
def fnExactStraightPointsSpec : ChangeSpec := { name := "fnExactStraightPoints", fn := fun _ => fun
  | [d] => { results := [.lit (.bool true)], args := [d] }
  | _ => none }
def fnExactStraightPointsRow : OpenClaim := { program := "ytmfcdjkeofohpaa", sum := "130b3065242c3164202f065a0fdd363bce2270a2eed601cf854e7a1391204e0a", func := "loop.example/g00956/laws.FnExactStraightPoints", spec := "fnExactStraightPoints", apart := false }
def FnExactStraightPointsSaid : Prop := fnExactStraightPointsRow.holds Try.pinned (OpenSpec.ofChange fnExactStraightPointsSpec)

/-- ITS FALSE NEIGHBOUR: 'it returns false'. Refute it at one input. -/
def fnExactStraightPointsWrong : ChangeSpec := { name := "fnExactStraightPoints", fn := fun _ => fun
  | [d] => { results := [.lit (.bool false)], args := [d] }
  | _ => none }
def FnExactStraightPointsWrongFalsely : Prop := fnExactStraightPointsRow.holds Try.pinned (OpenSpec.ofChange fnExactStraightPointsWrong)

/- THE SECOND FORM. 'bulk': how many values and letters a reading holds, each counted each time it is reached (what is shared counts as often as it is met; a slice's spare places count too). A statement '..UptoSaid' is the law's where the arguments, and the package variables that the reading takes, are together of bulk at most 1048576: NARROWER than '..Said'. Prove '..Said' where nothing that the law and all that it calls make is longer than what came in: it says more and counts as full. Else prove '..UptoSaid'. A law counts once. -/
mutual
def uptoBulk {H : Type} : DataW H → Nat
  | .lit (.string bytes) => bytes.length + 1
  | .lit _ => 1
  | .nil => 1
  | .ptr d => uptoBulk d + 1
  | .slice elems spare => uptoBulkAll elems + uptoBulkAll spare + 1
  | .agg parts => uptoBulkAll parts + 1
  | .iface _ d => uptoBulk d + 1
  | .map entries => uptoBulkEntries entries + 1
  | .held _ => 1
def uptoBulkAll {H : Type} : List (DataW H) → Nat
  | [] => 0
  | d :: r => uptoBulk d + uptoBulkAll r
def uptoBulkEntries {H : Type} : List (Lit × DataW H) → Nat
  | [] => 0
  | x :: r => uptoBulkEntry x + uptoBulkEntries r
def uptoBulkEntry {H : Type} : Lit × DataW H → Nat
  | (.string bytes, d) => bytes.length + uptoBulk d + 1
  | (_, d) => uptoBulk d + 1
 end
def uptoSmall : (H : Type) → List (DataW H) → Bool := fun _ ds => decide (uptoBulkAll ds ≤ 1048576)
def OpenSpec.upto (s : _root_.Go.ChangeSpec) : _root_.Go.OpenSpec := { _root_.Go.OpenSpec.ofChange s with cond := some uptoSmall }

/-- 'laws.FnExactSameLeaf', WHERE WHAT IT READS IS OF BULK AT MOST 1048576: true; the input reads as it did. -/
def fnExactSameLeafUptoRow : OpenClaim := { program := "ytmfcdjkeofohpaa", sum := "130b3065242c3164202f065a0fdd363bce2270a2eed601cf854e7a1391204e0a", func := "loop.example/g00956/laws.FnExactSameLeaf", spec := "fnExactSameLeaf", apart := false, narrowed := true }
def FnExactSameLeafUptoSaid : Prop := fnExactSameLeafUptoRow.holds Try.pinned (OpenSpec.upto fnExactSameLeafSpec)

/-- 'laws.FnExactMeanShade', WHERE WHAT IT READS IS OF BULK AT MOST 1048576: true; the input reads as it did. -/
def fnExactMeanShadeUptoRow : OpenClaim := { program := "ytmfcdjkeofohpaa", sum := "130b3065242c3164202f065a0fdd363bce2270a2eed601cf854e7a1391204e0a", func := "loop.example/g00956/laws.FnExactMeanShade", spec := "fnExactMeanShade", apart := false, narrowed := true }
def FnExactMeanShadeUptoSaid : Prop := fnExactMeanShadeUptoRow.holds Try.pinned (OpenSpec.upto fnExactMeanShadeSpec)

/-- 'laws.FnExactValidLeaf', WHERE WHAT IT READS IS OF BULK AT MOST 1048576: true; the input reads as it did. -/
def fnExactValidLeafUptoRow : OpenClaim := { program := "ytmfcdjkeofohpaa", sum := "130b3065242c3164202f065a0fdd363bce2270a2eed601cf854e7a1391204e0a", func := "loop.example/g00956/laws.FnExactValidLeaf", spec := "fnExactValidLeaf", unfollowed := true, recurses := true, apart := false, narrowed := true }
def FnExactValidLeafUptoSaid : Prop := fnExactValidLeafUptoRow.holds Try.pinned (OpenSpec.upto fnExactValidLeafSpec)

/-- 'laws.FnExactDefectAt', WHERE WHAT IT READS IS OF BULK AT MOST 1048576: true; the input reads as it did. -/
def fnExactDefectAtUptoRow : OpenClaim := { program := "ytmfcdjkeofohpaa", sum := "130b3065242c3164202f065a0fdd363bce2270a2eed601cf854e7a1391204e0a", func := "loop.example/g00956/laws.FnExactDefectAt", spec := "fnExactDefectAt", unfollowed := true, recurses := true, apart := false, narrowed := true }
def FnExactDefectAtUptoSaid : Prop := fnExactDefectAtUptoRow.holds Try.pinned (OpenSpec.upto fnExactDefectAtSpec)

/-- 'laws.FnExactValidLeaves', WHERE WHAT IT READS IS OF BULK AT MOST 1048576: true; the input reads as it did. -/
def fnExactValidLeavesUptoRow : OpenClaim := { program := "ytmfcdjkeofohpaa", sum := "130b3065242c3164202f065a0fdd363bce2270a2eed601cf854e7a1391204e0a", func := "loop.example/g00956/laws.FnExactValidLeaves", spec := "fnExactValidLeaves", unfollowed := true, recurses := true, apart := false, narrowed := true }
def FnExactValidLeavesUptoSaid : Prop := fnExactValidLeavesUptoRow.holds Try.pinned (OpenSpec.upto fnExactValidLeavesSpec)

/-- 'laws.FnExactSamePicture', WHERE WHAT IT READS IS OF BULK AT MOST 1048576: true; the input reads as it did. -/
def fnExactSamePictureUptoRow : OpenClaim := { program := "ytmfcdjkeofohpaa", sum := "130b3065242c3164202f065a0fdd363bce2270a2eed601cf854e7a1391204e0a", func := "loop.example/g00956/laws.FnExactSamePicture", spec := "fnExactSamePicture", unfollowed := true, recurses := true, apart := false, narrowed := true }
def FnExactSamePictureUptoSaid : Prop := fnExactSamePictureUptoRow.holds Try.pinned (OpenSpec.upto fnExactSamePictureSpec)

/-- 'laws.FnExactMatchScore', WHERE WHAT IT READS IS OF BULK AT MOST 1048576: true; the input reads as it did. -/
def fnExactMatchScoreUptoRow : OpenClaim := { program := "ytmfcdjkeofohpaa", sum := "130b3065242c3164202f065a0fdd363bce2270a2eed601cf854e7a1391204e0a", func := "loop.example/g00956/laws.FnExactMatchScore", spec := "fnExactMatchScore", unfollowed := true, recurses := true, apart := false, narrowed := true }
def FnExactMatchScoreUptoSaid : Prop := fnExactMatchScoreUptoRow.holds Try.pinned (OpenSpec.upto fnExactMatchScoreSpec)

/-- 'laws.FnExactMirrorLeaf', WHERE WHAT IT READS IS OF BULK AT MOST 1048576: true; the input reads as it did. -/
def fnExactMirrorLeafUptoRow : OpenClaim := { program := "ytmfcdjkeofohpaa", sum := "130b3065242c3164202f065a0fdd363bce2270a2eed601cf854e7a1391204e0a", func := "loop.example/g00956/laws.FnExactMirrorLeaf", spec := "fnExactMirrorLeaf", unfollowed := true, recurses := true, apart := false, narrowed := true }
def FnExactMirrorLeafUptoSaid : Prop := fnExactMirrorLeafUptoRow.holds Try.pinned (OpenSpec.upto fnExactMirrorLeafSpec)

/-- 'laws.FnExactVeneerFault', WHERE WHAT IT READS IS OF BULK AT MOST 1048576: true; the input reads as it did. -/
def fnExactVeneerFaultUptoRow : OpenClaim := { program := "ytmfcdjkeofohpaa", sum := "130b3065242c3164202f065a0fdd363bce2270a2eed601cf854e7a1391204e0a", func := "loop.example/g00956/laws.FnExactVeneerFault", spec := "fnExactVeneerFault", unfollowed := true, recurses := true, apart := false, narrowed := true }
def FnExactVeneerFaultUptoSaid : Prop := fnExactVeneerFaultUptoRow.holds Try.pinned (OpenSpec.upto fnExactVeneerFaultSpec)

/-- 'laws.FnExactIsSequence', WHERE WHAT IT READS IS OF BULK AT MOST 1048576: true; the input reads as it did. -/
def fnExactIsSequenceUptoRow : OpenClaim := { program := "ytmfcdjkeofohpaa", sum := "130b3065242c3164202f065a0fdd363bce2270a2eed601cf854e7a1391204e0a", func := "loop.example/g00956/laws.FnExactIsSequence", spec := "fnExactIsSequence", unfollowed := true, recurses := true, apart := false, narrowed := true }
def FnExactIsSequenceUptoSaid : Prop := fnExactIsSequenceUptoRow.holds Try.pinned (OpenSpec.upto fnExactIsSequenceSpec)

/-- 'laws.FnExactTrimLeaf', WHERE WHAT IT READS IS OF BULK AT MOST 1048576: true; the input reads as it did. -/
def fnExactTrimLeafUptoRow : OpenClaim := { program := "ytmfcdjkeofohpaa", sum := "130b3065242c3164202f065a0fdd363bce2270a2eed601cf854e7a1391204e0a", func := "loop.example/g00956/laws.FnExactTrimLeaf", spec := "fnExactTrimLeaf", unfollowed := true, recurses := true, apart := false, narrowed := true }
def FnExactTrimLeafUptoSaid : Prop := fnExactTrimLeafUptoRow.holds Try.pinned (OpenSpec.upto fnExactTrimLeafSpec)

/-- 'laws.FnExactLeavesOf', WHERE WHAT IT READS IS OF BULK AT MOST 1048576: true; the input reads as it did. -/
def fnExactLeavesOfUptoRow : OpenClaim := { program := "ytmfcdjkeofohpaa", sum := "130b3065242c3164202f065a0fdd363bce2270a2eed601cf854e7a1391204e0a", func := "loop.example/g00956/laws.FnExactLeavesOf", spec := "fnExactLeavesOf", unfollowed := true, recurses := true, apart := false, narrowed := true }
def FnExactLeavesOfUptoSaid : Prop := fnExactLeavesOfUptoRow.holds Try.pinned (OpenSpec.upto fnExactLeavesOfSpec)

/-- 'laws.FnExactBestMatch', WHERE WHAT IT READS IS OF BULK AT MOST 1048576: true; the input reads as it did. -/
def fnExactBestMatchUptoRow : OpenClaim := { program := "ytmfcdjkeofohpaa", sum := "130b3065242c3164202f065a0fdd363bce2270a2eed601cf854e7a1391204e0a", func := "loop.example/g00956/laws.FnExactBestMatch", spec := "fnExactBestMatch", unfollowed := true, recurses := true, apart := false, narrowed := true }
def FnExactBestMatchUptoSaid : Prop := fnExactBestMatchUptoRow.holds Try.pinned (OpenSpec.upto fnExactBestMatchSpec)

/-- 'laws.FnExactStraightPoints', WHERE WHAT IT READS IS OF BULK AT MOST 1048576: true; the input reads as it did. -/
def fnExactStraightPointsUptoRow : OpenClaim := { program := "ytmfcdjkeofohpaa", sum := "130b3065242c3164202f065a0fdd363bce2270a2eed601cf854e7a1391204e0a", func := "loop.example/g00956/laws.FnExactStraightPoints", spec := "fnExactStraightPoints", apart := false, narrowed := true }
def FnExactStraightPointsUptoSaid : Prop := fnExactStraightPointsUptoRow.holds Try.pinned (OpenSpec.upto fnExactStraightPointsSpec)

end Rows
end Go.Proofs.Ytmfcdjkeofohpaa
