/-
  No cell of these rows narrows 'for every input' (looked for: loops, veiled, ifaces, maps, wideKeys, modest, calm, conditions, laid).
  DERIVED. THE GIVEN ROWS OF THIS SEAT. 13 by the template 'for every input the law returns true; each argument reads behind the call as it read before'; 0 by the template 'total and deterministic' (their statements: YtojjkjbffihppaaTotals.lean).
  GIVEN WITH THE SEED: the statements are not yours to turn. If you find one false, say at which input.
  Laid BY PROGRAM, IN A SANDBOX (cutbox-rows.mjs): the forced cells as the released guide's own fill.sh prints them over the translation 990e4a103c78d9a4… (all of the seat's roots in one cut). By AI agents, Wed Nov 11 2026. No macro, syntax, notation, axiom, sorry.
-/
import Derived.Test.YtojjkjbffihppaaChecked
import GoSem.Claim
import GoSem.ClaimJoined
import GoSem.ClaimMapViews
import Derived.JoinedTies
import Derived.KernelRfl
namespace Go.Proofs.Ytojjkjbffihppaa
/- THE CELL 'sum', in the pinned program and in every row, IS THE sha256 OF THE DUMP (.gsa) THAT YtojjkjbffihppaaProg.lean LOADS. Nothing in Lean hashes anything: it is a label: what it is worth is what the hold of that sum in a sandbox is worth. -/
noncomputable def Try.pinned : Pinned := { name := "ytojjkjbffihppaa", sum := "990e4a103c78d9a477576cd509ad86f3b9f11cc00e3b5f89d6949644815ef087", checked := Try.checked }
namespace Rows
def none {H : Type} : Left H := { results := [], args := [] }

/-- 'laws.FnExactDropLeaf': WHATEVER THE INPUT: true; the input reads as it did. -/
def fnExactDropLeafSpec : ChangeSpec := { name := "fnExactDropLeaf", fn := fun _ => fun
  | [d1, d2] => { results := [.lit (.bool true)], args := [d1, d2] }
  | _ => none }
def fnExactDropLeafRow : OpenClaim := { program := "ytojjkjbffihppaa", sum := "990e4a103c78d9a477576cd509ad86f3b9f11cc00e3b5f89d6949644815ef087", func := "loop.example/g00956/laws.FnExactDropLeaf", spec := "fnExactDropLeaf", inPlace := ["internal/bytealg.abigen_runtime_cmpstring"], unfollowed := true, recurses := true, apart := false }
def FnExactDropLeafSaid : Prop := fnExactDropLeafRow.holds Try.pinned (OpenSpec.ofChange fnExactDropLeafSpec)

/-- ITS FALSE NEIGHBOUR: 'it returns false'. Refute it at one input. -/
def fnExactDropLeafWrong : ChangeSpec := { name := "fnExactDropLeaf", fn := fun _ => fun
  | [d1, d2] => { results := [.lit (.bool false)], args := [d1, d2] }
  | _ => none }
def FnExactDropLeafWrongFalsely : Prop := fnExactDropLeafRow.holds Try.pinned (OpenSpec.ofChange fnExactDropLeafWrong)

/-- 'laws.FnExactUsedLeaves': WHATEVER THE INPUT: true; the input reads as it did. -/
def fnExactUsedLeavesSpec : ChangeSpec := { name := "fnExactUsedLeaves", fn := fun _ => fun
  | [d] => { results := [.lit (.bool true)], args := [d] }
  | _ => none }
def fnExactUsedLeavesRow : OpenClaim := { program := "ytojjkjbffihppaa", sum := "990e4a103c78d9a477576cd509ad86f3b9f11cc00e3b5f89d6949644815ef087", func := "loop.example/g00956/laws.FnExactUsedLeaves", spec := "fnExactUsedLeaves", recurses := true, apart := false }
def FnExactUsedLeavesSaid : Prop := fnExactUsedLeavesRow.holds Try.pinned (OpenSpec.ofChange fnExactUsedLeavesSpec)

/-- ITS FALSE NEIGHBOUR: 'it returns false'. Refute it at one input. -/
def fnExactUsedLeavesWrong : ChangeSpec := { name := "fnExactUsedLeaves", fn := fun _ => fun
  | [d] => { results := [.lit (.bool false)], args := [d] }
  | _ => none }
def FnExactUsedLeavesWrongFalsely : Prop := fnExactUsedLeavesRow.holds Try.pinned (OpenSpec.ofChange fnExactUsedLeavesWrong)

/-- 'laws.FnExactPairsScore': WHATEVER THE INPUT: true; the input reads as it did. -/
def fnExactPairsScoreSpec : ChangeSpec := { name := "fnExactPairsScore", fn := fun _ => fun
  | [d1, d2, d3] => { results := [.lit (.bool true)], args := [d1, d2, d3] }
  | _ => none }
def fnExactPairsScoreRow : OpenClaim := { program := "ytojjkjbffihppaa", sum := "990e4a103c78d9a477576cd509ad86f3b9f11cc00e3b5f89d6949644815ef087", func := "loop.example/g00956/laws.FnExactPairsScore", spec := "fnExactPairsScore", unfollowed := true, recurses := true, apart := false }
def FnExactPairsScoreSaid : Prop := fnExactPairsScoreRow.holds Try.pinned (OpenSpec.ofChange fnExactPairsScoreSpec)

/-- ITS FALSE NEIGHBOUR: 'it returns false'. Refute it at one input. -/
def fnExactPairsScoreWrong : ChangeSpec := { name := "fnExactPairsScore", fn := fun _ => fun
  | [d1, d2, d3] => { results := [.lit (.bool false)], args := [d1, d2, d3] }
  | _ => none }
def FnExactPairsScoreWrongFalsely : Prop := fnExactPairsScoreRow.holds Try.pinned (OpenSpec.ofChange fnExactPairsScoreWrong)

/-- 'laws.FnExactSliversOf': WHATEVER THE INPUT: true; the input reads as it did. -/
def fnExactSliversOfSpec : ChangeSpec := { name := "fnExactSliversOf", fn := fun _ => fun
  | [d1, d2] => { results := [.lit (.bool true)], args := [d1, d2] }
  | _ => none }
def fnExactSliversOfRow : OpenClaim := { program := "ytojjkjbffihppaa", sum := "990e4a103c78d9a477576cd509ad86f3b9f11cc00e3b5f89d6949644815ef087", func := "loop.example/g00956/laws.FnExactSliversOf", spec := "fnExactSliversOf", apart := false }
def FnExactSliversOfSaid : Prop := fnExactSliversOfRow.holds Try.pinned (OpenSpec.ofChange fnExactSliversOfSpec)

/-- ITS FALSE NEIGHBOUR: 'it returns false'. Refute it at one input. -/
def fnExactSliversOfWrong : ChangeSpec := { name := "fnExactSliversOf", fn := fun _ => fun
  | [d1, d2] => { results := [.lit (.bool false)], args := [d1, d2] }
  | _ => none }
def FnExactSliversOfWrongFalsely : Prop := fnExactSliversOfRow.holds Try.pinned (OpenSpec.ofChange fnExactSliversOfWrong)

/-- 'laws.FnExactIsClean': WHATEVER THE INPUT: true; the input reads as it did. -/
def fnExactIsCleanSpec : ChangeSpec := { name := "fnExactIsClean", fn := fun _ => fun
  | [d] => { results := [.lit (.bool true)], args := [d] }
  | _ => none }
def fnExactIsCleanRow : OpenClaim := { program := "ytojjkjbffihppaa", sum := "990e4a103c78d9a477576cd509ad86f3b9f11cc00e3b5f89d6949644815ef087", func := "loop.example/g00956/laws.FnExactIsClean", spec := "fnExactIsClean", unfollowed := true, recurses := true, apart := false }
def FnExactIsCleanSaid : Prop := fnExactIsCleanRow.holds Try.pinned (OpenSpec.ofChange fnExactIsCleanSpec)

/-- ITS FALSE NEIGHBOUR: 'it returns false'. Refute it at one input. -/
def fnExactIsCleanWrong : ChangeSpec := { name := "fnExactIsClean", fn := fun _ => fun
  | [d] => { results := [.lit (.bool false)], args := [d] }
  | _ => none }
def FnExactIsCleanWrongFalsely : Prop := fnExactIsCleanRow.holds Try.pinned (OpenSpec.ofChange fnExactIsCleanWrong)

/-- 'laws.FnExactFlitchOf': WHATEVER THE INPUT: true; the input reads as it did. -/
def fnExactFlitchOfSpec : ChangeSpec := { name := "fnExactFlitchOf", fn := fun _ => fun
  | [d1, d2] => { results := [.lit (.bool true)], args := [d1, d2] }
  | _ => none }
def fnExactFlitchOfRow : OpenClaim := { program := "ytojjkjbffihppaa", sum := "990e4a103c78d9a477576cd509ad86f3b9f11cc00e3b5f89d6949644815ef087", func := "loop.example/g00956/laws.FnExactFlitchOf", spec := "fnExactFlitchOf", unfollowed := true, recurses := true, apart := false }
def FnExactFlitchOfSaid : Prop := fnExactFlitchOfRow.holds Try.pinned (OpenSpec.ofChange fnExactFlitchOfSpec)

/-- ITS FALSE NEIGHBOUR: 'it returns false'. Refute it at one input. -/
def fnExactFlitchOfWrong : ChangeSpec := { name := "fnExactFlitchOf", fn := fun _ => fun
  | [d1, d2] => { results := [.lit (.bool false)], args := [d1, d2] }
  | _ => none }
def FnExactFlitchOfWrongFalsely : Prop := fnExactFlitchOfRow.holds Try.pinned (OpenSpec.ofChange fnExactFlitchOfWrong)

/-- 'laws.FnExactJunctionsOf': WHATEVER THE INPUT: true; the input reads as it did. -/
def fnExactJunctionsOfSpec : ChangeSpec := { name := "fnExactJunctionsOf", fn := fun _ => fun
  | [d] => { results := [.lit (.bool true)], args := [d] }
  | _ => none }
def fnExactJunctionsOfRow : OpenClaim := { program := "ytojjkjbffihppaa", sum := "990e4a103c78d9a477576cd509ad86f3b9f11cc00e3b5f89d6949644815ef087", func := "loop.example/g00956/laws.FnExactJunctionsOf", spec := "fnExactJunctionsOf", unfollowed := true, recurses := true, apart := false }
def FnExactJunctionsOfSaid : Prop := fnExactJunctionsOfRow.holds Try.pinned (OpenSpec.ofChange fnExactJunctionsOfSpec)

/-- ITS FALSE NEIGHBOUR: 'it returns false'. Refute it at one input. -/
def fnExactJunctionsOfWrong : ChangeSpec := { name := "fnExactJunctionsOf", fn := fun _ => fun
  | [d] => { results := [.lit (.bool false)], args := [d] }
  | _ => none }
def FnExactJunctionsOfWrongFalsely : Prop := fnExactJunctionsOfRow.holds Try.pinned (OpenSpec.ofChange fnExactJunctionsOfWrong)

/-- 'laws.FnExactValidPicture': WHATEVER THE INPUT: true; the input reads as it did. -/
def fnExactValidPictureSpec : ChangeSpec := { name := "fnExactValidPicture", fn := fun _ => fun
  | [d] => { results := [.lit (.bool true)], args := [d] }
  | _ => none }
def fnExactValidPictureRow : OpenClaim := { program := "ytojjkjbffihppaa", sum := "990e4a103c78d9a477576cd509ad86f3b9f11cc00e3b5f89d6949644815ef087", func := "loop.example/g00956/laws.FnExactValidPicture", spec := "fnExactValidPicture", unfollowed := true, recurses := true, apart := false }
def FnExactValidPictureSaid : Prop := fnExactValidPictureRow.holds Try.pinned (OpenSpec.ofChange fnExactValidPictureSpec)

/-- ITS FALSE NEIGHBOUR: 'it returns false'. Refute it at one input. -/
def fnExactValidPictureWrong : ChangeSpec := { name := "fnExactValidPicture", fn := fun _ => fun
  | [d] => { results := [.lit (.bool false)], args := [d] }
  | _ => none }
def FnExactValidPictureWrongFalsely : Prop := fnExactValidPictureRow.holds Try.pinned (OpenSpec.ofChange fnExactValidPictureWrong)

/-- 'laws.FnExactSnapDrawing': WHATEVER THE INPUT: true; the input reads as it did. -/
def fnExactSnapDrawingSpec : ChangeSpec := { name := "fnExactSnapDrawing", fn := fun _ => fun
  | [d1, d2] => { results := [.lit (.bool true)], args := [d1, d2] }
  | _ => none }
def fnExactSnapDrawingRow : OpenClaim := { program := "ytojjkjbffihppaa", sum := "990e4a103c78d9a477576cd509ad86f3b9f11cc00e3b5f89d6949644815ef087", func := "loop.example/g00956/laws.FnExactSnapDrawing", spec := "fnExactSnapDrawing", apart := false }
def FnExactSnapDrawingSaid : Prop := fnExactSnapDrawingRow.holds Try.pinned (OpenSpec.ofChange fnExactSnapDrawingSpec)

/-- ITS FALSE NEIGHBOUR: 'it returns false'. Refute it at one input. -/
def fnExactSnapDrawingWrong : ChangeSpec := { name := "fnExactSnapDrawing", fn := fun _ => fun
  | [d1, d2] => { results := [.lit (.bool false)], args := [d1, d2] }
  | _ => none }
def FnExactSnapDrawingWrongFalsely : Prop := fnExactSnapDrawingRow.holds Try.pinned (OpenSpec.ofChange fnExactSnapDrawingWrong)

/-- 'laws.FnExactDropUnused': WHATEVER THE INPUT: true; the input reads as it did. -/
def fnExactDropUnusedSpec : ChangeSpec := { name := "fnExactDropUnused", fn := fun _ => fun
  | [d] => { results := [.lit (.bool true)], args := [d] }
  | _ => none }
def fnExactDropUnusedRow : OpenClaim := { program := "ytojjkjbffihppaa", sum := "990e4a103c78d9a477576cd509ad86f3b9f11cc00e3b5f89d6949644815ef087", func := "loop.example/g00956/laws.FnExactDropUnused", spec := "fnExactDropUnused", unfollowed := true, recurses := true, apart := false }
def FnExactDropUnusedSaid : Prop := fnExactDropUnusedRow.holds Try.pinned (OpenSpec.ofChange fnExactDropUnusedSpec)

/-- ITS FALSE NEIGHBOUR: 'it returns false'. Refute it at one input. -/
def fnExactDropUnusedWrong : ChangeSpec := { name := "fnExactDropUnused", fn := fun _ => fun
  | [d] => { results := [.lit (.bool false)], args := [d] }
  | _ => none }
def FnExactDropUnusedWrongFalsely : Prop := fnExactDropUnusedRow.holds Try.pinned (OpenSpec.ofChange fnExactDropUnusedWrong)

/-- 'laws.FnExactMissingNumbers': WHATEVER THE INPUT: true; the input reads as it did. -/
def fnExactMissingNumbersSpec : ChangeSpec := { name := "fnExactMissingNumbers", fn := fun _ => fun
  | [d1, d2] => { results := [.lit (.bool true)], args := [d1, d2] }
  | _ => none }
def fnExactMissingNumbersRow : OpenClaim := { program := "ytojjkjbffihppaa", sum := "990e4a103c78d9a477576cd509ad86f3b9f11cc00e3b5f89d6949644815ef087", func := "loop.example/g00956/laws.FnExactMissingNumbers", spec := "fnExactMissingNumbers", unfollowed := true, recurses := true, apart := false }
def FnExactMissingNumbersSaid : Prop := fnExactMissingNumbersRow.holds Try.pinned (OpenSpec.ofChange fnExactMissingNumbersSpec)

/-- ITS FALSE NEIGHBOUR: 'it returns false'. Refute it at one input. -/
def fnExactMissingNumbersWrong : ChangeSpec := { name := "fnExactMissingNumbers", fn := fun _ => fun
  | [d1, d2] => { results := [.lit (.bool false)], args := [d1, d2] }
  | _ => none }
def FnExactMissingNumbersWrongFalsely : Prop := fnExactMissingNumbersRow.holds Try.pinned (OpenSpec.ofChange fnExactMissingNumbersWrong)

/-- 'laws.FnExactDropStraight': WHATEVER THE INPUT: true; the input reads as it did. -/
def fnExactDropStraightSpec : ChangeSpec := { name := "fnExactDropStraight", fn := fun _ => fun
  | [d] => { results := [.lit (.bool true)], args := [d] }
  | _ => none }
def fnExactDropStraightRow : OpenClaim := { program := "ytojjkjbffihppaa", sum := "990e4a103c78d9a477576cd509ad86f3b9f11cc00e3b5f89d6949644815ef087", func := "loop.example/g00956/laws.FnExactDropStraight", spec := "fnExactDropStraight", apart := false }
def FnExactDropStraightSaid : Prop := fnExactDropStraightRow.holds Try.pinned (OpenSpec.ofChange fnExactDropStraightSpec)

/-- ITS FALSE NEIGHBOUR: 'it returns false'. Refute it at one input. -/
def fnExactDropStraightWrong : ChangeSpec := { name := "fnExactDropStraight", fn := fun _ => fun
  | [d] => { results := [.lit (.bool false)], args := [d] }
  | _ => none }
def FnExactDropStraightWrongFalsely : Prop := fnExactDropStraightRow.holds Try.pinned (OpenSpec.ofChange fnExactDropStraightWrong)

/-- 'laws.FnExactPictureShade': WHATEVER THE INPUT: true; the input reads as it did. -/
def fnExactPictureShadeSpec : ChangeSpec := { name := "fnExactPictureShade", fn := fun _ => fun
  | [d] => { results := [.lit (.bool true)], args := [d] }
  | _ => none }
def fnExactPictureShadeRow : OpenClaim := { program := "ytojjkjbffihppaa", sum := "990e4a103c78d9a477576cd509ad86f3b9f11cc00e3b5f89d6949644815ef087", func := "loop.example/g00956/laws.FnExactPictureShade", spec := "fnExactPictureShade", unfollowed := true, recurses := true, apart := false }
def FnExactPictureShadeSaid : Prop := fnExactPictureShadeRow.holds Try.pinned (OpenSpec.ofChange fnExactPictureShadeSpec)

/-- ITS FALSE NEIGHBOUR: 'it returns false'. Refute it at one input. -/
def fnExactPictureShadeWrong : ChangeSpec := { name := "fnExactPictureShade", fn := fun _ => fun
  | [d] => { results := [.lit (.bool false)], args := [d] }
  | _ => none }
def FnExactPictureShadeWrongFalsely : Prop := fnExactPictureShadeRow.holds Try.pinned (OpenSpec.ofChange fnExactPictureShadeWrong)

/- THE SECOND FORM. 'bulk': how many values and letters a reading holds, each counted each time it is reached (what is shared counts as often as it is met; a slice's spare places count too). A statement '..UptoSaid' is the law's where the arguments, and the package variables that the reading takes, are together of bulk at most 1048576: NARROWER than '..Said'. Prove '..Said' where nothing that the law and all that it calls make is longer than what came in: it says more and counts as full. Else prove '..UptoSaid'. A law counts once. -/
mutual
def uptoBulk {H : Type} : DataW H → Nat
  | .lit (.string bytes) => bytes.length + 1
  | .lit _ => 1
  | .nil => 1
  | .ptr d => uptoBulk d + 1
  | .slice elems spare => uptoBulkAll elems + uptoBulkAll spare + 1
  | .agg parts => uptoBulkAll parts + 1
  | .iface _ d => uptoBulk d + 1
  | .map entries => uptoBulkEntries entries + 1
  | .held _ => 1
def uptoBulkAll {H : Type} : List (DataW H) → Nat
  | [] => 0
  | d :: r => uptoBulk d + uptoBulkAll r
def uptoBulkEntries {H : Type} : List (Lit × DataW H) → Nat
  | [] => 0
  | x :: r => uptoBulkEntry x + uptoBulkEntries r
def uptoBulkEntry {H : Type} : Lit × DataW H → Nat
  | (.string bytes, d) => bytes.length + uptoBulk d + 1
  | (_, d) => uptoBulk d + 1
 end
def uptoSmall : (H : Type) → List (DataW H) → Bool := fun _ ds => decide (uptoBulkAll ds ≤ 1048576)
def OpenSpec.upto (s : _root_.Go.ChangeSpec) : _root_.Go.OpenSpec := { _root_.Go.OpenSpec.ofChange s with cond := some uptoSmall }

/-- 'laws.FnExactDropLeaf', WHERE WHAT IT READS IS OF BULK AT MOST 1048576: true; the input reads as it did. -/
def fnExactDropLeafUptoRow : OpenClaim := { program := "ytojjkjbffihppaa", sum := "990e4a103c78d9a477576cd509ad86f3b9f11cc00e3b5f89d6949644815ef087", func := "loop.example/g00956/laws.FnExactDropLeaf", spec := "fnExactDropLeaf", inPlace := ["internal/bytealg.abigen_runtime_cmpstring"], unfollowed := true, recurses := true, apart := false, narrowed := true }
def FnExactDropLeafUptoSaid : Prop := fnExactDropLeafUptoRow.holds Try.pinned (OpenSpec.upto fnExactDropLeafSpec)

/-- 'laws.FnExactUsedLeaves', WHERE WHAT IT READS IS OF BULK AT MOST 1048576: true; the input reads as it did. -/
def fnExactUsedLeavesUptoRow : OpenClaim := { program := "ytojjkjbffihppaa", sum := "990e4a103c78d9a477576cd509ad86f3b9f11cc00e3b5f89d6949644815ef087", func := "loop.example/g00956/laws.FnExactUsedLeaves", spec := "fnExactUsedLeaves", recurses := true, apart := false, narrowed := true }
def FnExactUsedLeavesUptoSaid : Prop := fnExactUsedLeavesUptoRow.holds Try.pinned (OpenSpec.upto fnExactUsedLeavesSpec)

/-- 'laws.FnExactPairsScore', WHERE WHAT IT READS IS OF BULK AT MOST 1048576: true; the input reads as it did. -/
def fnExactPairsScoreUptoRow : OpenClaim := { program := "ytojjkjbffihppaa", sum := "990e4a103c78d9a477576cd509ad86f3b9f11cc00e3b5f89d6949644815ef087", func := "loop.example/g00956/laws.FnExactPairsScore", spec := "fnExactPairsScore", unfollowed := true, recurses := true, apart := false, narrowed := true }
def FnExactPairsScoreUptoSaid : Prop := fnExactPairsScoreUptoRow.holds Try.pinned (OpenSpec.upto fnExactPairsScoreSpec)

/-- 'laws.FnExactSliversOf', WHERE WHAT IT READS IS OF BULK AT MOST 1048576: true; the input reads as it did. -/
def fnExactSliversOfUptoRow : OpenClaim := { program := "ytojjkjbffihppaa", sum := "990e4a103c78d9a477576cd509ad86f3b9f11cc00e3b5f89d6949644815ef087", func := "loop.example/g00956/laws.FnExactSliversOf", spec := "fnExactSliversOf", apart := false, narrowed := true }
def FnExactSliversOfUptoSaid : Prop := fnExactSliversOfUptoRow.holds Try.pinned (OpenSpec.upto fnExactSliversOfSpec)

/-- 'laws.FnExactIsClean', WHERE WHAT IT READS IS OF BULK AT MOST 1048576: true; the input reads as it did. -/
def fnExactIsCleanUptoRow : OpenClaim := { program := "ytojjkjbffihppaa", sum := "990e4a103c78d9a477576cd509ad86f3b9f11cc00e3b5f89d6949644815ef087", func := "loop.example/g00956/laws.FnExactIsClean", spec := "fnExactIsClean", unfollowed := true, recurses := true, apart := false, narrowed := true }
def FnExactIsCleanUptoSaid : Prop := fnExactIsCleanUptoRow.holds Try.pinned (OpenSpec.upto fnExactIsCleanSpec)

/-- 'laws.FnExactFlitchOf', WHERE WHAT IT READS IS OF BULK AT MOST 1048576: true; the input reads as it did. -/
def fnExactFlitchOfUptoRow : OpenClaim := { program := "ytojjkjbffihppaa", sum := "990e4a103c78d9a477576cd509ad86f3b9f11cc00e3b5f89d6949644815ef087", func := "loop.example/g00956/laws.FnExactFlitchOf", spec := "fnExactFlitchOf", unfollowed := true, recurses := true, apart := false, narrowed := true }
def FnExactFlitchOfUptoSaid : Prop := fnExactFlitchOfUptoRow.holds Try.pinned (OpenSpec.upto fnExactFlitchOfSpec)

/-- 'laws.FnExactJunctionsOf', WHERE WHAT IT READS IS OF BULK AT MOST 1048576: true; the input reads as it did. -/
def fnExactJunctionsOfUptoRow : OpenClaim := { program := "ytojjkjbffihppaa", sum := "990e4a103c78d9a477576cd509ad86f3b9f11cc00e3b5f89d6949644815ef087", func := "loop.example/g00956/laws.FnExactJunctionsOf", spec := "fnExactJunctionsOf", unfollowed := true, recurses := true, apart := false, narrowed := true }
def FnExactJunctionsOfUptoSaid : Prop := fnExactJunctionsOfUptoRow.holds Try.pinned (OpenSpec.upto fnExactJunctionsOfSpec)

/-- 'laws.FnExactValidPicture', WHERE WHAT IT READS IS OF BULK AT MOST 1048576: true; the input reads as it did. -/
def fnExactValidPictureUptoRow : OpenClaim := { program := "ytojjkjbffihppaa", sum := "990e4a103c78d9a477576cd509ad86f3b9f11cc00e3b5f89d6949644815ef087", func := "loop.example/g00956/laws.FnExactValidPicture", spec := "fnExactValidPicture", unfollowed := true, recurses := true, apart := false, narrowed := true }
def FnExactValidPictureUptoSaid : Prop := fnExactValidPictureUptoRow.holds Try.pinned (OpenSpec.upto fnExactValidPictureSpec)

/-- 'laws.FnExactSnapDrawing', WHERE WHAT IT READS IS OF BULK AT MOST 1048576: true; the input reads as it did. -/
def fnExactSnapDrawingUptoRow : OpenClaim := { program := "ytojjkjbffihppaa", sum := "990e4a103c78d9a477576cd509ad86f3b9f11cc00e3b5f89d6949644815ef087", func := "loop.example/g00956/laws.FnExactSnapDrawing", spec := "fnExactSnapDrawing", apart := false, narrowed := true }
def FnExactSnapDrawingUptoSaid : Prop := fnExactSnapDrawingUptoRow.holds Try.pinned (OpenSpec.upto fnExactSnapDrawingSpec)

/-- 'laws.FnExactDropUnused', WHERE WHAT IT READS IS OF BULK AT MOST 1048576: true; the input reads as it did. -/
def fnExactDropUnusedUptoRow : OpenClaim := { program := "ytojjkjbffihppaa", sum := "990e4a103c78d9a477576cd509ad86f3b9f11cc00e3b5f89d6949644815ef087", func := "loop.example/g00956/laws.FnExactDropUnused", spec := "fnExactDropUnused", unfollowed := true, recurses := true, apart := false, narrowed := true }
def FnExactDropUnusedUptoSaid : Prop := fnExactDropUnusedUptoRow.holds Try.pinned (OpenSpec.upto fnExactDropUnusedSpec)

/-- 'laws.FnExactMissingNumbers', WHERE WHAT IT READS IS OF BULK AT MOST 1048576: true; the input reads as it did. -/
def fnExactMissingNumbersUptoRow : OpenClaim := { program := "ytojjkjbffihppaa", sum := "990e4a103c78d9a477576cd509ad86f3b9f11cc00e3b5f89d6949644815ef087", func := "loop.example/g00956/laws.FnExactMissingNumbers", spec := "fnExactMissingNumbers", unfollowed := true, recurses := true, apart := false, narrowed := true }
def FnExactMissingNumbersUptoSaid : Prop := fnExactMissingNumbersUptoRow.holds Try.pinned (OpenSpec.upto fnExactMissingNumbersSpec)

/-- 'laws.FnExactDropStraight', WHERE WHAT IT READS IS OF BULK AT MOST 1048576: true; the input reads as it did. -/
def fnExactDropStraightUptoRow : OpenClaim := { program := "ytojjkjbffihppaa", sum := "990e4a103c78d9a477576cd509ad86f3b9f11cc00e3b5f89d6949644815ef087", func := "loop.example/g00956/laws.FnExactDropStraight", spec := "fnExactDropStraight", apart := false, narrowed := true }
def FnExactDropStraightUptoSaid : Prop := fnExactDropStraightUptoRow.holds Try.pinned (OpenSpec.upto fnExactDropStraightSpec)

/-- 'laws.FnExactPictureShade', WHERE WHAT IT READS IS OF BULK AT MOST 1048576: true; the input reads as it did. -/
def fnExactPictureShadeUptoRow : OpenClaim := { program := "ytojjkjbffihppaa", sum := "990e4a103c78d9a477576cd509ad86f3b9f11cc00e3b5f89d6949644815ef087", func := "loop.example/g00956/laws.FnExactPictureShade", spec := "fnExactPictureShade", unfollowed := true, recurses := true, apart := false, narrowed := true }
def FnExactPictureShadeUptoSaid : Prop := fnExactPictureShadeUptoRow.holds Try.pinned (OpenSpec.upto fnExactPictureShadeSpec)

end Rows
end Go.Proofs.Ytojjkjbffihppaa
