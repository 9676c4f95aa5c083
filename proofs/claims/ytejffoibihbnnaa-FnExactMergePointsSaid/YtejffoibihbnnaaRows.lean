/-
  No cell of these rows narrows 'for every input' (looked for: loops, veiled, ifaces, maps, wideKeys, modest, calm, conditions, laid).
  DERIVED. THE GIVEN ROWS OF THIS SEAT. 12 by the template 'for every input the law returns true; each argument reads behind the call as it read before'; 0 by the template 'total and deterministic' (their statements: YtejffoibihbnnaaTotals.lean).
  GIVEN WITH THE SEED: the statements are not yours to turn. If you find one false, say at which input.
  Laid BY PROGRAM, IN A SANDBOX (cutbox-rows.mjs): the forced cells as the released guide's own fill.sh prints them over the translation b22b4acbffe5ebb8… (all of the seat's roots in one cut). By AI agents, Wed Nov 11 2026. No macro, syntax, notation, axiom, sorry.
-/
import Derived.Test.YtejffoibihbnnaaChecked
import GoSem.Claim
import GoSem.ClaimJoined
import GoSem.ClaimMapViews
import Derived.JoinedTies
import Derived.KernelRfl
namespace Go.Proofs.Ytejffoibihbnnaa
/- THE CELL 'sum', in the pinned program and in every row, IS THE sha256 OF THE DUMP (.gsa) THAT YtejffoibihbnnaaProg.lean LOADS. Nothing in Lean hashes anything: it is a label: what it is worth is what the hold of that sum in a sandbox is worth. -/
noncomputable def Try.pinned : Pinned := { name := "ytejffoibihbnnaa", sum := "b22b4acbffe5ebb87b115591eab83eea10d4065a476f9bcbbcc1dd2dbad3dfd9", checked := Try.checked }
namespace Rows
def none {H : Type} : Left H := { results := [], args := [] }

/-- 'laws.FnExactLargestClear': WHATEVER THE INPUT: true; the input reads as it did. -/
def fnExactLargestClearSpec : ChangeSpec := { name := "fnExactLargestClear", fn := fun _ => fun
  | [d] => { results := [.lit (.bool true)], args := [d] }
  | _ => none }
def fnExactLargestClearRow : OpenClaim := { program := "ytejffoibihbnnaa", sum := "b22b4acbffe5ebb87b115591eab83eea10d4065a476f9bcbbcc1dd2dbad3dfd9", func := "loop.example/g00956/laws.FnExactLargestClear", spec := "fnExactLargestClear", unfollowed := true, recurses := true, apart := false }
def FnExactLargestClearSaid : Prop := fnExactLargestClearRow.holds Try.pinned (OpenSpec.ofChange fnExactLargestClearSpec)

/-- ITS FALSE NEIGHBOUR: 'it returns false'. Refute it at one input. -/
def fnExactLargestClearWrong : ChangeSpec := { name := "fnExactLargestClear", fn := fun _ => fun
  | [d] => { results := [.lit (.bool false)], args := [d] }
  | _ => none }
def FnExactLargestClearWrongFalsely : Prop := fnExactLargestClearRow.holds Try.pinned (OpenSpec.ofChange fnExactLargestClearWrong)

/-- 'laws.FnExactDropStraight': WHATEVER THE INPUT: true; the input reads as it did. -/
def fnExactDropStraightSpec : ChangeSpec := { name := "fnExactDropStraight", fn := fun _ => fun
  | [d] => { results := [.lit (.bool true)], args := [d] }
  | _ => none }
def fnExactDropStraightRow : OpenClaim := { program := "ytejffoibihbnnaa", sum := "b22b4acbffe5ebb87b115591eab83eea10d4065a476f9bcbbcc1dd2dbad3dfd9", func := "loop.example/g00956/laws.FnExactDropStraight", spec := "fnExactDropStraight", apart := false }
def FnExactDropStraightSaid : Prop := fnExactDropStraightRow.holds Try.pinned (OpenSpec.ofChange fnExactDropStraightSpec)

/-- ITS FALSE NEIGHBOUR: 'it returns false'. Refute it at one input. -/
def fnExactDropStraightWrong : ChangeSpec := { name := "fnExactDropStraight", fn := fun _ => fun
  | [d] => { results := [.lit (.bool false)], args := [d] }
  | _ => none }
def FnExactDropStraightWrongFalsely : Prop := fnExactDropStraightRow.holds Try.pinned (OpenSpec.ofChange fnExactDropStraightWrong)

/-- 'laws.FnExactDropLeaf': WHATEVER THE INPUT: true; the input reads as it did. -/
def fnExactDropLeafSpec : ChangeSpec := { name := "fnExactDropLeaf", fn := fun _ => fun
  | [d1, d2] => { results := [.lit (.bool true)], args := [d1, d2] }
  | _ => none }
def fnExactDropLeafRow : OpenClaim := { program := "ytejffoibihbnnaa", sum := "b22b4acbffe5ebb87b115591eab83eea10d4065a476f9bcbbcc1dd2dbad3dfd9", func := "loop.example/g00956/laws.FnExactDropLeaf", spec := "fnExactDropLeaf", inPlace := ["internal/bytealg.abigen_runtime_cmpstring"], unfollowed := true, recurses := true, apart := false }
def FnExactDropLeafSaid : Prop := fnExactDropLeafRow.holds Try.pinned (OpenSpec.ofChange fnExactDropLeafSpec)

/-- ITS FALSE NEIGHBOUR: 'it returns false'. Refute it at one input. -/
def fnExactDropLeafWrong : ChangeSpec := { name := "fnExactDropLeaf", fn := fun _ => fun
  | [d1, d2] => { results := [.lit (.bool false)], args := [d1, d2] }
  | _ => none }
def FnExactDropLeafWrongFalsely : Prop := fnExactDropLeafRow.holds Try.pinned (OpenSpec.ofChange fnExactDropLeafWrong)

/-- 'laws.FnExactAddLeaf': WHATEVER THE INPUT: true; the input reads as it did. -/
def fnExactAddLeafSpec : ChangeSpec := { name := "fnExactAddLeaf", fn := fun _ => fun
  | [d1, d2] => { results := [.lit (.bool true)], args := [d1, d2] }
  | _ => none }
def fnExactAddLeafRow : OpenClaim := { program := "ytejffoibihbnnaa", sum := "b22b4acbffe5ebb87b115591eab83eea10d4065a476f9bcbbcc1dd2dbad3dfd9", func := "loop.example/g00956/laws.FnExactAddLeaf", spec := "fnExactAddLeaf", inPlace := ["internal/bytealg.abigen_runtime_cmpstring", "slices.overlaps[loop.example/g00956/impl.Leaf]"], unfollowed := true, recurses := true, apart := false }
def FnExactAddLeafSaid : Prop := fnExactAddLeafRow.holds Try.pinned (OpenSpec.ofChange fnExactAddLeafSpec)

/-- ITS FALSE NEIGHBOUR: 'it returns false'. Refute it at one input. -/
def fnExactAddLeafWrong : ChangeSpec := { name := "fnExactAddLeaf", fn := fun _ => fun
  | [d1, d2] => { results := [.lit (.bool false)], args := [d1, d2] }
  | _ => none }
def FnExactAddLeafWrongFalsely : Prop := fnExactAddLeafRow.holds Try.pinned (OpenSpec.ofChange fnExactAddLeafWrong)

/-- 'laws.FnExactUsedLeaves': WHATEVER THE INPUT: true; the input reads as it did. -/
def fnExactUsedLeavesSpec : ChangeSpec := { name := "fnExactUsedLeaves", fn := fun _ => fun
  | [d] => { results := [.lit (.bool true)], args := [d] }
  | _ => none }
def fnExactUsedLeavesRow : OpenClaim := { program := "ytejffoibihbnnaa", sum := "b22b4acbffe5ebb87b115591eab83eea10d4065a476f9bcbbcc1dd2dbad3dfd9", func := "loop.example/g00956/laws.FnExactUsedLeaves", spec := "fnExactUsedLeaves", recurses := true, apart := false }
def FnExactUsedLeavesSaid : Prop := fnExactUsedLeavesRow.holds Try.pinned (OpenSpec.ofChange fnExactUsedLeavesSpec)

/-- ITS FALSE NEIGHBOUR: 'it returns false'. Refute it at one input. -/
def fnExactUsedLeavesWrong : ChangeSpec := { name := "fnExactUsedLeaves", fn := fun _ => fun
  | [d] => { results := [.lit (.bool false)], args := [d] }
  | _ => none }
def FnExactUsedLeavesWrongFalsely : Prop := fnExactUsedLeavesRow.holds Try.pinned (OpenSpec.ofChange fnExactUsedLeavesWrong)

/-- 'laws.FnExactInsertJunctions': WHATEVER THE INPUT: true; the input reads as it did. -/
def fnExactInsertJunctionsSpec : ChangeSpec := { name := "fnExactInsertJunctions", fn := fun _ => fun
  | [d] => { results := [.lit (.bool true)], args := [d] }
  | _ => none }
def fnExactInsertJunctionsRow : OpenClaim := { program := "ytejffoibihbnnaa", sum := "b22b4acbffe5ebb87b115591eab83eea10d4065a476f9bcbbcc1dd2dbad3dfd9", func := "loop.example/g00956/laws.FnExactInsertJunctions", spec := "fnExactInsertJunctions", inPlace := ["slices.overlaps[int64]"], unfollowed := true, recurses := true, apart := false }
def FnExactInsertJunctionsSaid : Prop := fnExactInsertJunctionsRow.holds Try.pinned (OpenSpec.ofChange fnExactInsertJunctionsSpec)

/-- ITS FALSE NEIGHBOUR: 'it returns false'. Refute it at one input. -/
def fnExactInsertJunctionsWrong : ChangeSpec := { name := "fnExactInsertJunctions", fn := fun _ => fun
  | [d] => { results := [.lit (.bool false)], args := [d] }
  | _ => none }
def FnExactInsertJunctionsWrongFalsely : Prop := fnExactInsertJunctionsRow.holds Try.pinned (OpenSpec.ofChange fnExactInsertJunctionsWrong)

/-- 'laws.FnExactMergePoints': WHATEVER THE INPUT: true; the input reads as it did. -/
def fnExactMergePointsSpec : ChangeSpec := { name := "fnExactMergePoints", fn := fun _ => fun
  | [d1, d2] => { results := [.lit (.bool true)], args := [d1, d2] }
  | _ => none }
def fnExactMergePointsRow : OpenClaim := { program := "ytejffoibihbnnaa", sum := "b22b4acbffe5ebb87b115591eab83eea10d4065a476f9bcbbcc1dd2dbad3dfd9", func := "loop.example/g00956/laws.FnExactMergePoints", spec := "fnExactMergePoints", unfollowed := true, recurses := true, apart := false }
def FnExactMergePointsSaid : Prop := fnExactMergePointsRow.holds Try.pinned (OpenSpec.ofChange fnExactMergePointsSpec)

/-- ITS FALSE NEIGHBOUR: 'it returns false'. Refute it at one input. -/
def fnExactMergePointsWrong : ChangeSpec := { name := "fnExactMergePoints", fn := fun _ => fun
  | [d1, d2] => { results := [.lit (.bool false)], args := [d1, d2] }
  | _ => none }
def FnExactMergePointsWrongFalsely : Prop := fnExactMergePointsRow.holds Try.pinned (OpenSpec.ofChange fnExactMergePointsWrong)

/-- 'laws.FnExactJoinFaces': WHATEVER THE INPUT: true; the input reads as it did. -/
def fnExactJoinFacesSpec : ChangeSpec := { name := "fnExactJoinFaces", fn := fun _ => fun
  | [d1, d2, d3] => { results := [.lit (.bool true)], args := [d1, d2, d3] }
  | _ => none }
def fnExactJoinFacesRow : OpenClaim := { program := "ytejffoibihbnnaa", sum := "b22b4acbffe5ebb87b115591eab83eea10d4065a476f9bcbbcc1dd2dbad3dfd9", func := "loop.example/g00956/laws.FnExactJoinFaces", spec := "fnExactJoinFaces", unfollowed := true, recurses := true, apart := false }
def FnExactJoinFacesSaid : Prop := fnExactJoinFacesRow.holds Try.pinned (OpenSpec.ofChange fnExactJoinFacesSpec)

/-- ITS FALSE NEIGHBOUR: 'it returns false'. Refute it at one input. -/
def fnExactJoinFacesWrong : ChangeSpec := { name := "fnExactJoinFaces", fn := fun _ => fun
  | [d1, d2, d3] => { results := [.lit (.bool false)], args := [d1, d2, d3] }
  | _ => none }
def FnExactJoinFacesWrongFalsely : Prop := fnExactJoinFacesRow.holds Try.pinned (OpenSpec.ofChange fnExactJoinFacesWrong)

/-- 'laws.FnExactGreedyPairs': WHATEVER THE INPUT: true; the input reads as it did. -/
def fnExactGreedyPairsSpec : ChangeSpec := { name := "fnExactGreedyPairs", fn := fun _ => fun
  | [d1, d2] => { results := [.lit (.bool true)], args := [d1, d2] }
  | _ => none }
def fnExactGreedyPairsRow : OpenClaim := { program := "ytejffoibihbnnaa", sum := "b22b4acbffe5ebb87b115591eab83eea10d4065a476f9bcbbcc1dd2dbad3dfd9", func := "loop.example/g00956/laws.FnExactGreedyPairs", spec := "fnExactGreedyPairs", unfollowed := true, recurses := true, apart := false }
def FnExactGreedyPairsSaid : Prop := fnExactGreedyPairsRow.holds Try.pinned (OpenSpec.ofChange fnExactGreedyPairsSpec)

/-- ITS FALSE NEIGHBOUR: 'it returns false'. Refute it at one input. -/
def fnExactGreedyPairsWrong : ChangeSpec := { name := "fnExactGreedyPairs", fn := fun _ => fun
  | [d1, d2] => { results := [.lit (.bool false)], args := [d1, d2] }
  | _ => none }
def FnExactGreedyPairsWrongFalsely : Prop := fnExactGreedyPairsRow.holds Try.pinned (OpenSpec.ofChange fnExactGreedyPairsWrong)

/-- 'laws.FnExactLeafFault': WHATEVER THE INPUT: true; the input reads as it did. -/
def fnExactLeafFaultSpec : ChangeSpec := { name := "fnExactLeafFault", fn := fun _ => fun
  | [d1, d2, d3] => { results := [.lit (.bool true)], args := [d1, d2, d3] }
  | _ => none }
def fnExactLeafFaultRow : OpenClaim := { program := "ytejffoibihbnnaa", sum := "b22b4acbffe5ebb87b115591eab83eea10d4065a476f9bcbbcc1dd2dbad3dfd9", func := "loop.example/g00956/laws.FnExactLeafFault", spec := "fnExactLeafFault", unfollowed := true, recurses := true, apart := false }
def FnExactLeafFaultSaid : Prop := fnExactLeafFaultRow.holds Try.pinned (OpenSpec.ofChange fnExactLeafFaultSpec)

/-- ITS FALSE NEIGHBOUR: 'it returns false'. Refute it at one input. -/
def fnExactLeafFaultWrong : ChangeSpec := { name := "fnExactLeafFault", fn := fun _ => fun
  | [d1, d2, d3] => { results := [.lit (.bool false)], args := [d1, d2, d3] }
  | _ => none }
def FnExactLeafFaultWrongFalsely : Prop := fnExactLeafFaultRow.holds Try.pinned (OpenSpec.ofChange fnExactLeafFaultWrong)

/-- 'laws.FnExactUsableArea': WHATEVER THE INPUT: true; the input reads as it did. -/
def fnExactUsableAreaSpec : ChangeSpec := { name := "fnExactUsableArea", fn := fun _ => fun
  | [d] => { results := [.lit (.bool true)], args := [d] }
  | _ => none }
def fnExactUsableAreaRow : OpenClaim := { program := "ytejffoibihbnnaa", sum := "b22b4acbffe5ebb87b115591eab83eea10d4065a476f9bcbbcc1dd2dbad3dfd9", func := "loop.example/g00956/laws.FnExactUsableArea", spec := "fnExactUsableArea", unfollowed := true, recurses := true, apart := false }
def FnExactUsableAreaSaid : Prop := fnExactUsableAreaRow.holds Try.pinned (OpenSpec.ofChange fnExactUsableAreaSpec)

/-- ITS FALSE NEIGHBOUR: 'it returns false'. Refute it at one input. -/
def fnExactUsableAreaWrong : ChangeSpec := { name := "fnExactUsableArea", fn := fun _ => fun
  | [d] => { results := [.lit (.bool false)], args := [d] }
  | _ => none }
def FnExactUsableAreaWrongFalsely : Prop := fnExactUsableAreaRow.holds Try.pinned (OpenSpec.ofChange fnExactUsableAreaWrong)

/-- 'laws.FnExactIsColoring': WHATEVER THE INPUT: true; the input reads as it did. -/
def fnExactIsColoringSpec : ChangeSpec := { name := "fnExactIsColoring", fn := fun _ => fun
  | [d1, d2, d3, d4] => { results := [.lit (.bool true)], args := [d1, d2, d3, d4] }
  | _ => none }
def fnExactIsColoringRow : OpenClaim := { program := "ytejffoibihbnnaa", sum := "b22b4acbffe5ebb87b115591eab83eea10d4065a476f9bcbbcc1dd2dbad3dfd9", func := "loop.example/g00956/laws.FnExactIsColoring", spec := "fnExactIsColoring", unfollowed := true, recurses := true, apart := false }
def FnExactIsColoringSaid : Prop := fnExactIsColoringRow.holds Try.pinned (OpenSpec.ofChange fnExactIsColoringSpec)

/-- ITS FALSE NEIGHBOUR: 'it returns false'. Refute it at one input. -/
def fnExactIsColoringWrong : ChangeSpec := { name := "fnExactIsColoring", fn := fun _ => fun
  | [d1, d2, d3, d4] => { results := [.lit (.bool false)], args := [d1, d2, d3, d4] }
  | _ => none }
def FnExactIsColoringWrongFalsely : Prop := fnExactIsColoringRow.holds Try.pinned (OpenSpec.ofChange fnExactIsColoringWrong)

/- THE SECOND FORM. 'bulk': how many values and letters a reading holds, each counted each time it is reached (what is shared counts as often as it is met; a slice's spare places count too). A statement '..UptoSaid' is the law's where the arguments, and the package variables that the reading takes, are together of bulk at most 1048576: NARROWER than '..Said'. Prove '..Said' where nothing that the law and all that it calls make is longer than what came in: it says more and counts as full. Else prove '..UptoSaid'. A law counts once. -/
mutual
def uptoBulk {H : Type} : DataW H → Nat
  | .lit (.string bytes) => bytes.length + 1
  | .lit _ => 1
  | .nil => 1
  | .ptr d => uptoBulk d + 1
  | .slice elems spare => uptoBulkAll elems + uptoBulkAll spare + 1
  | .agg parts => uptoBulkAll parts + 1
  | .iface _ d => uptoBulk d + 1
  | .map entries => uptoBulkEntries entries + 1
  | .held _ => 1
def uptoBulkAll {H : Type} : List (DataW H) → Nat
  | [] => 0
  | d :: r => uptoBulk d + uptoBulkAll r
def uptoBulkEntries {H : Type} : List (Lit × DataW H) → Nat
  | [] => 0
  | x :: r => uptoBulkEntry x + uptoBulkEntries r
def uptoBulkEntry {H : Type} : Lit × DataW H → Nat
  | (.string bytes, d) => bytes.length + uptoBulk d + 1
  | (_, d) => uptoBulk d + 1
 end
def uptoSmall : (H : Type) → List (DataW H) → Bool := fun _ ds => decide (uptoBulkAll ds ≤ 1048576)
def OpenSpec.upto (s : _root_.Go.ChangeSpec) : _root_.Go.OpenSpec := { _root_.Go.OpenSpec.ofChange s with cond := some uptoSmall }

/-- 'laws.FnExactLargestClear', WHERE WHAT IT READS IS OF BULK AT MOST 1048576: true; the input reads as it did. -/
def fnExactLargestClearUptoRow : OpenClaim := { program := "ytejffoibihbnnaa", sum := "b22b4acbffe5ebb87b115591eab83eea10d4065a476f9bcbbcc1dd2dbad3dfd9", func := "loop.example/g00956/laws.FnExactLargestClear", spec := "fnExactLargestClear", unfollowed := true, recurses := true, apart := false, narrowed := true }
def FnExactLargestClearUptoSaid : Prop := fnExactLargestClearUptoRow.holds Try.pinned (OpenSpec.upto fnExactLargestClearSpec)

/-- 'laws.FnExactDropStraight', WHERE WHAT IT READS IS OF BULK AT MOST 1048576: true; the input reads as it did. -/
def fnExactDropStraightUptoRow : OpenClaim := { program := "ytejffoibihbnnaa", sum := "b22b4acbffe5ebb87b115591eab83eea10d4065a476f9bcbbcc1dd2dbad3dfd9", func := "loop.example/g00956/laws.FnExactDropStraight", spec := "fnExactDropStraight", apart := false, narrowed := true }
def FnExactDropStraightUptoSaid : Prop := fnExactDropStraightUptoRow.holds Try.pinned (OpenSpec.upto fnExactDropStraightSpec)

/-- 'laws.FnExactDropLeaf', WHERE WHAT IT READS IS OF BULK AT MOST 1048576: true; the input reads as it did. -/
def fnExactDropLeafUptoRow : OpenClaim := { program := "ytejffoibihbnnaa", sum := "b22b4acbffe5ebb87b115591eab83eea10d4065a476f9bcbbcc1dd2dbad3dfd9", func := "loop.example/g00956/laws.FnExactDropLeaf", spec := "fnExactDropLeaf", inPlace := ["internal/bytealg.abigen_runtime_cmpstring"], unfollowed := true, recurses := true, apart := false, narrowed := true }
def FnExactDropLeafUptoSaid : Prop := fnExactDropLeafUptoRow.holds Try.pinned (OpenSpec.upto fnExactDropLeafSpec)

/-- 'laws.FnExactAddLeaf', WHERE WHAT IT READS IS OF BULK AT MOST 1048576: true; the input reads as it did. -/
def fnExactAddLeafUptoRow : OpenClaim := { program := "ytejffoibihbnnaa", sum := "b22b4acbffe5ebb87b115591eab83eea10d4065a476f9bcbbcc1dd2dbad3dfd9", func := "loop.example/g00956/laws.FnExactAddLeaf", spec := "fnExactAddLeaf", inPlace := ["internal/bytealg.abigen_runtime_cmpstring", "slices.overlaps[loop.example/g00956/impl.Leaf]"], unfollowed := true, recurses := true, apart := false, narrowed := true }
def FnExactAddLeafUptoSaid : Prop := fnExactAddLeafUptoRow.holds Try.pinned (OpenSpec.upto fnExactAddLeafSpec)

/-- 'laws.FnExactUsedLeaves', WHERE WHAT IT READS IS OF BULK AT MOST 1048576: true; the input reads as it did. -/
def fnExactUsedLeavesUptoRow : OpenClaim := { program := "ytejffoibihbnnaa", sum := "b22b4acbffe5ebb87b115591eab83eea10d4065a476f9bcbbcc1dd2dbad3dfd9", func := "loop.example/g00956/laws.FnExactUsedLeaves", spec := "fnExactUsedLeaves", recurses := true, apart := false, narrowed := true }
def FnExactUsedLeavesUptoSaid : Prop := fnExactUsedLeavesUptoRow.holds Try.pinned (OpenSpec.upto fnExactUsedLeavesSpec)

/-- 'laws.FnExactInsertJunctions', WHERE WHAT IT READS IS OF BULK AT MOST 1048576: true; the input reads as it did. -/
def fnExactInsertJunctionsUptoRow : OpenClaim := { program := "ytejffoibihbnnaa", sum := "b22b4acbffe5ebb87b115591eab83eea10d4065a476f9bcbbcc1dd2dbad3dfd9", func := "loop.example/g00956/laws.FnExactInsertJunctions", spec := "fnExactInsertJunctions", inPlace := ["slices.overlaps[int64]"], unfollowed := true, recurses := true, apart := false, narrowed := true }
def FnExactInsertJunctionsUptoSaid : Prop := fnExactInsertJunctionsUptoRow.holds Try.pinned (OpenSpec.upto fnExactInsertJunctionsSpec)

/-- 'laws.FnExactMergePoints', WHERE WHAT IT READS IS OF BULK AT MOST 1048576: true; the input reads as it did. -/
def fnExactMergePointsUptoRow : OpenClaim := { program := "ytejffoibihbnnaa", sum := "b22b4acbffe5ebb87b115591eab83eea10d4065a476f9bcbbcc1dd2dbad3dfd9", func := "loop.example/g00956/laws.FnExactMergePoints", spec := "fnExactMergePoints", unfollowed := true, recurses := true, apart := false, narrowed := true }
def FnExactMergePointsUptoSaid : Prop := fnExactMergePointsUptoRow.holds Try.pinned (OpenSpec.upto fnExactMergePointsSpec)

/-- 'laws.FnExactJoinFaces', WHERE WHAT IT READS IS OF BULK AT MOST 1048576: true; the input reads as it did. -/
def fnExactJoinFacesUptoRow : OpenClaim := { program := "ytejffoibihbnnaa", sum := "b22b4acbffe5ebb87b115591eab83eea10d4065a476f9bcbbcc1dd2dbad3dfd9", func := "loop.example/g00956/laws.FnExactJoinFaces", spec := "fnExactJoinFaces", unfollowed := true, recurses := true, apart := false, narrowed := true }
def FnExactJoinFacesUptoSaid : Prop := fnExactJoinFacesUptoRow.holds Try.pinned (OpenSpec.upto fnExactJoinFacesSpec)

/-- 'laws.FnExactGreedyPairs', WHERE WHAT IT READS IS OF BULK AT MOST 1048576: true; the input reads as it did. -/
def fnExactGreedyPairsUptoRow : OpenClaim := { program := "ytejffoibihbnnaa", sum := "b22b4acbffe5ebb87b115591eab83eea10d4065a476f9bcbbcc1dd2dbad3dfd9", func := "loop.example/g00956/laws.FnExactGreedyPairs", spec := "fnExactGreedyPairs", unfollowed := true, recurses := true, apart := false, narrowed := true }
def FnExactGreedyPairsUptoSaid : Prop := fnExactGreedyPairsUptoRow.holds Try.pinned (OpenSpec.upto fnExactGreedyPairsSpec)

/-- 'laws.FnExactLeafFault', WHERE WHAT IT READS IS OF BULK AT MOST 1048576: true; the input reads as it did. -/
def fnExactLeafFaultUptoRow : OpenClaim := { program := "ytejffoibihbnnaa", sum := "b22b4acbffe5ebb87b115591eab83eea10d4065a476f9bcbbcc1dd2dbad3dfd9", func := "loop.example/g00956/laws.FnExactLeafFault", spec := "fnExactLeafFault", unfollowed := true, recurses := true, apart := false, narrowed := true }
def FnExactLeafFaultUptoSaid : Prop := fnExactLeafFaultUptoRow.holds Try.pinned (OpenSpec.upto fnExactLeafFaultSpec)

/-- 'laws.FnExactUsableArea', WHERE WHAT IT READS IS OF BULK AT MOST 1048576: true; the input reads as it did. -/
def fnExactUsableAreaUptoRow : OpenClaim := { program := "ytejffoibihbnnaa", sum := "b22b4acbffe5ebb87b115591eab83eea10d4065a476f9bcbbcc1dd2dbad3dfd9", func := "loop.example/g00956/laws.FnExactUsableArea", spec := "fnExactUsableArea", unfollowed := true, recurses := true, apart := false, narrowed := true }
def FnExactUsableAreaUptoSaid : Prop := fnExactUsableAreaUptoRow.holds Try.pinned (OpenSpec.upto fnExactUsableAreaSpec)

/-- 'laws.FnExactIsColoring', WHERE WHAT IT READS IS OF BULK AT MOST 1048576: true; the input reads as it did. -/
def fnExactIsColoringUptoRow : OpenClaim := { program := "ytejffoibihbnnaa", sum := "b22b4acbffe5ebb87b115591eab83eea10d4065a476f9bcbbcc1dd2dbad3dfd9", func := "loop.example/g00956/laws.FnExactIsColoring", spec := "fnExactIsColoring", unfollowed := true, recurses := true, apart := false, narrowed := true }
def FnExactIsColoringUptoSaid : Prop := fnExactIsColoringUptoRow.holds Try.pinned (OpenSpec.upto fnExactIsColoringSpec)

end Rows
end Go.Proofs.Ytejffoibihbnnaa
