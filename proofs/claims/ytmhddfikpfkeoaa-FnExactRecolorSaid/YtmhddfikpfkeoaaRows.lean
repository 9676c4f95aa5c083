/-
  No cell of these rows narrows 'for every input' (looked for: loops, veiled, ifaces, maps, wideKeys, modest, calm, conditions, laid).
  DERIVED. THE GIVEN ROWS OF THIS SEAT. 8 by the template 'for every input the law returns true; each argument reads behind the call as it read before'; 0 by the template 'total and deterministic' (their statements: YtmhddfikpfkeoaaTotals.lean).
  GIVEN WITH THE SEED: the statements are not yours to turn. If you find one false, say at which input.
  Laid BY PROGRAM, IN A SANDBOX (cutbox-rows.mjs): the forced cells as the released guide's own fill.sh prints them over the translation 42413b7204b0aa18… (all of the seat's roots in one cut). By AI agents, Wed Nov 11 2026. No macro, syntax, notation, axiom, sorry.
-/
import Derived.Test.YtmhddfikpfkeoaaChecked
import GoSem.Claim
import GoSem.ClaimJoined
import GoSem.ClaimMapViews
import Derived.JoinedTies
import Derived.KernelRfl
namespace Go.Proofs.Ytmhddfikpfkeoaa
/- THE CELL 'sum', in the pinned program and in every row, IS THE sha256 OF THE DUMP (.gsa) THAT YtmhddfikpfkeoaaProg.lean LOADS. Nothing in Lean hashes anything: it is a label: what it is worth is what the hold of that sum in a sandbox is worth. -/
noncomputable def Try.pinned : Pinned := { name := "ytmhddfikpfkeoaa", sum := "42413b7204b0aa182c156270f4ff97ceecb46b43c630ab38e86477f0424384ff", checked := Try.checked }
namespace Rows
def none {H : Type} : Left H := { results := [], args := [] }

/-- 'laws.FnExactLongestRun': WHATEVER THE INPUT: true; the input reads as it did. -/
def fnExactLongestRunSpec : ChangeSpec := { name := "fnExactLongestRun", fn := fun _ => fun
  | [d1, d2] => { results := [.lit (.bool true)], args := [d1, d2] }
  | _ => none }
def fnExactLongestRunRow : OpenClaim := { program := "ytmhddfikpfkeoaa", sum := "42413b7204b0aa182c156270f4ff97ceecb46b43c630ab38e86477f0424384ff", func := "loop.example/g00956/laws.FnExactLongestRun", spec := "fnExactLongestRun", unfollowed := true, recurses := true, apart := false }
def FnExactLongestRunSaid : Prop := fnExactLongestRunRow.holds Try.pinned (OpenSpec.ofChange fnExactLongestRunSpec)

/-- ITS FALSE NEIGHBOUR: 'it returns false'. Refute it at one input. -/
def fnExactLongestRunWrong : ChangeSpec := { name := "fnExactLongestRun", fn := fun _ => fun
  | [d1, d2] => { results := [.lit (.bool false)], args := [d1, d2] }
  | _ => none }
def FnExactLongestRunWrongFalsely : Prop := fnExactLongestRunRow.holds Try.pinned (OpenSpec.ofChange fnExactLongestRunWrong)

/-- 'laws.FnExactBookPairs': WHATEVER THE INPUT: true; the input reads as it did. -/
def fnExactBookPairsSpec : ChangeSpec := { name := "fnExactBookPairs", fn := fun _ => fun
  | [d1, d2] => { results := [.lit (.bool true)], args := [d1, d2] }
  | _ => none }
def fnExactBookPairsRow : OpenClaim := { program := "ytmhddfikpfkeoaa", sum := "42413b7204b0aa182c156270f4ff97ceecb46b43c630ab38e86477f0424384ff", func := "loop.example/g00956/laws.FnExactBookPairs", spec := "fnExactBookPairs", unfollowed := true, recurses := true, apart := false }
def FnExactBookPairsSaid : Prop := fnExactBookPairsRow.holds Try.pinned (OpenSpec.ofChange fnExactBookPairsSpec)

/-- ITS FALSE NEIGHBOUR: 'it returns false'. Refute it at one input. -/
def fnExactBookPairsWrong : ChangeSpec := { name := "fnExactBookPairs", fn := fun _ => fun
  | [d1, d2] => { results := [.lit (.bool false)], args := [d1, d2] }
  | _ => none }
def FnExactBookPairsWrongFalsely : Prop := fnExactBookPairsRow.holds Try.pinned (OpenSpec.ofChange fnExactBookPairsWrong)

/-- 'laws.FnExactWeakestPair': WHATEVER THE INPUT: true; the input reads as it did. -/
def fnExactWeakestPairSpec : ChangeSpec := { name := "fnExactWeakestPair", fn := fun _ => fun
  | [d] => { results := [.lit (.bool true)], args := [d] }
  | _ => none }
def fnExactWeakestPairRow : OpenClaim := { program := "ytmhddfikpfkeoaa", sum := "42413b7204b0aa182c156270f4ff97ceecb46b43c630ab38e86477f0424384ff", func := "loop.example/g00956/laws.FnExactWeakestPair", spec := "fnExactWeakestPair", unfollowed := true, recurses := true, apart := false }
def FnExactWeakestPairSaid : Prop := fnExactWeakestPairRow.holds Try.pinned (OpenSpec.ofChange fnExactWeakestPairSpec)

/-- ITS FALSE NEIGHBOUR: 'it returns false'. Refute it at one input. -/
def fnExactWeakestPairWrong : ChangeSpec := { name := "fnExactWeakestPair", fn := fun _ => fun
  | [d] => { results := [.lit (.bool false)], args := [d] }
  | _ => none }
def FnExactWeakestPairWrongFalsely : Prop := fnExactWeakestPairRow.holds Try.pinned (OpenSpec.ofChange fnExactWeakestPairWrong)

/-- 'laws.FnExactRecolor': WHATEVER THE INPUT: true; the input reads as it did. -/
def fnExactRecolorSpec : ChangeSpec := { name := "fnExactRecolor", fn := fun _ => fun
  | [d1, d2, d3] => { results := [.lit (.bool true)], args := [d1, d2, d3] }
  | _ => none }
def fnExactRecolorRow : OpenClaim := { program := "ytmhddfikpfkeoaa", sum := "42413b7204b0aa182c156270f4ff97ceecb46b43c630ab38e86477f0424384ff", func := "loop.example/g00956/laws.FnExactRecolor", spec := "fnExactRecolor", unfollowed := true, recurses := true, apart := false }
def FnExactRecolorSaid : Prop := fnExactRecolorRow.holds Try.pinned (OpenSpec.ofChange fnExactRecolorSpec)

/-- ITS FALSE NEIGHBOUR: 'it returns false'. Refute it at one input. -/
def fnExactRecolorWrong : ChangeSpec := { name := "fnExactRecolor", fn := fun _ => fun
  | [d1, d2, d3] => { results := [.lit (.bool false)], args := [d1, d2, d3] }
  | _ => none }
def FnExactRecolorWrongFalsely : Prop := fnExactRecolorRow.holds Try.pinned (OpenSpec.ofChange fnExactRecolorWrong)

/-- 'laws.FnExactLargestClear': WHATEVER THE INPUT: true; the input reads as it did. -/
def fnExactLargestClearSpec : ChangeSpec := { name := "fnExactLargestClear", fn := fun _ => fun
  | [d] => { results := [.lit (.bool true)], args := [d] }
  | _ => none }
def fnExactLargestClearRow : OpenClaim := { program := "ytmhddfikpfkeoaa", sum := "42413b7204b0aa182c156270f4ff97ceecb46b43c630ab38e86477f0424384ff", func := "loop.example/g00956/laws.FnExactLargestClear", spec := "fnExactLargestClear", unfollowed := true, recurses := true, apart := false }
def FnExactLargestClearSaid : Prop := fnExactLargestClearRow.holds Try.pinned (OpenSpec.ofChange fnExactLargestClearSpec)

/-- ITS FALSE NEIGHBOUR: 'it returns false'. Refute it at one input. -/
def fnExactLargestClearWrong : ChangeSpec := { name := "fnExactLargestClear", fn := fun _ => fun
  | [d] => { results := [.lit (.bool false)], args := [d] }
  | _ => none }
def FnExactLargestClearWrongFalsely : Prop := fnExactLargestClearRow.holds Try.pinned (OpenSpec.ofChange fnExactLargestClearWrong)

/-- 'laws.FnExactGreedyPairs': WHATEVER THE INPUT: true; the input reads as it did. -/
def fnExactGreedyPairsSpec : ChangeSpec := { name := "fnExactGreedyPairs", fn := fun _ => fun
  | [d1, d2] => { results := [.lit (.bool true)], args := [d1, d2] }
  | _ => none }
def fnExactGreedyPairsRow : OpenClaim := { program := "ytmhddfikpfkeoaa", sum := "42413b7204b0aa182c156270f4ff97ceecb46b43c630ab38e86477f0424384ff", func := "loop.example/g00956/laws.FnExactGreedyPairs", spec := "fnExactGreedyPairs", unfollowed := true, recurses := true, apart := false }
def FnExactGreedyPairsSaid : Prop := fnExactGreedyPairsRow.holds Try.pinned (OpenSpec.ofChange fnExactGreedyPairsSpec)

/-- ITS FALSE NEIGHBOUR: 'it returns false'. Refute it at one input. -/
def fnExactGreedyPairsWrong : ChangeSpec := { name := "fnExactGreedyPairs", fn := fun _ => fun
  | [d1, d2] => { results := [.lit (.bool false)], args := [d1, d2] }
  | _ => none }
def FnExactGreedyPairsWrongFalsely : Prop := fnExactGreedyPairsRow.holds Try.pinned (OpenSpec.ofChange fnExactGreedyPairsWrong)

/-- 'laws.FnExactLeafFault': WHATEVER THE INPUT: true; the input reads as it did. -/
def fnExactLeafFaultSpec : ChangeSpec := { name := "fnExactLeafFault", fn := fun _ => fun
  | [d1, d2, d3] => { results := [.lit (.bool true)], args := [d1, d2, d3] }
  | _ => none }
def fnExactLeafFaultRow : OpenClaim := { program := "ytmhddfikpfkeoaa", sum := "42413b7204b0aa182c156270f4ff97ceecb46b43c630ab38e86477f0424384ff", func := "loop.example/g00956/laws.FnExactLeafFault", spec := "fnExactLeafFault", unfollowed := true, recurses := true, apart := false }
def FnExactLeafFaultSaid : Prop := fnExactLeafFaultRow.holds Try.pinned (OpenSpec.ofChange fnExactLeafFaultSpec)

/-- ITS FALSE NEIGHBOUR: 'it returns false'. Refute it at one input. -/
def fnExactLeafFaultWrong : ChangeSpec := { name := "fnExactLeafFault", fn := fun _ => fun
  | [d1, d2, d3] => { results := [.lit (.bool false)], args := [d1, d2, d3] }
  | _ => none }
def FnExactLeafFaultWrongFalsely : Prop := fnExactLeafFaultRow.holds Try.pinned (OpenSpec.ofChange fnExactLeafFaultWrong)

/-- 'laws.FnExactMergePoints': WHATEVER THE INPUT: true; the input reads as it did. -/
def fnExactMergePointsSpec : ChangeSpec := { name := "fnExactMergePoints", fn := fun _ => fun
  | [d1, d2] => { results := [.lit (.bool true)], args := [d1, d2] }
  | _ => none }
def fnExactMergePointsRow : OpenClaim := { program := "ytmhddfikpfkeoaa", sum := "42413b7204b0aa182c156270f4ff97ceecb46b43c630ab38e86477f0424384ff", func := "loop.example/g00956/laws.FnExactMergePoints", spec := "fnExactMergePoints", unfollowed := true, recurses := true, apart := false }
def FnExactMergePointsSaid : Prop := fnExactMergePointsRow.holds Try.pinned (OpenSpec.ofChange fnExactMergePointsSpec)

/-- ITS FALSE NEIGHBOUR: 'it returns false'. Refute it at one input. -/
def fnExactMergePointsWrong : ChangeSpec := { name := "fnExactMergePoints", fn := fun _ => fun
  | [d1, d2] => { results := [.lit (.bool false)], args := [d1, d2] }
  | _ => none }
def FnExactMergePointsWrongFalsely : Prop := fnExactMergePointsRow.holds Try.pinned (OpenSpec.ofChange fnExactMergePointsWrong)

/- THE SECOND FORM. 'bulk': how many values and letters a reading holds, each counted each time it is reached (what is shared counts as often as it is met; a slice's spare places count too). A statement '..UptoSaid' is the law's where the arguments, and the package variables that the reading takes, are together of bulk at most 1048576: NARROWER than '..Said'. Prove '..Said' where nothing that the law and all that it calls make is longer than what came in: it says more and counts as full. Else prove '..UptoSaid'. A law counts once. -/
mutual
def uptoBulk {H : Type} : DataW H → Nat
  | .lit (.string bytes) => bytes.length + 1
  | .lit _ => 1
  | .nil => 1
  | .ptr d => uptoBulk d + 1
  | .slice elems spare => uptoBulkAll elems + uptoBulkAll spare + 1
  | .agg parts => uptoBulkAll parts + 1
  | .iface _ d => uptoBulk d + 1
  | .map entries => uptoBulkEntries entries + 1
  | .held _ => 1
def uptoBulkAll {H : Type} : List (DataW H) → Nat
  | [] => 0
  | d :: r => uptoBulk d + uptoBulkAll r
def uptoBulkEntries {H : Type} : List (Lit × DataW H) → Nat
  | [] => 0
  | x :: r => uptoBulkEntry x + uptoBulkEntries r
def uptoBulkEntry {H : Type} : Lit × DataW H → Nat
  | (.string bytes, d) => bytes.length + uptoBulk d + 1
  | (_, d) => uptoBulk d + 1
 end
def uptoSmall : (H : Type) → List (DataW H) → Bool := fun _ ds => decide (uptoBulkAll ds ≤ 1048576)
def OpenSpec.upto (s : _root_.Go.ChangeSpec) : _root_.Go.OpenSpec := { _root_.Go.OpenSpec.ofChange s with cond := some uptoSmall }

/-- 'laws.FnExactLongestRun', WHERE WHAT IT READS IS OF BULK AT MOST 1048576: true; the input reads as it did. -/
def fnExactLongestRunUptoRow : OpenClaim := { program := "ytmhddfikpfkeoaa", sum := "42413b7204b0aa182c156270f4ff97ceecb46b43c630ab38e86477f0424384ff", func := "loop.example/g00956/laws.FnExactLongestRun", spec := "fnExactLongestRun", unfollowed := true, recurses := true, apart := false, narrowed := true }
def FnExactLongestRunUptoSaid : Prop := fnExactLongestRunUptoRow.holds Try.pinned (OpenSpec.upto fnExactLongestRunSpec)

/-- 'laws.FnExactBookPairs', WHERE WHAT IT READS IS OF BULK AT MOST 1048576: true; the input reads as it did. -/
def fnExactBookPairsUptoRow : OpenClaim := { program := "ytmhddfikpfkeoaa", sum := "42413b7204b0aa182c156270f4ff97ceecb46b43c630ab38e86477f0424384ff", func := "loop.example/g00956/laws.FnExactBookPairs", spec := "fnExactBookPairs", unfollowed := true, recurses := true, apart := false, narrowed := true }
def FnExactBookPairsUptoSaid : Prop := fnExactBookPairsUptoRow.holds Try.pinned (OpenSpec.upto fnExactBookPairsSpec)

/-- 'laws.FnExactWeakestPair', WHERE WHAT IT READS IS OF BULK AT MOST 1048576: true; the input reads as it did. -/
def fnExactWeakestPairUptoRow : OpenClaim := { program := "ytmhddfikpfkeoaa", sum := "42413b7204b0aa182c156270f4ff97ceecb46b43c630ab38e86477f0424384ff", func := "loop.example/g00956/laws.FnExactWeakestPair", spec := "fnExactWeakestPair", unfollowed := true, recurses := true, apart := false, narrowed := true }
def FnExactWeakestPairUptoSaid : Prop := fnExactWeakestPairUptoRow.holds Try.pinned (OpenSpec.upto fnExactWeakestPairSpec)

/-- 'laws.FnExactRecolor', WHERE WHAT IT READS IS OF BULK AT MOST 1048576: true; the input reads as it did. -/
def fnExactRecolorUptoRow : OpenClaim := { program := "ytmhddfikpfkeoaa", sum := "42413b7204b0aa182c156270f4ff97ceecb46b43c630ab38e86477f0424384ff", func := "loop.example/g00956/laws.FnExactRecolor", spec := "fnExactRecolor", unfollowed := true, recurses := true, apart := false, narrowed := true }
def FnExactRecolorUptoSaid : Prop := fnExactRecolorUptoRow.holds Try.pinned (OpenSpec.upto fnExactRecolorSpec)

/-- 'laws.FnExactLargestClear', WHERE WHAT IT READS IS OF BULK AT MOST 1048576: true; the input reads as it did. -/
def fnExactLargestClearUptoRow : OpenClaim := { program := "ytmhddfikpfkeoaa", sum := "42413b7204b0aa182c156270f4ff97ceecb46b43c630ab38e86477f0424384ff", func := "loop.example/g00956/laws.FnExactLargestClear", spec := "fnExactLargestClear", unfollowed := true, recurses := true, apart := false, narrowed := true }
def FnExactLargestClearUptoSaid : Prop := fnExactLargestClearUptoRow.holds Try.pinned (OpenSpec.upto fnExactLargestClearSpec)

/-- 'laws.FnExactGreedyPairs', WHERE WHAT IT READS IS OF BULK AT MOST 1048576: true; the input reads as it did. -/
def fnExactGreedyPairsUptoRow : OpenClaim := { program := "ytmhddfikpfkeoaa", sum := "42413b7204b0aa182c156270f4ff97ceecb46b43c630ab38e86477f0424384ff", func := "loop.example/g00956/laws.FnExactGreedyPairs", spec := "fnExactGreedyPairs", unfollowed := true, recurses := true, apart := false, narrowed := true }
def FnExactGreedyPairsUptoSaid : Prop := fnExactGreedyPairsUptoRow.holds Try.pinned (OpenSpec.upto fnExactGreedyPairsSpec)

/-- 'laws.FnExactLeafFault', WHERE WHAT IT READS IS OF BULK AT MOST 1048576: true; the input reads as it did. -/
def fnExactLeafFaultUptoRow : OpenClaim := { program := "ytmhddfikpfkeoaa", sum := "42413b7204b0aa182c156270f4ff97ceecb46b43c630ab38e86477f0424384ff", func := "loop.example/g00956/laws.FnExactLeafFault", spec := "fnExactLeafFault", unfollowed := true, recurses := true, apart := false, narrowed := true }
def FnExactLeafFaultUptoSaid : Prop := fnExactLeafFaultUptoRow.holds Try.pinned (OpenSpec.upto fnExactLeafFaultSpec)

/-- 'laws.FnExactMergePoints', WHERE WHAT IT READS IS OF BULK AT MOST 1048576: true; the input reads as it did. -/
def fnExactMergePointsUptoRow : OpenClaim := { program := "ytmhddfikpfkeoaa", sum := "42413b7204b0aa182c156270f4ff97ceecb46b43c630ab38e86477f0424384ff", func := "loop.example/g00956/laws.FnExactMergePoints", spec := "fnExactMergePoints", unfollowed := true, recurses := true, apart := false, narrowed := true }
def FnExactMergePointsUptoSaid : Prop := fnExactMergePointsUptoRow.holds Try.pinned (OpenSpec.upto fnExactMergePointsSpec)

end Rows
end Go.Proofs.Ytmhddfikpfkeoaa
