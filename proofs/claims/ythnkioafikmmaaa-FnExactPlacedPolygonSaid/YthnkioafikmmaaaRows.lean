/-
  No cell of these rows narrows 'for every input' (looked for: loops, veiled, ifaces, maps, wideKeys, modest, calm, conditions, laid).
  DERIVED. THE GIVEN ROWS OF THIS SEAT. 7 by the template 'for every input the law returns true; each argument reads behind the call as it read before'; 0 by the template 'total and deterministic' (their statements: YthnkioafikmmaaaTotals.lean).
  GIVEN WITH THE SEED: the statements are not yours to turn. If you find one false, say at which input.
  Laid BY PROGRAM, IN A SANDBOX (cutbox-rows.mjs): the forced cells as the released guide's own fill.sh prints them over the translation ac1d30d41b4fc879… (all of the seat's roots in one cut). By AI agents, Wed Nov 11 2026. No macro, syntax, notation, axiom, sorry.
-/
import Derived.Test.YthnkioafikmmaaaChecked
import GoSem.Claim
import GoSem.ClaimJoined
import GoSem.ClaimMapViews
import Derived.JoinedTies
import Derived.KernelRfl
namespace Go.Proofs.Ythnkioafikmmaaa
/- THE CELL 'sum', in the pinned program and in every row, IS THE sha256 OF THE DUMP (.gsa) THAT YthnkioafikmmaaaProg.lean LOADS. Nothing in Lean hashes anything: it is a label: what it is worth is what the hold of that sum in a sandbox is worth. -/
noncomputable def Try.pinned : Pinned := { name := "ythnkioafikmmaaa", sum := "ac1d30d41b4fc879cb549b4a9ff2fc18353b303eb51898cd2e475693a80cdbcc", checked := Try.checked }
namespace Rows
def none {H : Type} : Left H := { results := [], args := [] }

/-- 'laws.FnExactPlacedPolygon': WHATEVER THE INPUT: true; the input reads as it did. -/
def fnExactPlacedPolygonSpec : ChangeSpec := { name := "fnExactPlacedPolygon", fn := fun _ => fun
  | [d1, d2] => { results := [.lit (.bool true)], args := [d1, d2] }
  | _ => none }
def fnExactPlacedPolygonRow : OpenClaim := { program := "ythnkioafikmmaaa", sum := "ac1d30d41b4fc879cb549b4a9ff2fc18353b303eb51898cd2e475693a80cdbcc", func := "loop.example/g00956/laws.FnExactPlacedPolygon", spec := "fnExactPlacedPolygon", unfollowed := true, recurses := true, apart := false }
def FnExactPlacedPolygonSaid : Prop := fnExactPlacedPolygonRow.holds Try.pinned (OpenSpec.ofChange fnExactPlacedPolygonSpec)

/-- ITS FALSE NEIGHBOUR: 'it returns false'. Refute it at one input. -/
def fnExactPlacedPolygonWrong : ChangeSpec := { name := "fnExactPlacedPolygon", fn := fun _ => fun
  | [d1, d2] => { results := [.lit (.bool false)], args := [d1, d2] }
  | _ => none }
def FnExactPlacedPolygonWrongFalsely : Prop := fnExactPlacedPolygonRow.holds Try.pinned (OpenSpec.ofChange fnExactPlacedPolygonWrong)

/-- 'laws.FnExactDropStraight': WHATEVER THE INPUT: true; the input reads as it did. -/
def fnExactDropStraightSpec : ChangeSpec := { name := "fnExactDropStraight", fn := fun _ => fun
  | [d] => { results := [.lit (.bool true)], args := [d] }
  | _ => none }
def fnExactDropStraightRow : OpenClaim := { program := "ythnkioafikmmaaa", sum := "ac1d30d41b4fc879cb549b4a9ff2fc18353b303eb51898cd2e475693a80cdbcc", func := "loop.example/g00956/laws.FnExactDropStraight", spec := "fnExactDropStraight", apart := false }
def FnExactDropStraightSaid : Prop := fnExactDropStraightRow.holds Try.pinned (OpenSpec.ofChange fnExactDropStraightSpec)

/-- ITS FALSE NEIGHBOUR: 'it returns false'. Refute it at one input. -/
def fnExactDropStraightWrong : ChangeSpec := { name := "fnExactDropStraight", fn := fun _ => fun
  | [d] => { results := [.lit (.bool false)], args := [d] }
  | _ => none }
def FnExactDropStraightWrongFalsely : Prop := fnExactDropStraightRow.holds Try.pinned (OpenSpec.ofChange fnExactDropStraightWrong)

/-- 'laws.FnExactInsertJunctions': WHATEVER THE INPUT: true; the input reads as it did. -/
def fnExactInsertJunctionsSpec : ChangeSpec := { name := "fnExactInsertJunctions", fn := fun _ => fun
  | [d] => { results := [.lit (.bool true)], args := [d] }
  | _ => none }
def fnExactInsertJunctionsRow : OpenClaim := { program := "ythnkioafikmmaaa", sum := "ac1d30d41b4fc879cb549b4a9ff2fc18353b303eb51898cd2e475693a80cdbcc", func := "loop.example/g00956/laws.FnExactInsertJunctions", spec := "fnExactInsertJunctions", inPlace := ["slices.overlaps[int64]"], unfollowed := true, recurses := true, apart := false }
def FnExactInsertJunctionsSaid : Prop := fnExactInsertJunctionsRow.holds Try.pinned (OpenSpec.ofChange fnExactInsertJunctionsSpec)

/-- ITS FALSE NEIGHBOUR: 'it returns false'. Refute it at one input. -/
def fnExactInsertJunctionsWrong : ChangeSpec := { name := "fnExactInsertJunctions", fn := fun _ => fun
  | [d] => { results := [.lit (.bool false)], args := [d] }
  | _ => none }
def FnExactInsertJunctionsWrongFalsely : Prop := fnExactInsertJunctionsRow.holds Try.pinned (OpenSpec.ofChange fnExactInsertJunctionsWrong)

/-- 'laws.FnExactJoinFaces': WHATEVER THE INPUT: true; the input reads as it did. -/
def fnExactJoinFacesSpec : ChangeSpec := { name := "fnExactJoinFaces", fn := fun _ => fun
  | [d1, d2, d3] => { results := [.lit (.bool true)], args := [d1, d2, d3] }
  | _ => none }
def fnExactJoinFacesRow : OpenClaim := { program := "ythnkioafikmmaaa", sum := "ac1d30d41b4fc879cb549b4a9ff2fc18353b303eb51898cd2e475693a80cdbcc", func := "loop.example/g00956/laws.FnExactJoinFaces", spec := "fnExactJoinFaces", unfollowed := true, recurses := true, apart := false }
def FnExactJoinFacesSaid : Prop := fnExactJoinFacesRow.holds Try.pinned (OpenSpec.ofChange fnExactJoinFacesSpec)

/-- ITS FALSE NEIGHBOUR: 'it returns false'. Refute it at one input. -/
def fnExactJoinFacesWrong : ChangeSpec := { name := "fnExactJoinFaces", fn := fun _ => fun
  | [d1, d2, d3] => { results := [.lit (.bool false)], args := [d1, d2, d3] }
  | _ => none }
def FnExactJoinFacesWrongFalsely : Prop := fnExactJoinFacesRow.holds Try.pinned (OpenSpec.ofChange fnExactJoinFacesWrong)

/-- 'laws.FnExactGreedyPairs': WHATEVER THE INPUT: true; the input reads as it did. -/
def fnExactGreedyPairsSpec : ChangeSpec := { name := "fnExactGreedyPairs", fn := fun _ => fun
  | [d1, d2] => { results := [.lit (.bool true)], args := [d1, d2] }
  | _ => none }
def fnExactGreedyPairsRow : OpenClaim := { program := "ythnkioafikmmaaa", sum := "ac1d30d41b4fc879cb549b4a9ff2fc18353b303eb51898cd2e475693a80cdbcc", func := "loop.example/g00956/laws.FnExactGreedyPairs", spec := "fnExactGreedyPairs", unfollowed := true, recurses := true, apart := false }
def FnExactGreedyPairsSaid : Prop := fnExactGreedyPairsRow.holds Try.pinned (OpenSpec.ofChange fnExactGreedyPairsSpec)

/-- ITS FALSE NEIGHBOUR: 'it returns false'. Refute it at one input. -/
def fnExactGreedyPairsWrong : ChangeSpec := { name := "fnExactGreedyPairs", fn := fun _ => fun
  | [d1, d2] => { results := [.lit (.bool false)], args := [d1, d2] }
  | _ => none }
def FnExactGreedyPairsWrongFalsely : Prop := fnExactGreedyPairsRow.holds Try.pinned (OpenSpec.ofChange fnExactGreedyPairsWrong)

/-- 'laws.FnExactLeafFault': WHATEVER THE INPUT: true; the input reads as it did. -/
def fnExactLeafFaultSpec : ChangeSpec := { name := "fnExactLeafFault", fn := fun _ => fun
  | [d1, d2, d3] => { results := [.lit (.bool true)], args := [d1, d2, d3] }
  | _ => none }
def fnExactLeafFaultRow : OpenClaim := { program := "ythnkioafikmmaaa", sum := "ac1d30d41b4fc879cb549b4a9ff2fc18353b303eb51898cd2e475693a80cdbcc", func := "loop.example/g00956/laws.FnExactLeafFault", spec := "fnExactLeafFault", unfollowed := true, recurses := true, apart := false }
def FnExactLeafFaultSaid : Prop := fnExactLeafFaultRow.holds Try.pinned (OpenSpec.ofChange fnExactLeafFaultSpec)

/-- ITS FALSE NEIGHBOUR: 'it returns false'. Refute it at one input. -/
def fnExactLeafFaultWrong : ChangeSpec := { name := "fnExactLeafFault", fn := fun _ => fun
  | [d1, d2, d3] => { results := [.lit (.bool false)], args := [d1, d2, d3] }
  | _ => none }
def FnExactLeafFaultWrongFalsely : Prop := fnExactLeafFaultRow.holds Try.pinned (OpenSpec.ofChange fnExactLeafFaultWrong)

/-- 'laws.FnExactIsColoring': WHATEVER THE INPUT: true; the input reads as it did. -/
def fnExactIsColoringSpec : ChangeSpec := { name := "fnExactIsColoring", fn := fun _ => fun
  | [d1, d2, d3, d4] => { results := [.lit (.bool true)], args := [d1, d2, d3, d4] }
  | _ => none }
def fnExactIsColoringRow : OpenClaim := { program := "ythnkioafikmmaaa", sum := "ac1d30d41b4fc879cb549b4a9ff2fc18353b303eb51898cd2e475693a80cdbcc", func := "loop.example/g00956/laws.FnExactIsColoring", spec := "fnExactIsColoring", unfollowed := true, recurses := true, apart := false }
def FnExactIsColoringSaid : Prop := fnExactIsColoringRow.holds Try.pinned (OpenSpec.ofChange fnExactIsColoringSpec)

/-- ITS FALSE NEIGHBOUR: 'it returns false'. Refute it at one input. -/
def fnExactIsColoringWrong : ChangeSpec := { name := "fnExactIsColoring", fn := fun _ => fun
  | [d1, d2, d3, d4] => { results := [.lit (.bool false)], args := [d1, d2, d3, d4] }
  | _ => none }
def FnExactIsColoringWrongFalsely : Prop := fnExactIsColoringRow.holds Try.pinned (OpenSpec.ofChange fnExactIsColoringWrong)

/- THE SECOND FORM. 'bulk': how many values and letters a reading holds, each counted each time it is reached (what is shared counts as often as it is met; a slice's spare places count too). A statement '..UptoSaid' is the law's where the arguments, and the package variables that the reading takes, are together of bulk at most 1048576: NARROWER than '..Said'. Prove '..Said' where nothing that the law and all that it calls make is longer than what came in: it says more and counts as full. Else prove '..UptoSaid'. A law counts once. -/
mutual
def uptoBulk {H : Type} : DataW H → Nat
  | .lit (.string bytes) => bytes.length + 1
  | .lit _ => 1
  | .nil => 1
  | .ptr d => uptoBulk d + 1
  | .slice elems spare => uptoBulkAll elems + uptoBulkAll spare + 1
  | .agg parts => uptoBulkAll parts + 1
  | .iface _ d => uptoBulk d + 1
  | .map entries => uptoBulkEntries entries + 1
  | .held _ => 1
def uptoBulkAll {H : Type} : List (DataW H) → Nat
  | [] => 0
  | d :: r => uptoBulk d + uptoBulkAll r
def uptoBulkEntries {H : Type} : List (Lit × DataW H) → Nat
  | [] => 0
  | x :: r => uptoBulkEntry x + uptoBulkEntries r
def uptoBulkEntry {H : Type} : Lit × DataW H → Nat
  | (.string bytes, d) => bytes.length + uptoBulk d + 1
  | (_, d) => uptoBulk d + 1
 end
def uptoSmall : (H : Type) → List (DataW H) → Bool := fun _ ds => decide (uptoBulkAll ds ≤ 1048576)
def OpenSpec.upto (s : _root_.Go.ChangeSpec) : _root_.Go.OpenSpec := { _root_.Go.OpenSpec.ofChange s with cond := some uptoSmall }

/-- 'laws.FnExactPlacedPolygon', WHERE WHAT IT READS IS OF BULK AT MOST 1048576: true; the input reads as it did. -/
def fnExactPlacedPolygonUptoRow : OpenClaim := { program := "ythnkioafikmmaaa", sum := "ac1d30d41b4fc879cb549b4a9ff2fc18353b303eb51898cd2e475693a80cdbcc", func := "loop.example/g00956/laws.FnExactPlacedPolygon", spec := "fnExactPlacedPolygon", unfollowed := true, recurses := true, apart := false, narrowed := true }
def FnExactPlacedPolygonUptoSaid : Prop := fnExactPlacedPolygonUptoRow.holds Try.pinned (OpenSpec.upto fnExactPlacedPolygonSpec)

/-- 'laws.FnExactDropStraight', WHERE WHAT IT READS IS OF BULK AT MOST 1048576: true; the input reads as it did. -/
def fnExactDropStraightUptoRow : OpenClaim := { program := "ythnkioafikmmaaa", sum := "ac1d30d41b4fc879cb549b4a9ff2fc18353b303eb51898cd2e475693a80cdbcc", func := "loop.example/g00956/laws.FnExactDropStraight", spec := "fnExactDropStraight", apart := false, narrowed := true }
def FnExactDropStraightUptoSaid : Prop := fnExactDropStraightUptoRow.holds Try.pinned (OpenSpec.upto fnExactDropStraightSpec)

/-- 'laws.FnExactInsertJunctions', WHERE WHAT IT READS IS OF BULK AT MOST 1048576: true; the input reads as it did. -/
def fnExactInsertJunctionsUptoRow : OpenClaim := { program := "ythnkioafikmmaaa", sum := "ac1d30d41b4fc879cb549b4a9ff2fc18353b303eb51898cd2e475693a80cdbcc", func := "loop.example/g00956/laws.FnExactInsertJunctions", spec := "fnExactInsertJunctions", inPlace := ["slices.overlaps[int64]"], unfollowed := true, recurses := true, apart := false, narrowed := true }
def FnExactInsertJunctionsUptoSaid : Prop := fnExactInsertJunctionsUptoRow.holds Try.pinned (OpenSpec.upto fnExactInsertJunctionsSpec)

/-- 'laws.FnExactJoinFaces', WHERE WHAT IT READS IS OF BULK AT MOST 1048576: true; the input reads as it did. -/
def fnExactJoinFacesUptoRow : OpenClaim := { program := "ythnkioafikmmaaa", sum := "ac1d30d41b4fc879cb549b4a9ff2fc18353b303eb51898cd2e475693a80cdbcc", func := "loop.example/g00956/laws.FnExactJoinFaces", spec := "fnExactJoinFaces", unfollowed := true, recurses := true, apart := false, narrowed := true }
def FnExactJoinFacesUptoSaid : Prop := fnExactJoinFacesUptoRow.holds Try.pinned (OpenSpec.upto fnExactJoinFacesSpec)

/-- 'laws.FnExactGreedyPairs', WHERE WHAT IT READS IS OF BULK AT MOST 1048576: true; the input reads as it did. -/
def fnExactGreedyPairsUptoRow : OpenClaim := { program := "ythnkioafikmmaaa", sum := "ac1d30d41b4fc879cb549b4a9ff2fc18353b303eb51898cd2e475693a80cdbcc", func := "loop.example/g00956/laws.FnExactGreedyPairs", spec := "fnExactGreedyPairs", unfollowed := true, recurses := true, apart := false, narrowed := true }
def FnExactGreedyPairsUptoSaid : Prop := fnExactGreedyPairsUptoRow.holds Try.pinned (OpenSpec.upto fnExactGreedyPairsSpec)

/-- 'laws.FnExactLeafFault', WHERE WHAT IT READS IS OF BULK AT MOST 1048576: true; the input reads as it did. -/
def fnExactLeafFaultUptoRow : OpenClaim := { program := "ythnkioafikmmaaa", sum := "ac1d30d41b4fc879cb549b4a9ff2fc18353b303eb51898cd2e475693a80cdbcc", func := "loop.example/g00956/laws.FnExactLeafFault", spec := "fnExactLeafFault", unfollowed := true, recurses := true, apart := false, narrowed := true }
def FnExactLeafFaultUptoSaid : Prop := fnExactLeafFaultUptoRow.holds Try.pinned (OpenSpec.upto fnExactLeafFaultSpec)

/-- 'laws.FnExactIsColoring', WHERE WHAT IT READS IS OF BULK AT MOST 1048576: true; the input reads as it did. -/
def fnExactIsColoringUptoRow : OpenClaim := { program := "ythnkioafikmmaaa", sum := "ac1d30d41b4fc879cb549b4a9ff2fc18353b303eb51898cd2e475693a80cdbcc", func := "loop.example/g00956/laws.FnExactIsColoring", spec := "fnExactIsColoring", unfollowed := true, recurses := true, apart := false, narrowed := true }
def FnExactIsColoringUptoSaid : Prop := fnExactIsColoringUptoRow.holds Try.pinned (OpenSpec.upto fnExactIsColoringSpec)

end Rows
end Go.Proofs.Ythnkioafikmmaaa
