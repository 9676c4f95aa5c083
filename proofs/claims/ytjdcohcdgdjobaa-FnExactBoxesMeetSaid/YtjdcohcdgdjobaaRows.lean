/-
  No cell of these rows narrows 'for every input' (looked for: loops, veiled, ifaces, maps, wideKeys, modest, calm, conditions, laid).
  DERIVED. THE GIVEN ROWS OF THIS SEAT. 12 by the template 'for every input the law returns true; each argument reads behind the call as it read before'; 0 by the template 'total and deterministic' (their statements: YtjdcohcdgdjobaaTotals.lean).
  GIVEN WITH THE SEED: the statements are not yours to turn. If you find one false, say at which input.
  Laid BY PROGRAM, IN A SANDBOX (cutbox-rows.mjs): the forced cells as the released guide's own fill.sh prints them over the translation e0acde21e85f330f… (all of the seat's roots in one cut). By AI agents, Wed Nov 11 2026. No macro, syntax, notation, axiom, sorry.
-/
import Derived.Test.YtjdcohcdgdjobaaChecked
import GoSem.Claim
import GoSem.ClaimJoined
import GoSem.ClaimMapViews
import Derived.JoinedTies
import Derived.KernelRfl
namespace Go.Proofs.Ytjdcohcdgdjobaa
/- THE CELL 'sum', in the pinned program and in every row, IS THE sha256 OF THE DUMP (.gsa) THAT YtjdcohcdgdjobaaProg.lean LOADS. Nothing in Lean hashes anything: it is a label: what it is worth is what the hold of that sum in a sandbox is worth. -/
noncomputable def Try.pinned : Pinned := { name := "ytjdcohcdgdjobaa", sum := "e0acde21e85f330f00755dd37484d0573ccf69cf255b6a587d47d1e02cafeeac", checked := Try.checked }
namespace Rows
def none {H : Type} : Left H := { results := [], args := [] }

/-- 'laws.FnExactValidRules': WHATEVER THE INPUT: true; the input reads as it did. -/
def fnExactValidRulesSpec : ChangeSpec := { name := "fnExactValidRules", fn := fun _ => fun
  | [d] => { results := [.lit (.bool true)], args := [d] }
  | _ => none }
def fnExactValidRulesRow : OpenClaim := { program := "ytjdcohcdgdjobaa", sum := "e0acde21e85f330f00755dd37484d0573ccf69cf255b6a587d47d1e02cafeeac", func := "loop.example/g00956/laws.FnExactValidRules", spec := "fnExactValidRules", apart := false }
def FnExactValidRulesSaid : Prop := fnExactValidRulesRow.holds Try.pinned (OpenSpec.ofChange fnExactValidRulesSpec)

/-- ITS FALSE NEIGHBOUR: 'it returns false'. Refute it at one input. -/
def fnExactValidRulesWrong : ChangeSpec := { name := "fnExactValidRules", fn := fun _ => fun
  | [d] => { results := [.lit (.bool false)], args := [d] }
  | _ => none }
def FnExactValidRulesWrongFalsely : Prop := fnExactValidRulesRow.holds Try.pinned (OpenSpec.ofChange fnExactValidRulesWrong)

/-- 'laws.FnExactTurnGrain': WHATEVER THE INPUT: true; the input reads as it did. -/
def fnExactTurnGrainSpec : ChangeSpec := { name := "fnExactTurnGrain", fn := fun _ => fun
  | [d1, d2] => { results := [.lit (.bool true)], args := [d1, d2] }
  | _ => none }
def fnExactTurnGrainRow : OpenClaim := { program := "ytjdcohcdgdjobaa", sum := "e0acde21e85f330f00755dd37484d0573ccf69cf255b6a587d47d1e02cafeeac", func := "loop.example/g00956/laws.FnExactTurnGrain", spec := "fnExactTurnGrain", apart := false }
def FnExactTurnGrainSaid : Prop := fnExactTurnGrainRow.holds Try.pinned (OpenSpec.ofChange fnExactTurnGrainSpec)

/-- ITS FALSE NEIGHBOUR: 'it returns false'. Refute it at one input. -/
def fnExactTurnGrainWrong : ChangeSpec := { name := "fnExactTurnGrain", fn := fun _ => fun
  | [d1, d2] => { results := [.lit (.bool false)], args := [d1, d2] }
  | _ => none }
def FnExactTurnGrainWrongFalsely : Prop := fnExactTurnGrainRow.holds Try.pinned (OpenSpec.ofChange fnExactTurnGrainWrong)

/-- 'laws.FnExactGrainAngle': WHATEVER THE INPUT: true; the input reads as it did. -/
def fnExactGrainAngleSpec : ChangeSpec := { name := "fnExactGrainAngle", fn := fun _ => fun
  | [d1, d2] => { results := [.lit (.bool true)], args := [d1, d2] }
  | _ => none }
def fnExactGrainAngleRow : OpenClaim := { program := "ytjdcohcdgdjobaa", sum := "e0acde21e85f330f00755dd37484d0573ccf69cf255b6a587d47d1e02cafeeac", func := "loop.example/g00956/laws.FnExactGrainAngle", spec := "fnExactGrainAngle", apart := false }
def FnExactGrainAngleSaid : Prop := fnExactGrainAngleRow.holds Try.pinned (OpenSpec.ofChange fnExactGrainAngleSpec)

/-- ITS FALSE NEIGHBOUR: 'it returns false'. Refute it at one input. -/
def fnExactGrainAngleWrong : ChangeSpec := { name := "fnExactGrainAngle", fn := fun _ => fun
  | [d1, d2] => { results := [.lit (.bool false)], args := [d1, d2] }
  | _ => none }
def FnExactGrainAngleWrongFalsely : Prop := fnExactGrainAngleRow.holds Try.pinned (OpenSpec.ofChange fnExactGrainAngleWrong)

/-- 'laws.FnExactBoxesMeet': WHATEVER THE INPUT: true; the input reads as it did. -/
def fnExactBoxesMeetSpec : ChangeSpec := { name := "fnExactBoxesMeet", fn := fun _ => fun
  | [d1, d2] => { results := [.lit (.bool true)], args := [d1, d2] }
  | _ => none }
def fnExactBoxesMeetRow : OpenClaim := { program := "ytjdcohcdgdjobaa", sum := "e0acde21e85f330f00755dd37484d0573ccf69cf255b6a587d47d1e02cafeeac", func := "loop.example/g00956/laws.FnExactBoxesMeet", spec := "fnExactBoxesMeet", apart := false }
def FnExactBoxesMeetSaid : Prop := fnExactBoxesMeetRow.holds Try.pinned (OpenSpec.ofChange fnExactBoxesMeetSpec)

/-- ITS FALSE NEIGHBOUR: 'it returns false'. Refute it at one input. -/
def fnExactBoxesMeetWrong : ChangeSpec := { name := "fnExactBoxesMeet", fn := fun _ => fun
  | [d1, d2] => { results := [.lit (.bool false)], args := [d1, d2] }
  | _ => none }
def FnExactBoxesMeetWrongFalsely : Prop := fnExactBoxesMeetRow.holds Try.pinned (OpenSpec.ofChange fnExactBoxesMeetWrong)

/-- 'laws.FnExactSpeciesNames': WHATEVER THE INPUT: true; the input reads as it did. -/
def fnExactSpeciesNamesSpec : ChangeSpec := { name := "fnExactSpeciesNames", fn := fun _ => fun
  | [] => { results := [.lit (.bool true)], args := [] }
  | _ => none }
def fnExactSpeciesNamesRow : OpenClaim := { program := "ytjdcohcdgdjobaa", sum := "e0acde21e85f330f00755dd37484d0573ccf69cf255b6a587d47d1e02cafeeac", func := "loop.example/g00956/laws.FnExactSpeciesNames", spec := "fnExactSpeciesNames", apart := false }
def FnExactSpeciesNamesSaid : Prop := fnExactSpeciesNamesRow.holds Try.pinned (OpenSpec.ofChange fnExactSpeciesNamesSpec)

/-- ITS FALSE NEIGHBOUR: 'it returns false'. Refute it at one input. -/
def fnExactSpeciesNamesWrong : ChangeSpec := { name := "fnExactSpeciesNames", fn := fun _ => fun
  | [] => { results := [.lit (.bool false)], args := [] }
  | _ => none }
def FnExactSpeciesNamesWrongFalsely : Prop := fnExactSpeciesNamesRow.holds Try.pinned (OpenSpec.ofChange fnExactSpeciesNamesWrong)

/-- 'laws.FnExactSpeciesData': WHATEVER THE INPUT: true; the input reads as it did. -/
def fnExactSpeciesDataSpec : ChangeSpec := { name := "fnExactSpeciesData", fn := fun _ => fun
  | [d] => { results := [.lit (.bool true)], args := [d] }
  | _ => none }
def fnExactSpeciesDataRow : OpenClaim := { program := "ytjdcohcdgdjobaa", sum := "e0acde21e85f330f00755dd37484d0573ccf69cf255b6a587d47d1e02cafeeac", func := "loop.example/g00956/laws.FnExactSpeciesData", spec := "fnExactSpeciesData", apart := false }
def FnExactSpeciesDataSaid : Prop := fnExactSpeciesDataRow.holds Try.pinned (OpenSpec.ofChange fnExactSpeciesDataSpec)

/-- ITS FALSE NEIGHBOUR: 'it returns false'. Refute it at one input. -/
def fnExactSpeciesDataWrong : ChangeSpec := { name := "fnExactSpeciesData", fn := fun _ => fun
  | [d] => { results := [.lit (.bool false)], args := [d] }
  | _ => none }
def FnExactSpeciesDataWrongFalsely : Prop := fnExactSpeciesDataRow.holds Try.pinned (OpenSpec.ofChange fnExactSpeciesDataWrong)

/-- 'laws.FnExactNearestSpecies': WHATEVER THE INPUT: true; the input reads as it did. -/
def fnExactNearestSpeciesSpec : ChangeSpec := { name := "fnExactNearestSpecies", fn := fun _ => fun
  | [d] => { results := [.lit (.bool true)], args := [d] }
  | _ => none }
def fnExactNearestSpeciesRow : OpenClaim := { program := "ytjdcohcdgdjobaa", sum := "e0acde21e85f330f00755dd37484d0573ccf69cf255b6a587d47d1e02cafeeac", func := "loop.example/g00956/laws.FnExactNearestSpecies", spec := "fnExactNearestSpecies", apart := false }
def FnExactNearestSpeciesSaid : Prop := fnExactNearestSpeciesRow.holds Try.pinned (OpenSpec.ofChange fnExactNearestSpeciesSpec)

/-- ITS FALSE NEIGHBOUR: 'it returns false'. Refute it at one input. -/
def fnExactNearestSpeciesWrong : ChangeSpec := { name := "fnExactNearestSpecies", fn := fun _ => fun
  | [d] => { results := [.lit (.bool false)], args := [d] }
  | _ => none }
def FnExactNearestSpeciesWrongFalsely : Prop := fnExactNearestSpeciesRow.holds Try.pinned (OpenSpec.ofChange fnExactNearestSpeciesWrong)

/-- 'laws.FnExactValidVeneer': WHATEVER THE INPUT: true; the input reads as it did. -/
def fnExactValidVeneerSpec : ChangeSpec := { name := "fnExactValidVeneer", fn := fun _ => fun
  | [d] => { results := [.lit (.bool true)], args := [d] }
  | _ => none }
def fnExactValidVeneerRow : OpenClaim := { program := "ytjdcohcdgdjobaa", sum := "e0acde21e85f330f00755dd37484d0573ccf69cf255b6a587d47d1e02cafeeac", func := "loop.example/g00956/laws.FnExactValidVeneer", spec := "fnExactValidVeneer", apart := false }
def FnExactValidVeneerSaid : Prop := fnExactValidVeneerRow.holds Try.pinned (OpenSpec.ofChange fnExactValidVeneerSpec)

/-- ITS FALSE NEIGHBOUR: 'it returns false'. Refute it at one input. -/
def fnExactValidVeneerWrong : ChangeSpec := { name := "fnExactValidVeneer", fn := fun _ => fun
  | [d] => { results := [.lit (.bool false)], args := [d] }
  | _ => none }
def FnExactValidVeneerWrongFalsely : Prop := fnExactValidVeneerRow.holds Try.pinned (OpenSpec.ofChange fnExactValidVeneerWrong)

/-- 'laws.FnExactValidPlacements': WHATEVER THE INPUT: true; the input reads as it did. -/
def fnExactValidPlacementsSpec : ChangeSpec := { name := "fnExactValidPlacements", fn := fun _ => fun
  | [d] => { results := [.lit (.bool true)], args := [d] }
  | _ => none }
def fnExactValidPlacementsRow : OpenClaim := { program := "ytjdcohcdgdjobaa", sum := "e0acde21e85f330f00755dd37484d0573ccf69cf255b6a587d47d1e02cafeeac", func := "loop.example/g00956/laws.FnExactValidPlacements", spec := "fnExactValidPlacements", apart := false }
def FnExactValidPlacementsSaid : Prop := fnExactValidPlacementsRow.holds Try.pinned (OpenSpec.ofChange fnExactValidPlacementsSpec)

/-- ITS FALSE NEIGHBOUR: 'it returns false'. Refute it at one input. -/
def fnExactValidPlacementsWrong : ChangeSpec := { name := "fnExactValidPlacements", fn := fun _ => fun
  | [d] => { results := [.lit (.bool false)], args := [d] }
  | _ => none }
def FnExactValidPlacementsWrongFalsely : Prop := fnExactValidPlacementsRow.holds Try.pinned (OpenSpec.ofChange fnExactValidPlacementsWrong)

/-- 'laws.FnExactSpeciesWithin': WHATEVER THE INPUT: true; the input reads as it did. -/
def fnExactSpeciesWithinSpec : ChangeSpec := { name := "fnExactSpeciesWithin", fn := fun _ => fun
  | [d1, d2] => { results := [.lit (.bool true)], args := [d1, d2] }
  | _ => none }
def fnExactSpeciesWithinRow : OpenClaim := { program := "ytjdcohcdgdjobaa", sum := "e0acde21e85f330f00755dd37484d0573ccf69cf255b6a587d47d1e02cafeeac", func := "loop.example/g00956/laws.FnExactSpeciesWithin", spec := "fnExactSpeciesWithin", apart := false }
def FnExactSpeciesWithinSaid : Prop := fnExactSpeciesWithinRow.holds Try.pinned (OpenSpec.ofChange fnExactSpeciesWithinSpec)

/-- ITS FALSE NEIGHBOUR: 'it returns false'. Refute it at one input. -/
def fnExactSpeciesWithinWrong : ChangeSpec := { name := "fnExactSpeciesWithin", fn := fun _ => fun
  | [d1, d2] => { results := [.lit (.bool false)], args := [d1, d2] }
  | _ => none }
def FnExactSpeciesWithinWrongFalsely : Prop := fnExactSpeciesWithinRow.holds Try.pinned (OpenSpec.ofChange fnExactSpeciesWithinWrong)

/-- 'laws.FnExactWithShade': WHATEVER THE INPUT: true; the input reads as it did. -/
def fnExactWithShadeSpec : ChangeSpec := { name := "fnExactWithShade", fn := fun _ => fun
  | [d1, d2] => { results := [.lit (.bool true)], args := [d1, d2] }
  | _ => none }
def fnExactWithShadeRow : OpenClaim := { program := "ytjdcohcdgdjobaa", sum := "e0acde21e85f330f00755dd37484d0573ccf69cf255b6a587d47d1e02cafeeac", func := "loop.example/g00956/laws.FnExactWithShade", spec := "fnExactWithShade", apart := false }
def FnExactWithShadeSaid : Prop := fnExactWithShadeRow.holds Try.pinned (OpenSpec.ofChange fnExactWithShadeSpec)

/-- ITS FALSE NEIGHBOUR: 'it returns false'. Refute it at one input. -/
def fnExactWithShadeWrong : ChangeSpec := { name := "fnExactWithShade", fn := fun _ => fun
  | [d1, d2] => { results := [.lit (.bool false)], args := [d1, d2] }
  | _ => none }
def FnExactWithShadeWrongFalsely : Prop := fnExactWithShadeRow.holds Try.pinned (OpenSpec.ofChange fnExactWithShadeWrong)

/-- 'laws.FnExactContrastOf': WHATEVER THE INPUT: true; the input reads as it did. -/
def fnExactContrastOfSpec : ChangeSpec := { name := "fnExactContrastOf", fn := fun _ => fun
  | [d1, d2] => { results := [.lit (.bool true)], args := [d1, d2] }
  | _ => none }
def fnExactContrastOfRow : OpenClaim := { program := "ytjdcohcdgdjobaa", sum := "e0acde21e85f330f00755dd37484d0573ccf69cf255b6a587d47d1e02cafeeac", func := "loop.example/g00956/laws.FnExactContrastOf", spec := "fnExactContrastOf", apart := false }
def FnExactContrastOfSaid : Prop := fnExactContrastOfRow.holds Try.pinned (OpenSpec.ofChange fnExactContrastOfSpec)

/-- ITS FALSE NEIGHBOUR: 'it returns false'. Refute it at one input. -/
def fnExactContrastOfWrong : ChangeSpec := { name := "fnExactContrastOf", fn := fun _ => fun
  | [d1, d2] => { results := [.lit (.bool false)], args := [d1, d2] }
  | _ => none }
def FnExactContrastOfWrongFalsely : Prop := fnExactContrastOfRow.holds Try.pinned (OpenSpec.ofChange fnExactContrastOfWrong)

/- THE SECOND FORM. 'bulk': how many values and letters a reading holds, each counted each time it is reached (what is shared counts as often as it is met; a slice's spare places count too). A statement '..UptoSaid' is the law's where the arguments, and the package variables that the reading takes, are together of bulk at most 1048576: NARROWER than '..Said'. Prove '..Said' where nothing that the law and all that it calls make is longer than what came in: it says more and counts as full. Else prove '..UptoSaid'. A law counts once. -/
mutual
def uptoBulk {H : Type} : DataW H → Nat
  | .lit (.string bytes) => bytes.length + 1
  | .lit _ => 1
  | .nil => 1
  | .ptr d => uptoBulk d + 1
  | .slice elems spare => uptoBulkAll elems + uptoBulkAll spare + 1
  | .agg parts => uptoBulkAll parts + 1
  | .iface _ d => uptoBulk d + 1
  | .map entries => uptoBulkEntries entries + 1
  | .held _ => 1
def uptoBulkAll {H : Type} : List (DataW H) → Nat
  | [] => 0
  | d :: r => uptoBulk d + uptoBulkAll r
def uptoBulkEntries {H : Type} : List (Lit × DataW H) → Nat
  | [] => 0
  | x :: r => uptoBulkEntry x + uptoBulkEntries r
def uptoBulkEntry {H : Type} : Lit × DataW H → Nat
  | (.string bytes, d) => bytes.length + uptoBulk d + 1
  | (_, d) => uptoBulk d + 1
 end
def uptoSmall : (H : Type) → List (DataW H) → Bool := fun _ ds => decide (uptoBulkAll ds ≤ 1048576)
def OpenSpec.upto (s : _root_.Go.ChangeSpec) : _root_.Go.OpenSpec := { _root_.Go.OpenSpec.ofChange s with cond := some uptoSmall }

/-- 'laws.FnExactValidRules', WHERE WHAT IT READS IS OF BULK AT MOST 1048576: true; the input reads as it did. -/
def fnExactValidRulesUptoRow : OpenClaim := { program := "ytjdcohcdgdjobaa", sum := "e0acde21e85f330f00755dd37484d0573ccf69cf255b6a587d47d1e02cafeeac", func := "loop.example/g00956/laws.FnExactValidRules", spec := "fnExactValidRules", apart := false, narrowed := true }
def FnExactValidRulesUptoSaid : Prop := fnExactValidRulesUptoRow.holds Try.pinned (OpenSpec.upto fnExactValidRulesSpec)

/-- 'laws.FnExactTurnGrain', WHERE WHAT IT READS IS OF BULK AT MOST 1048576: true; the input reads as it did. -/
def fnExactTurnGrainUptoRow : OpenClaim := { program := "ytjdcohcdgdjobaa", sum := "e0acde21e85f330f00755dd37484d0573ccf69cf255b6a587d47d1e02cafeeac", func := "loop.example/g00956/laws.FnExactTurnGrain", spec := "fnExactTurnGrain", apart := false, narrowed := true }
def FnExactTurnGrainUptoSaid : Prop := fnExactTurnGrainUptoRow.holds Try.pinned (OpenSpec.upto fnExactTurnGrainSpec)

/-- 'laws.FnExactGrainAngle', WHERE WHAT IT READS IS OF BULK AT MOST 1048576: true; the input reads as it did. -/
def fnExactGrainAngleUptoRow : OpenClaim := { program := "ytjdcohcdgdjobaa", sum := "e0acde21e85f330f00755dd37484d0573ccf69cf255b6a587d47d1e02cafeeac", func := "loop.example/g00956/laws.FnExactGrainAngle", spec := "fnExactGrainAngle", apart := false, narrowed := true }
def FnExactGrainAngleUptoSaid : Prop := fnExactGrainAngleUptoRow.holds Try.pinned (OpenSpec.upto fnExactGrainAngleSpec)

/-- 'laws.FnExactBoxesMeet', WHERE WHAT IT READS IS OF BULK AT MOST 1048576: true; the input reads as it did. -/
def fnExactBoxesMeetUptoRow : OpenClaim := { program := "ytjdcohcdgdjobaa", sum := "e0acde21e85f330f00755dd37484d0573ccf69cf255b6a587d47d1e02cafeeac", func := "loop.example/g00956/laws.FnExactBoxesMeet", spec := "fnExactBoxesMeet", apart := false, narrowed := true }
def FnExactBoxesMeetUptoSaid : Prop := fnExactBoxesMeetUptoRow.holds Try.pinned (OpenSpec.upto fnExactBoxesMeetSpec)

/-- 'laws.FnExactSpeciesNames', WHERE WHAT IT READS IS OF BULK AT MOST 1048576: true; the input reads as it did. -/
def fnExactSpeciesNamesUptoRow : OpenClaim := { program := "ytjdcohcdgdjobaa", sum := "e0acde21e85f330f00755dd37484d0573ccf69cf255b6a587d47d1e02cafeeac", func := "loop.example/g00956/laws.FnExactSpeciesNames", spec := "fnExactSpeciesNames", apart := false, narrowed := true }
def FnExactSpeciesNamesUptoSaid : Prop := fnExactSpeciesNamesUptoRow.holds Try.pinned (OpenSpec.upto fnExactSpeciesNamesSpec)

/-- 'laws.FnExactSpeciesData', WHERE WHAT IT READS IS OF BULK AT MOST 1048576: true; the input reads as it did. -/
def fnExactSpeciesDataUptoRow : OpenClaim := { program := "ytjdcohcdgdjobaa", sum := "e0acde21e85f330f00755dd37484d0573ccf69cf255b6a587d47d1e02cafeeac", func := "loop.example/g00956/laws.FnExactSpeciesData", spec := "fnExactSpeciesData", apart := false, narrowed := true }
def FnExactSpeciesDataUptoSaid : Prop := fnExactSpeciesDataUptoRow.holds Try.pinned (OpenSpec.upto fnExactSpeciesDataSpec)

/-- 'laws.FnExactNearestSpecies', WHERE WHAT IT READS IS OF BULK AT MOST 1048576: true; the input reads as it did. -/
def fnExactNearestSpeciesUptoRow : OpenClaim := { program := "ytjdcohcdgdjobaa", sum := "e0acde21e85f330f00755dd37484d0573ccf69cf255b6a587d47d1e02cafeeac", func := "loop.example/g00956/laws.FnExactNearestSpecies", spec := "fnExactNearestSpecies", apart := false, narrowed := true }
def FnExactNearestSpeciesUptoSaid : Prop := fnExactNearestSpeciesUptoRow.holds Try.pinned (OpenSpec.upto fnExactNearestSpeciesSpec)

/-- 'laws.FnExactValidVeneer', WHERE WHAT IT READS IS OF BULK AT MOST 1048576: true; the input reads as it did. -/
def fnExactValidVeneerUptoRow : OpenClaim := { program := "ytjdcohcdgdjobaa", sum := "e0acde21e85f330f00755dd37484d0573ccf69cf255b6a587d47d1e02cafeeac", func := "loop.example/g00956/laws.FnExactValidVeneer", spec := "fnExactValidVeneer", apart := false, narrowed := true }
def FnExactValidVeneerUptoSaid : Prop := fnExactValidVeneerUptoRow.holds Try.pinned (OpenSpec.upto fnExactValidVeneerSpec)

/-- 'laws.FnExactValidPlacements', WHERE WHAT IT READS IS OF BULK AT MOST 1048576: true; the input reads as it did. -/
def fnExactValidPlacementsUptoRow : OpenClaim := { program := "ytjdcohcdgdjobaa", sum := "e0acde21e85f330f00755dd37484d0573ccf69cf255b6a587d47d1e02cafeeac", func := "loop.example/g00956/laws.FnExactValidPlacements", spec := "fnExactValidPlacements", apart := false, narrowed := true }
def FnExactValidPlacementsUptoSaid : Prop := fnExactValidPlacementsUptoRow.holds Try.pinned (OpenSpec.upto fnExactValidPlacementsSpec)

/-- 'laws.FnExactSpeciesWithin', WHERE WHAT IT READS IS OF BULK AT MOST 1048576: true; the input reads as it did. -/
def fnExactSpeciesWithinUptoRow : OpenClaim := { program := "ytjdcohcdgdjobaa", sum := "e0acde21e85f330f00755dd37484d0573ccf69cf255b6a587d47d1e02cafeeac", func := "loop.example/g00956/laws.FnExactSpeciesWithin", spec := "fnExactSpeciesWithin", apart := false, narrowed := true }
def FnExactSpeciesWithinUptoSaid : Prop := fnExactSpeciesWithinUptoRow.holds Try.pinned (OpenSpec.upto fnExactSpeciesWithinSpec)

/-- 'laws.FnExactWithShade', WHERE WHAT IT READS IS OF BULK AT MOST 1048576: true; the input reads as it did. -/
def fnExactWithShadeUptoRow : OpenClaim := { program := "ytjdcohcdgdjobaa", sum := "e0acde21e85f330f00755dd37484d0573ccf69cf255b6a587d47d1e02cafeeac", func := "loop.example/g00956/laws.FnExactWithShade", spec := "fnExactWithShade", apart := false, narrowed := true }
def FnExactWithShadeUptoSaid : Prop := fnExactWithShadeUptoRow.holds Try.pinned (OpenSpec.upto fnExactWithShadeSpec)

/-- 'laws.FnExactContrastOf', WHERE WHAT IT READS IS OF BULK AT MOST 1048576: true; the input reads as it did. -/
def fnExactContrastOfUptoRow : OpenClaim := { program := "ytjdcohcdgdjobaa", sum := "e0acde21e85f330f00755dd37484d0573ccf69cf255b6a587d47d1e02cafeeac", func := "loop.example/g00956/laws.FnExactContrastOf", spec := "fnExactContrastOf", apart := false, narrowed := true }
def FnExactContrastOfUptoSaid : Prop := fnExactContrastOfUptoRow.holds Try.pinned (OpenSpec.upto fnExactContrastOfSpec)

end Rows
end Go.Proofs.Ytjdcohcdgdjobaa
