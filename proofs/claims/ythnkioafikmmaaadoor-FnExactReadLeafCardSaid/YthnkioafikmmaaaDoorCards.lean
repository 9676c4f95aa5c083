/-
  DERIVED. GIVEN WITH THE SEED: THE CARDS: each row of YthnkioafikmmaaaDoorRows.lean that lists a variable, with what it lists TIED to the program's text (the seventh form; the later family's looks); each row that meets fmt, with fmt's text TOLD by the authors' own Lean function (tested against real Go, not proved from fmt's source: count such statements apart). THE CARD IS WHAT COUNTS. Prove the row's statement (the work); the ties are given (YthnkioafikmmaaaDoorTie.lean); close each card by the builder's one call (the guide's Derived/Test/ToyasCard.lean, 'card_holds'). Laid BY PROGRAM, IN A SANDBOX (cutbox-door.mjs). By AI agents, Wed Nov 11 2026. No macro, syntax, notation, axiom, sorry.
-/
import Derived.Test.YthnkioafikmmaaaDoorRows
import GoSem.ClaimSeven
namespace Go.Proofs.YthnkioafikmmaaaDoor
namespace Rows

/-- THE TIED CARD OF 'laws.FnExactVeneerText'. -/
def fnExactVeneerTextCard : Claim7 := { stood := { row := fnExactVeneerTextRow, standIns := [], harness := (true, "897e97738bb7c38d36a3b064cd4296e8548e636f696f4f3d8d99293752c30da3"), looks := false }, kinds := [], alts := [], laidByText := true, laidKinds := [.data, .data, .data], laidTests := true, laidLooks := .later }
def FnExactVeneerTextCardSaid : Prop := Claim7.holds Tryd.pinned (.plain (OpenSpec.ofChange fnExactVeneerTextSpec)) fnExactVeneerTextCard

/-- THE TIED CARD OF 'laws.FnExactPlacementText'. -/
def fnExactPlacementTextCard : Claim7 := { stood := { row := fnExactPlacementTextRow, standIns := [], harness := (true, "897e97738bb7c38d36a3b064cd4296e8548e636f696f4f3d8d99293752c30da3"), looks := false }, kinds := [], alts := [], laidByText := true, laidKinds := [.data, .data, .data], laidTests := true, laidLooks := .later }
def FnExactPlacementTextCardSaid : Prop := Claim7.holds Tryd.pinned (.plain (OpenSpec.ofChange fnExactPlacementTextSpec)) fnExactPlacementTextCard

/-- THE TIED CARD OF 'laws.FnExactLeafText'. -/
def fnExactLeafTextCard : Claim7 := { stood := { row := fnExactLeafTextRow, standIns := [], harness := (true, "897e97738bb7c38d36a3b064cd4296e8548e636f696f4f3d8d99293752c30da3"), looks := false }, kinds := [], alts := [], laidByText := true, laidKinds := [.data, .data, .data], laidTests := true, laidLooks := .later }
def FnExactLeafTextCardSaid : Prop := Claim7.holds Tryd.pinned (.plain (OpenSpec.ofChange fnExactLeafTextSpec)) fnExactLeafTextCard

/-- THE TIED CARD OF 'laws.FnExactReadVeneer'. -/
def fnExactReadVeneerCard : Claim7 := { stood := { row := fnExactReadVeneerRow, standIns := [], harness := (true, "897e97738bb7c38d36a3b064cd4296e8548e636f696f4f3d8d99293752c30da3"), looks := false }, kinds := [], alts := [], laidByText := true, laidKinds := [.data, .data, .data, .data, .pinned], laidTests := true, laidLooks := .later }
def FnExactReadVeneerCardSaid : Prop := Claim7.holds Tryd.pinned (.plain (OpenSpec.ofChange fnExactReadVeneerSpec)) fnExactReadVeneerCard

/-- THE TIED CARD OF 'laws.FnExactReadPlacement'. -/
def fnExactReadPlacementCard : Claim7 := { stood := { row := fnExactReadPlacementRow, standIns := [], harness := (true, "897e97738bb7c38d36a3b064cd4296e8548e636f696f4f3d8d99293752c30da3"), looks := false }, kinds := [], alts := [], laidByText := true, laidKinds := [.data, .data, .data, .data, .pinned], laidTests := true, laidLooks := .later }
def FnExactReadPlacementCardSaid : Prop := Claim7.holds Tryd.pinned (.plain (OpenSpec.ofChange fnExactReadPlacementSpec)) fnExactReadPlacementCard

/-- THE TIED CARD OF 'laws.FnExactReadLeaf'. -/
def fnExactReadLeafCard : Claim7 := { stood := { row := fnExactReadLeafRow, standIns := [], harness := (true, "897e97738bb7c38d36a3b064cd4296e8548e636f696f4f3d8d99293752c30da3"), looks := false }, kinds := [], alts := [], laidByText := true, laidKinds := [.data, .data, .data, .data, .pinned], laidTests := true, laidLooks := .later }
def FnExactReadLeafCardSaid : Prop := Claim7.holds Tryd.pinned (.plain (OpenSpec.ofChange fnExactReadLeafSpec)) fnExactReadLeafCard

/-- THE SECOND FORM's CARD OF 'laws.FnExactVeneerText'. -/
def fnExactVeneerTextUptoCard : Claim7 := { stood := { row := fnExactVeneerTextUptoRow, standIns := [], harness := (true, "897e97738bb7c38d36a3b064cd4296e8548e636f696f4f3d8d99293752c30da3"), looks := false }, kinds := [], alts := [], laidByText := true, laidKinds := [.data, .data, .data], laidTests := true, laidLooks := .later }
def FnExactVeneerTextUptoCardSaid : Prop := Claim7.holds Tryd.pinned (.plain (OpenSpec.upto fnExactVeneerTextSpec)) fnExactVeneerTextUptoCard

/-- THE SECOND FORM's CARD OF 'laws.FnExactPlacementText'. -/
def fnExactPlacementTextUptoCard : Claim7 := { stood := { row := fnExactPlacementTextUptoRow, standIns := [], harness := (true, "897e97738bb7c38d36a3b064cd4296e8548e636f696f4f3d8d99293752c30da3"), looks := false }, kinds := [], alts := [], laidByText := true, laidKinds := [.data, .data, .data], laidTests := true, laidLooks := .later }
def FnExactPlacementTextUptoCardSaid : Prop := Claim7.holds Tryd.pinned (.plain (OpenSpec.upto fnExactPlacementTextSpec)) fnExactPlacementTextUptoCard

/-- THE SECOND FORM's CARD OF 'laws.FnExactLeafText'. -/
def fnExactLeafTextUptoCard : Claim7 := { stood := { row := fnExactLeafTextUptoRow, standIns := [], harness := (true, "897e97738bb7c38d36a3b064cd4296e8548e636f696f4f3d8d99293752c30da3"), looks := false }, kinds := [], alts := [], laidByText := true, laidKinds := [.data, .data, .data], laidTests := true, laidLooks := .later }
def FnExactLeafTextUptoCardSaid : Prop := Claim7.holds Tryd.pinned (.plain (OpenSpec.upto fnExactLeafTextSpec)) fnExactLeafTextUptoCard

/-- THE SECOND FORM's CARD OF 'laws.FnExactReadVeneer'. -/
def fnExactReadVeneerUptoCard : Claim7 := { stood := { row := fnExactReadVeneerUptoRow, standIns := [], harness := (true, "897e97738bb7c38d36a3b064cd4296e8548e636f696f4f3d8d99293752c30da3"), looks := false }, kinds := [], alts := [], laidByText := true, laidKinds := [.data, .data, .data, .data, .pinned], laidTests := true, laidLooks := .later }
def FnExactReadVeneerUptoCardSaid : Prop := Claim7.holds Tryd.pinned (.plain (OpenSpec.upto fnExactReadVeneerSpec)) fnExactReadVeneerUptoCard

/-- THE SECOND FORM's CARD OF 'laws.FnExactReadPlacement'. -/
def fnExactReadPlacementUptoCard : Claim7 := { stood := { row := fnExactReadPlacementUptoRow, standIns := [], harness := (true, "897e97738bb7c38d36a3b064cd4296e8548e636f696f4f3d8d99293752c30da3"), looks := false }, kinds := [], alts := [], laidByText := true, laidKinds := [.data, .data, .data, .data, .pinned], laidTests := true, laidLooks := .later }
def FnExactReadPlacementUptoCardSaid : Prop := Claim7.holds Tryd.pinned (.plain (OpenSpec.upto fnExactReadPlacementSpec)) fnExactReadPlacementUptoCard

/-- THE SECOND FORM's CARD OF 'laws.FnExactReadLeaf'. -/
def fnExactReadLeafUptoCard : Claim7 := { stood := { row := fnExactReadLeafUptoRow, standIns := [], harness := (true, "897e97738bb7c38d36a3b064cd4296e8548e636f696f4f3d8d99293752c30da3"), looks := false }, kinds := [], alts := [], laidByText := true, laidKinds := [.data, .data, .data, .data, .pinned], laidTests := true, laidLooks := .later }
def FnExactReadLeafUptoCardSaid : Prop := Claim7.holds Tryd.pinned (.plain (OpenSpec.upto fnExactReadLeafSpec)) fnExactReadLeafUptoCard
end Rows
end Go.Proofs.YthnkioafikmmaaaDoor
