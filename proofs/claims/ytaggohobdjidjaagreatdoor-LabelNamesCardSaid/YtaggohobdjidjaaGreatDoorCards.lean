/-
  DERIVED. GIVEN WITH THE SEED: THE CARDS: each row of YtaggohobdjidjaaGreatDoorRows.lean that lists a variable, with what it lists TIED to the program's text (the seventh form; the later family's looks); each row that meets fmt, with fmt's text TOLD by the authors' own Lean function (tested against real Go, not proved from fmt's source: count such statements apart). THE CARD IS WHAT COUNTS. Prove the row's statement (the work); the ties are given (YtaggohobdjidjaaGreatDoorTie.lean); close each card by the builder's one call (the guide's Derived/Test/ToyasCard.lean, 'card_holds'). Laid BY PROGRAM, IN A SANDBOX (cutbox-door.mjs). By AI agents, Wed Nov 11 2026. No macro, syntax, notation, axiom, sorry.
-/
import Derived.Test.YtaggohobdjidjaaGreatDoorRows
import GoSem.ClaimSeven
namespace Go.Proofs.YtaggohobdjidjaaGreatDoor
namespace Rows

/-- THE TIED CARD OF 'planispherelaw43.LabelMatchesReference'. -/
def labelMatchesReferenceCard : Claim7 := { stood := { row := labelMatchesReferenceRow, standIns := [], harness := (true, "f687454fc69d26d6005776614ec353c56c9d1ec4f0edb15da96a5c005575a4e5"), looks := true }, kinds := [], alts := [], laidByText := true, laidKinds := [.data, .data, .data, .sentinel, .sentinel], laidTests := true, laidLooks := .later }
def LabelMatchesReferenceCardSaid : Prop := Claim7.holds Tryz.pinned (.plain (OpenSpec.ofChange labelMatchesReferenceSpec)) labelMatchesReferenceCard

/-- THE TIED CARD OF 'planispherelaw43.LabelsMatchReference'. -/
def labelsMatchReferenceCard : Claim7 := { stood := { row := labelsMatchReferenceRow, standIns := [], harness := (true, "f687454fc69d26d6005776614ec353c56c9d1ec4f0edb15da96a5c005575a4e5"), looks := true }, kinds := [], alts := [], laidByText := true, laidKinds := [.data, .data, .data, .sentinel, .sentinel], laidTests := true, laidLooks := .later }
def LabelsMatchReferenceCardSaid : Prop := Claim7.holds Tryz.pinned (.plain (OpenSpec.ofChange labelsMatchReferenceSpec)) labelsMatchReferenceCard

/-- THE TIED CARD OF 'planispherelaw43.LabelApart'. -/
def labelApartCard : Claim7 := { stood := { row := labelApartRow, standIns := [], harness := (true, "f687454fc69d26d6005776614ec353c56c9d1ec4f0edb15da96a5c005575a4e5"), looks := true }, kinds := [], alts := [], laidByText := true, laidKinds := [.data, .data, .data, .sentinel, .sentinel], laidTests := true, laidLooks := .later }
def LabelApartCardSaid : Prop := Claim7.holds Tryz.pinned (.plain (OpenSpec.ofChange labelApartSpec)) labelApartCard

/-- THE TIED CARD OF 'planispherelaw43.LabelPlaces'. -/
def labelPlacesCard : Claim7 := { stood := { row := labelPlacesRow, standIns := [], harness := (true, "f687454fc69d26d6005776614ec353c56c9d1ec4f0edb15da96a5c005575a4e5"), looks := true }, kinds := [], alts := [], laidByText := true, laidKinds := [.data, .data, .data, .sentinel, .sentinel], laidTests := true, laidLooks := .later }
def LabelPlacesCardSaid : Prop := Claim7.holds Tryz.pinned (.plain (OpenSpec.ofChange labelPlacesSpec)) labelPlacesCard

/-- THE TIED CARD OF 'planispherelaw43.LabelOrder'. -/
def labelOrderCard : Claim7 := { stood := { row := labelOrderRow, standIns := [], harness := (true, "f687454fc69d26d6005776614ec353c56c9d1ec4f0edb15da96a5c005575a4e5"), looks := true }, kinds := [], alts := [], laidByText := true, laidKinds := [.data, .data, .data, .sentinel, .sentinel], laidTests := true, laidLooks := .later }
def LabelOrderCardSaid : Prop := Claim7.holds Tryz.pinned (.plain (OpenSpec.ofChange labelOrderSpec)) labelOrderCard

/-- THE TIED CARD OF 'planispherelaw43.LabelZooms'. -/
def labelZoomsCard : Claim7 := { stood := { row := labelZoomsRow, standIns := [], harness := (true, "f687454fc69d26d6005776614ec353c56c9d1ec4f0edb15da96a5c005575a4e5"), looks := true }, kinds := [], alts := [], laidByText := true, laidKinds := [.data, .data, .data, .sentinel, .sentinel], laidTests := true, laidLooks := .later }
def LabelZoomsCardSaid : Prop := Claim7.holds Tryz.pinned (.plain (OpenSpec.ofChange labelZoomsSpec)) labelZoomsCard

/-- THE TIED CARD OF 'planispherelaw43.LabelNames'. -/
def labelNamesCard : Claim7 := { stood := { row := labelNamesRow, standIns := [], harness := (true, "f687454fc69d26d6005776614ec353c56c9d1ec4f0edb15da96a5c005575a4e5"), looks := true }, kinds := [], alts := [], laidByText := true, laidKinds := [.data, .data, .data, .sentinel, .sentinel], laidTests := true, laidLooks := .later }
def LabelNamesCardSaid : Prop := Claim7.holds Tryz.pinned (.plain (OpenSpec.ofChange labelNamesSpec)) labelNamesCard

/-- THE SECOND FORM's CARD OF 'planispherelaw43.LabelMatchesReference'. -/
def labelMatchesReferenceUptoCard : Claim7 := { stood := { row := labelMatchesReferenceUptoRow, standIns := [], harness := (true, "f687454fc69d26d6005776614ec353c56c9d1ec4f0edb15da96a5c005575a4e5"), looks := true }, kinds := [], alts := [], laidByText := true, laidKinds := [.data, .data, .data, .sentinel, .sentinel], laidTests := true, laidLooks := .later }
def LabelMatchesReferenceUptoCardSaid : Prop := Claim7.holds Tryz.pinned (.plain (OpenSpec.upto labelMatchesReferenceSpec)) labelMatchesReferenceUptoCard

/-- THE SECOND FORM's CARD OF 'planispherelaw43.LabelsMatchReference'. -/
def labelsMatchReferenceUptoCard : Claim7 := { stood := { row := labelsMatchReferenceUptoRow, standIns := [], harness := (true, "f687454fc69d26d6005776614ec353c56c9d1ec4f0edb15da96a5c005575a4e5"), looks := true }, kinds := [], alts := [], laidByText := true, laidKinds := [.data, .data, .data, .sentinel, .sentinel], laidTests := true, laidLooks := .later }
def LabelsMatchReferenceUptoCardSaid : Prop := Claim7.holds Tryz.pinned (.plain (OpenSpec.upto labelsMatchReferenceSpec)) labelsMatchReferenceUptoCard

/-- THE SECOND FORM's CARD OF 'planispherelaw43.LabelApart'. -/
def labelApartUptoCard : Claim7 := { stood := { row := labelApartUptoRow, standIns := [], harness := (true, "f687454fc69d26d6005776614ec353c56c9d1ec4f0edb15da96a5c005575a4e5"), looks := true }, kinds := [], alts := [], laidByText := true, laidKinds := [.data, .data, .data, .sentinel, .sentinel], laidTests := true, laidLooks := .later }
def LabelApartUptoCardSaid : Prop := Claim7.holds Tryz.pinned (.plain (OpenSpec.upto labelApartSpec)) labelApartUptoCard

/-- THE SECOND FORM's CARD OF 'planispherelaw43.LabelPlaces'. -/
def labelPlacesUptoCard : Claim7 := { stood := { row := labelPlacesUptoRow, standIns := [], harness := (true, "f687454fc69d26d6005776614ec353c56c9d1ec4f0edb15da96a5c005575a4e5"), looks := true }, kinds := [], alts := [], laidByText := true, laidKinds := [.data, .data, .data, .sentinel, .sentinel], laidTests := true, laidLooks := .later }
def LabelPlacesUptoCardSaid : Prop := Claim7.holds Tryz.pinned (.plain (OpenSpec.upto labelPlacesSpec)) labelPlacesUptoCard

/-- THE SECOND FORM's CARD OF 'planispherelaw43.LabelOrder'. -/
def labelOrderUptoCard : Claim7 := { stood := { row := labelOrderUptoRow, standIns := [], harness := (true, "f687454fc69d26d6005776614ec353c56c9d1ec4f0edb15da96a5c005575a4e5"), looks := true }, kinds := [], alts := [], laidByText := true, laidKinds := [.data, .data, .data, .sentinel, .sentinel], laidTests := true, laidLooks := .later }
def LabelOrderUptoCardSaid : Prop := Claim7.holds Tryz.pinned (.plain (OpenSpec.upto labelOrderSpec)) labelOrderUptoCard

/-- THE SECOND FORM's CARD OF 'planispherelaw43.LabelZooms'. -/
def labelZoomsUptoCard : Claim7 := { stood := { row := labelZoomsUptoRow, standIns := [], harness := (true, "f687454fc69d26d6005776614ec353c56c9d1ec4f0edb15da96a5c005575a4e5"), looks := true }, kinds := [], alts := [], laidByText := true, laidKinds := [.data, .data, .data, .sentinel, .sentinel], laidTests := true, laidLooks := .later }
def LabelZoomsUptoCardSaid : Prop := Claim7.holds Tryz.pinned (.plain (OpenSpec.upto labelZoomsSpec)) labelZoomsUptoCard

/-- THE SECOND FORM's CARD OF 'planispherelaw43.LabelNames'. -/
def labelNamesUptoCard : Claim7 := { stood := { row := labelNamesUptoRow, standIns := [], harness := (true, "f687454fc69d26d6005776614ec353c56c9d1ec4f0edb15da96a5c005575a4e5"), looks := true }, kinds := [], alts := [], laidByText := true, laidKinds := [.data, .data, .data, .sentinel, .sentinel], laidTests := true, laidLooks := .later }
def LabelNamesUptoCardSaid : Prop := Claim7.holds Tryz.pinned (.plain (OpenSpec.upto labelNamesSpec)) labelNamesUptoCard
end Rows
end Go.Proofs.YtaggohobdjidjaaGreatDoor
