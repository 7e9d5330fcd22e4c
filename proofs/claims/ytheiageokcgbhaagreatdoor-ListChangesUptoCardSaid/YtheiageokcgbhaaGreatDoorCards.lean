/-
  DERIVED. GIVEN WITH THE SEED: THE CARDS: each row of YtheiageokcgbhaaGreatDoorRows.lean that lists a variable, with what it lists TIED to the program's text (the seventh form; the later family's looks); each row that meets fmt, with fmt's text TOLD by the authors' own Lean function (tested against real Go, not proved from fmt's source: count such statements apart). THE CARD IS WHAT COUNTS. Prove the row's statement (the work); the ties are given (YtheiageokcgbhaaGreatDoorTie.lean); close each card by the builder's one call (the guide's Derived/Test/ToyasCard.lean, 'card_holds'). Laid BY PROGRAM, IN A SANDBOX (cutbox-door.mjs). By AI agents, Wed Nov 11 2026. No macro, syntax, notation, axiom, sorry.
-/
import Derived.Test.YtheiageokcgbhaaGreatDoorRows
import GoSem.ClaimSeven
namespace Go.Proofs.YtheiageokcgbhaaGreatDoor
namespace Rows

/-- THE TIED CARD OF 'threadbarelaw02.ListSplits'. -/
def listSplitsCard : Claim7 := { stood := { row := listSplitsRow, standIns := [], harness := (true, "6e17f8f5a2d8ad1f908797b679217275c4cb60089fcc0f384851113577b54249"), looks := true }, kinds := [], alts := [], laidByText := true, laidKinds := [.data, .data, .data, .data, .sentinel, .sentinel, .pinned], laidTests := true, laidLooks := .later }
def ListSplitsCardSaid : Prop := Claim7.holds Tryz.pinned (.plain (OpenSpec.ofChange listSplitsSpec)) listSplitsCard

/-- THE TIED CARD OF 'threadbarelaw02.ListSorts'. -/
def listSortsCard : Claim7 := { stood := { row := listSortsRow, standIns := [], harness := (true, "6e17f8f5a2d8ad1f908797b679217275c4cb60089fcc0f384851113577b54249"), looks := true }, kinds := [], alts := [], laidByText := true, laidKinds := [.data, .data, .data, .data, .sentinel, .sentinel, .pinned], laidTests := true, laidLooks := .later }
def ListSortsCardSaid : Prop := Claim7.holds Tryz.pinned (.plain (OpenSpec.ofChange listSortsSpec)) listSortsCard

/-- THE TIED CARD OF 'threadbarelaw02.ListJoins'. -/
def listJoinsCard : Claim7 := { stood := { row := listJoinsRow, standIns := [], harness := (true, "6e17f8f5a2d8ad1f908797b679217275c4cb60089fcc0f384851113577b54249"), looks := true }, kinds := [], alts := [], laidByText := true, laidKinds := [.data, .data, .data, .data, .sentinel, .sentinel, .pinned], laidTests := true, laidLooks := .later }
def ListJoinsCardSaid : Prop := Claim7.holds Tryz.pinned (.plain (OpenSpec.ofChange listJoinsSpec)) listJoinsCard

/-- THE TIED CARD OF 'threadbarelaw02.ListChanges'. -/
def listChangesCard : Claim7 := { stood := { row := listChangesRow, standIns := [], harness := (true, "6e17f8f5a2d8ad1f908797b679217275c4cb60089fcc0f384851113577b54249"), looks := true }, kinds := [], alts := [], laidByText := true, laidKinds := [.data, .data, .data, .data, .sentinel, .sentinel, .pinned], laidTests := true, laidLooks := .later }
def ListChangesCardSaid : Prop := Claim7.holds Tryz.pinned (.plain (OpenSpec.ofChange listChangesSpec)) listChangesCard

/-- THE TIED CARD OF 'threadbarelaw02.ListConcats'. -/
def listConcatsCard : Claim7 := { stood := { row := listConcatsRow, standIns := [], harness := (true, "6e17f8f5a2d8ad1f908797b679217275c4cb60089fcc0f384851113577b54249"), looks := true }, kinds := [], alts := [], laidByText := true, laidKinds := [.data, .data, .data, .data, .sentinel, .sentinel, .pinned], laidTests := true, laidLooks := .later }
def ListConcatsCardSaid : Prop := Claim7.holds Tryz.pinned (.plain (OpenSpec.ofChange listConcatsSpec)) listConcatsCard

/-- THE TIED CARD OF 'threadbarelaw02.ListPlaces'. -/
def listPlacesCard : Claim7 := { stood := { row := listPlacesRow, standIns := [], harness := (true, "6e17f8f5a2d8ad1f908797b679217275c4cb60089fcc0f384851113577b54249"), looks := true }, kinds := [], alts := [], laidByText := true, laidKinds := [.data, .data, .data, .data, .sentinel, .sentinel, .pinned], laidTests := true, laidLooks := .later }
def ListPlacesCardSaid : Prop := Claim7.holds Tryz.pinned (.plain (OpenSpec.ofChange listPlacesSpec)) listPlacesCard

/-- THE SECOND FORM's CARD OF 'threadbarelaw02.ListSplits'. -/
def listSplitsUptoCard : Claim7 := { stood := { row := listSplitsUptoRow, standIns := [], harness := (true, "6e17f8f5a2d8ad1f908797b679217275c4cb60089fcc0f384851113577b54249"), looks := true }, kinds := [], alts := [], laidByText := true, laidKinds := [.data, .data, .data, .data, .sentinel, .sentinel, .pinned], laidTests := true, laidLooks := .later }
def ListSplitsUptoCardSaid : Prop := Claim7.holds Tryz.pinned (.plain (OpenSpec.upto listSplitsSpec)) listSplitsUptoCard

/-- THE SECOND FORM's CARD OF 'threadbarelaw02.ListSorts'. -/
def listSortsUptoCard : Claim7 := { stood := { row := listSortsUptoRow, standIns := [], harness := (true, "6e17f8f5a2d8ad1f908797b679217275c4cb60089fcc0f384851113577b54249"), looks := true }, kinds := [], alts := [], laidByText := true, laidKinds := [.data, .data, .data, .data, .sentinel, .sentinel, .pinned], laidTests := true, laidLooks := .later }
def ListSortsUptoCardSaid : Prop := Claim7.holds Tryz.pinned (.plain (OpenSpec.upto listSortsSpec)) listSortsUptoCard

/-- THE SECOND FORM's CARD OF 'threadbarelaw02.ListJoins'. -/
def listJoinsUptoCard : Claim7 := { stood := { row := listJoinsUptoRow, standIns := [], harness := (true, "6e17f8f5a2d8ad1f908797b679217275c4cb60089fcc0f384851113577b54249"), looks := true }, kinds := [], alts := [], laidByText := true, laidKinds := [.data, .data, .data, .data, .sentinel, .sentinel, .pinned], laidTests := true, laidLooks := .later }
def ListJoinsUptoCardSaid : Prop := Claim7.holds Tryz.pinned (.plain (OpenSpec.upto listJoinsSpec)) listJoinsUptoCard

/-- THE SECOND FORM's CARD OF 'threadbarelaw02.ListChanges'. -/
def listChangesUptoCard : Claim7 := { stood := { row := listChangesUptoRow, standIns := [], harness := (true, "6e17f8f5a2d8ad1f908797b679217275c4cb60089fcc0f384851113577b54249"), looks := true }, kinds := [], alts := [], laidByText := true, laidKinds := [.data, .data, .data, .data, .sentinel, .sentinel, .pinned], laidTests := true, laidLooks := .later }
def ListChangesUptoCardSaid : Prop := Claim7.holds Tryz.pinned (.plain (OpenSpec.upto listChangesSpec)) listChangesUptoCard

/-- THE SECOND FORM's CARD OF 'threadbarelaw02.ListConcats'. -/
def listConcatsUptoCard : Claim7 := { stood := { row := listConcatsUptoRow, standIns := [], harness := (true, "6e17f8f5a2d8ad1f908797b679217275c4cb60089fcc0f384851113577b54249"), looks := true }, kinds := [], alts := [], laidByText := true, laidKinds := [.data, .data, .data, .data, .sentinel, .sentinel, .pinned], laidTests := true, laidLooks := .later }
def ListConcatsUptoCardSaid : Prop := Claim7.holds Tryz.pinned (.plain (OpenSpec.upto listConcatsSpec)) listConcatsUptoCard

/-- THE SECOND FORM's CARD OF 'threadbarelaw02.ListPlaces'. -/
def listPlacesUptoCard : Claim7 := { stood := { row := listPlacesUptoRow, standIns := [], harness := (true, "6e17f8f5a2d8ad1f908797b679217275c4cb60089fcc0f384851113577b54249"), looks := true }, kinds := [], alts := [], laidByText := true, laidKinds := [.data, .data, .data, .data, .sentinel, .sentinel, .pinned], laidTests := true, laidLooks := .later }
def ListPlacesUptoCardSaid : Prop := Claim7.holds Tryz.pinned (.plain (OpenSpec.upto listPlacesSpec)) listPlacesUptoCard
end Rows
end Go.Proofs.YtheiageokcgbhaaGreatDoor
