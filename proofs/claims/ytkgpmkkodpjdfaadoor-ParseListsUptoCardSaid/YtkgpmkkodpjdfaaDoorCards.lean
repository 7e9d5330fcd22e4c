/-
  DERIVED. GIVEN WITH THE SEED: THE CARDS: each row of YtkgpmkkodpjdfaaDoorRows.lean that lists a variable, with what it lists TIED to the program's text (the seventh form; the later family's looks); each row that meets fmt, with fmt's text TOLD by the authors' own Lean function (tested against real Go, not proved from fmt's source: count such statements apart). THE CARD IS WHAT COUNTS. Prove the row's statement (the work); the ties are given (YtkgpmkkodpjdfaaDoorTie.lean); close each card by the builder's one call (the guide's Derived/Test/ToyasCard.lean, 'card_holds'). Laid BY PROGRAM, IN A SANDBOX (cutbox-door.mjs). By AI agents, Wed Nov 11 2026. No macro, syntax, notation, axiom, sorry.
-/
import Derived.Test.YtkgpmkkodpjdfaaDoorRows
import GoSem.ClaimSeven
namespace Go.Proofs.YtkgpmkkodpjdfaaDoor
namespace Rows

/-- THE TIED CARD OF 'threadbarelaw06.ParseTwo'. -/
def parseTwoCard : Claim7 := { stood := { row := parseTwoRow, standIns := [], harness := (true, "8b8077ed2c06eca574f1e8f19c004b5d9c42a657a014a11b6fb095b1d918885b"), looks := true }, kinds := [], alts := [], laidByText := true, laidKinds := [.data, .pinned], laidTests := true, laidLooks := .later }
def ParseTwoCardSaid : Prop := Claim7.holds Tryd.pinned (.plain (OpenSpec.ofChange parseTwoSpec)) parseTwoCard

/-- THE TIED CARD OF 'threadbarelaw06.ParsePlaces'. -/
def parsePlacesCard : Claim7 := { stood := { row := parsePlacesRow, standIns := [], harness := (true, "8b8077ed2c06eca574f1e8f19c004b5d9c42a657a014a11b6fb095b1d918885b"), looks := true }, kinds := [], alts := [], laidByText := true, laidKinds := [.data, .pinned], laidTests := true, laidLooks := .later }
def ParsePlacesCardSaid : Prop := Claim7.holds Tryd.pinned (.plain (OpenSpec.ofChange parsePlacesSpec)) parsePlacesCard

/-- THE TIED CARD OF 'threadbarelaw06.ParseLists'. -/
def parseListsCard : Claim7 := { stood := { row := parseListsRow, standIns := [], harness := (true, "8b8077ed2c06eca574f1e8f19c004b5d9c42a657a014a11b6fb095b1d918885b"), looks := true }, kinds := [], alts := [], laidByText := true, laidKinds := [.data, .pinned], laidTests := true, laidLooks := .later }
def ParseListsCardSaid : Prop := Claim7.holds Tryd.pinned (.plain (OpenSpec.ofChange parseListsSpec)) parseListsCard

/-- THE SECOND FORM's CARD OF 'threadbarelaw06.ParseTwo'. -/
def parseTwoUptoCard : Claim7 := { stood := { row := parseTwoUptoRow, standIns := [], harness := (true, "8b8077ed2c06eca574f1e8f19c004b5d9c42a657a014a11b6fb095b1d918885b"), looks := true }, kinds := [], alts := [], laidByText := true, laidKinds := [.data, .pinned], laidTests := true, laidLooks := .later }
def ParseTwoUptoCardSaid : Prop := Claim7.holds Tryd.pinned (.plain (OpenSpec.upto parseTwoSpec)) parseTwoUptoCard

/-- THE SECOND FORM's CARD OF 'threadbarelaw06.ParsePlaces'. -/
def parsePlacesUptoCard : Claim7 := { stood := { row := parsePlacesUptoRow, standIns := [], harness := (true, "8b8077ed2c06eca574f1e8f19c004b5d9c42a657a014a11b6fb095b1d918885b"), looks := true }, kinds := [], alts := [], laidByText := true, laidKinds := [.data, .pinned], laidTests := true, laidLooks := .later }
def ParsePlacesUptoCardSaid : Prop := Claim7.holds Tryd.pinned (.plain (OpenSpec.upto parsePlacesSpec)) parsePlacesUptoCard

/-- THE SECOND FORM's CARD OF 'threadbarelaw06.ParseLists'. -/
def parseListsUptoCard : Claim7 := { stood := { row := parseListsUptoRow, standIns := [], harness := (true, "8b8077ed2c06eca574f1e8f19c004b5d9c42a657a014a11b6fb095b1d918885b"), looks := true }, kinds := [], alts := [], laidByText := true, laidKinds := [.data, .pinned], laidTests := true, laidLooks := .later }
def ParseListsUptoCardSaid : Prop := Claim7.holds Tryd.pinned (.plain (OpenSpec.upto parseListsSpec)) parseListsUptoCard
end Rows
end Go.Proofs.YtkgpmkkodpjdfaaDoor
