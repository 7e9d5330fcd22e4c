/-
  DERIVED. GIVEN WITH THE SEED: THE CARDS: each row of YtkgpmkkodpjdfaaGreatDoorRows.lean that lists a variable, with what it lists TIED to the program's text (the seventh form; the later family's looks); each row that meets fmt, with fmt's text TOLD by the authors' own Lean function (tested against real Go, not proved from fmt's source: count such statements apart). THE CARD IS WHAT COUNTS. Prove the row's statement (the work); the ties are given (YtkgpmkkodpjdfaaGreatDoorTie.lean); close each card by the builder's one call (the guide's Derived/Test/ToyasCard.lean, 'card_holds'). Laid BY PROGRAM, IN A SANDBOX (cutbox-door.mjs). By AI agents, Wed Nov 11 2026. No macro, syntax, notation, axiom, sorry.
-/
import Derived.Test.YtkgpmkkodpjdfaaGreatDoorRows
import GoSem.ClaimSeven
namespace Go.Proofs.YtkgpmkkodpjdfaaGreatDoor
namespace Rows

/-- THE TIED CARD OF 'threadbarelaw06.ParseParts'. -/
def parsePartsCard : Claim7 := { stood := { row := parsePartsRow, standIns := [], harness := (true, "45405638d2ba7fb6e5754eb7c37e44c0822ec3634d371d528bb7463e602af5c3"), looks := true }, kinds := [], alts := [], laidByText := true, laidKinds := [.data, .pinned], laidTests := true, laidLooks := .later }
def ParsePartsCardSaid : Prop := Claim7.holds Tryz.pinned (.plain (OpenSpec.ofChange parsePartsSpec)) parsePartsCard

/-- THE TIED CARD OF 'threadbarelaw06.ParseVariables'. -/
def parseVariablesCard : Claim7 := { stood := { row := parseVariablesRow, standIns := [], harness := (true, "45405638d2ba7fb6e5754eb7c37e44c0822ec3634d371d528bb7463e602af5c3"), looks := true }, kinds := [], alts := [], laidByText := true, laidKinds := [.data, .pinned], laidTests := true, laidLooks := .later }
def ParseVariablesCardSaid : Prop := Claim7.holds Tryz.pinned (.plain (OpenSpec.ofChange parseVariablesSpec)) parseVariablesCard

/-- THE TIED CARD OF 'threadbarelaw06.ParseTells'. -/
def parseTellsCard : Claim7 := { stood := { row := parseTellsRow, standIns := [], harness := (true, "45405638d2ba7fb6e5754eb7c37e44c0822ec3634d371d528bb7463e602af5c3"), looks := true }, kinds := [], alts := [], laidByText := true, laidKinds := [.data, .data, .data, .data, .pinned], laidTests := true, laidLooks := .later }
def ParseTellsCardSaid : Prop := Claim7.holds Tryz.pinned (.plain (OpenSpec.ofChange parseTellsSpec)) parseTellsCard

/-- THE SECOND FORM's CARD OF 'threadbarelaw06.ParseParts'. -/
def parsePartsUptoCard : Claim7 := { stood := { row := parsePartsUptoRow, standIns := [], harness := (true, "45405638d2ba7fb6e5754eb7c37e44c0822ec3634d371d528bb7463e602af5c3"), looks := true }, kinds := [], alts := [], laidByText := true, laidKinds := [.data, .pinned], laidTests := true, laidLooks := .later }
def ParsePartsUptoCardSaid : Prop := Claim7.holds Tryz.pinned (.plain (OpenSpec.upto parsePartsSpec)) parsePartsUptoCard

/-- THE SECOND FORM's CARD OF 'threadbarelaw06.ParseVariables'. -/
def parseVariablesUptoCard : Claim7 := { stood := { row := parseVariablesUptoRow, standIns := [], harness := (true, "45405638d2ba7fb6e5754eb7c37e44c0822ec3634d371d528bb7463e602af5c3"), looks := true }, kinds := [], alts := [], laidByText := true, laidKinds := [.data, .pinned], laidTests := true, laidLooks := .later }
def ParseVariablesUptoCardSaid : Prop := Claim7.holds Tryz.pinned (.plain (OpenSpec.upto parseVariablesSpec)) parseVariablesUptoCard

/-- THE SECOND FORM's CARD OF 'threadbarelaw06.ParseTells'. -/
def parseTellsUptoCard : Claim7 := { stood := { row := parseTellsUptoRow, standIns := [], harness := (true, "45405638d2ba7fb6e5754eb7c37e44c0822ec3634d371d528bb7463e602af5c3"), looks := true }, kinds := [], alts := [], laidByText := true, laidKinds := [.data, .data, .data, .data, .pinned], laidTests := true, laidLooks := .later }
def ParseTellsUptoCardSaid : Prop := Claim7.holds Tryz.pinned (.plain (OpenSpec.upto parseTellsSpec)) parseTellsUptoCard
end Rows
end Go.Proofs.YtkgpmkkodpjdfaaGreatDoor
