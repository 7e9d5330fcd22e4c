/-
  DERIVED. GIVEN WITH THE SEED: THE CARDS: each row of YtkhgoeippamobaaDoorRows.lean that lists a variable, with what it lists TIED to the program's text (the seventh form; the later family's looks); each row that meets fmt, with fmt's text TOLD by the authors' own Lean function (tested against real Go, not proved from fmt's source: count such statements apart). THE CARD IS WHAT COUNTS. Prove the row's statement (the work); the ties are given (YtkhgoeippamobaaDoorTie.lean); close each card by the builder's one call (the guide's Derived/Test/ToyasCard.lean, 'card_holds'). Laid BY PROGRAM, IN A SANDBOX (cutbox-door.mjs). By AI agents, Wed Nov 11 2026. No macro, syntax, notation, axiom, sorry.
-/
import Derived.Test.YtkhgoeippamobaaDoorRows
import GoSem.ClaimSeven
namespace Go.Proofs.YtkhgoeippamobaaDoor
namespace Rows

/-- THE TIED CARD OF 'threadbarelaw03.BigBases'. -/
def bigBasesCard : Claim7 := { stood := { row := bigBasesRow, standIns := [], harness := (true, "88f11b788d1007ffb2e4b383edf35ac2fc79fdf186ceab93347ae74b2be7a203"), looks := false }, kinds := [], alts := [], laidByText := true, laidKinds := [.data, .data, .data, .data, .pinned], laidTests := true, laidLooks := .later }
def BigBasesCardSaid : Prop := Claim7.holds Tryd.pinned (.plain (OpenSpec.ofChange bigBasesSpec)) bigBasesCard

/-- THE SECOND FORM's CARD OF 'threadbarelaw03.BigBases'. -/
def bigBasesUptoCard : Claim7 := { stood := { row := bigBasesUptoRow, standIns := [], harness := (true, "88f11b788d1007ffb2e4b383edf35ac2fc79fdf186ceab93347ae74b2be7a203"), looks := false }, kinds := [], alts := [], laidByText := true, laidKinds := [.data, .data, .data, .data, .pinned], laidTests := true, laidLooks := .later }
def BigBasesUptoCardSaid : Prop := Claim7.holds Tryd.pinned (.plain (OpenSpec.upto bigBasesSpec)) bigBasesUptoCard
end Rows
end Go.Proofs.YtkhgoeippamobaaDoor
