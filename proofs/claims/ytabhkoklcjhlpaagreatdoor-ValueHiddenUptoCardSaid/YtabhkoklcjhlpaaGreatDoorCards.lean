/-
  DERIVED. GIVEN WITH THE SEED: THE CARDS: each row of YtabhkoklcjhlpaaGreatDoorRows.lean that lists a variable, with what it lists TIED to the program's text (the seventh form; the later family's looks); each row that meets fmt, with fmt's text TOLD by the authors' own Lean function (tested against real Go, not proved from fmt's source: count such statements apart). THE CARD IS WHAT COUNTS. Prove the row's statement (the work); the ties are given (YtabhkoklcjhlpaaGreatDoorTie.lean); close each card by the builder's one call (the guide's Derived/Test/ToyasCard.lean, 'card_holds'). Laid BY PROGRAM, IN A SANDBOX (cutbox-door.mjs). By AI agents, Wed Nov 11 2026. No macro, syntax, notation, axiom, sorry.
-/
import Derived.Test.YtabhkoklcjhlpaaGreatDoorRows
import GoSem.ClaimSeven
namespace Go.Proofs.YtabhkoklcjhlpaaGreatDoor
namespace Rows

/-- THE TIED CARD OF 'threadbarelaw05.ValueAsked'. -/
def valueAskedCard : Claim7 := { stood := { row := valueAskedRow, standIns := [], harness := (true, "ac62454558bbc845c33e1cde31bef0b7d3f918db597d3d79402997f90e0892b7"), looks := true }, kinds := [], alts := [], laidByText := true, laidKinds := [.data, .pinned], laidTests := true, laidLooks := .later }
def ValueAskedCardSaid : Prop := Claim7.holds Tryz.pinned (.plain (OpenSpec.ofChange valueAskedSpec)) valueAskedCard

/-- THE TIED CARD OF 'threadbarelaw05.ValueMakes'. -/
def valueMakesCard : Claim7 := { stood := { row := valueMakesRow, standIns := [], harness := (true, "ac62454558bbc845c33e1cde31bef0b7d3f918db597d3d79402997f90e0892b7"), looks := true }, kinds := [], alts := [], laidByText := true, laidKinds := [.data, .data, .data, .data, .pinned], laidTests := true, laidLooks := .later }
def ValueMakesCardSaid : Prop := Claim7.holds Tryz.pinned (.plain (OpenSpec.ofChange valueMakesSpec)) valueMakesCard

/-- THE TIED CARD OF 'threadbarelaw05.ValueAsks'. -/
def valueAsksCard : Claim7 := { stood := { row := valueAsksRow, standIns := [], harness := (true, "ac62454558bbc845c33e1cde31bef0b7d3f918db597d3d79402997f90e0892b7"), looks := true }, kinds := [], alts := [], laidByText := true, laidKinds := [.data, .data, .data, .data, .pinned], laidTests := true, laidLooks := .later }
def ValueAsksCardSaid : Prop := Claim7.holds Tryz.pinned (.plain (OpenSpec.ofChange valueAsksSpec)) valueAsksCard

/-- THE TIED CARD OF 'threadbarelaw05.ValueHidden'. -/
def valueHiddenCard : Claim7 := { stood := { row := valueHiddenRow, standIns := [], harness := (true, "ac62454558bbc845c33e1cde31bef0b7d3f918db597d3d79402997f90e0892b7"), looks := true }, kinds := [], alts := [], laidByText := true, laidKinds := [.data, .data, .data, .data, .pinned], laidTests := true, laidLooks := .later }
def ValueHiddenCardSaid : Prop := Claim7.holds Tryz.pinned (.plain (OpenSpec.ofChange valueHiddenSpec)) valueHiddenCard

/-- THE TIED CARD OF 'threadbarelaw05.ValueStores'. -/
def valueStoresCard : Claim7 := { stood := { row := valueStoresRow, standIns := [], harness := (true, "ac62454558bbc845c33e1cde31bef0b7d3f918db597d3d79402997f90e0892b7"), looks := true }, kinds := [], alts := [], laidByText := true, laidKinds := [.data, .data, .data, .data, .pinned], laidTests := true, laidLooks := .later }
def ValueStoresCardSaid : Prop := Claim7.holds Tryz.pinned (.plain (OpenSpec.ofChange valueStoresSpec)) valueStoresCard

/-- THE SECOND FORM's CARD OF 'threadbarelaw05.ValueAsked'. -/
def valueAskedUptoCard : Claim7 := { stood := { row := valueAskedUptoRow, standIns := [], harness := (true, "ac62454558bbc845c33e1cde31bef0b7d3f918db597d3d79402997f90e0892b7"), looks := true }, kinds := [], alts := [], laidByText := true, laidKinds := [.data, .pinned], laidTests := true, laidLooks := .later }
def ValueAskedUptoCardSaid : Prop := Claim7.holds Tryz.pinned (.plain (OpenSpec.upto valueAskedSpec)) valueAskedUptoCard

/-- THE SECOND FORM's CARD OF 'threadbarelaw05.ValueMakes'. -/
def valueMakesUptoCard : Claim7 := { stood := { row := valueMakesUptoRow, standIns := [], harness := (true, "ac62454558bbc845c33e1cde31bef0b7d3f918db597d3d79402997f90e0892b7"), looks := true }, kinds := [], alts := [], laidByText := true, laidKinds := [.data, .data, .data, .data, .pinned], laidTests := true, laidLooks := .later }
def ValueMakesUptoCardSaid : Prop := Claim7.holds Tryz.pinned (.plain (OpenSpec.upto valueMakesSpec)) valueMakesUptoCard

/-- THE SECOND FORM's CARD OF 'threadbarelaw05.ValueAsks'. -/
def valueAsksUptoCard : Claim7 := { stood := { row := valueAsksUptoRow, standIns := [], harness := (true, "ac62454558bbc845c33e1cde31bef0b7d3f918db597d3d79402997f90e0892b7"), looks := true }, kinds := [], alts := [], laidByText := true, laidKinds := [.data, .data, .data, .data, .pinned], laidTests := true, laidLooks := .later }
def ValueAsksUptoCardSaid : Prop := Claim7.holds Tryz.pinned (.plain (OpenSpec.upto valueAsksSpec)) valueAsksUptoCard

/-- THE SECOND FORM's CARD OF 'threadbarelaw05.ValueHidden'. -/
def valueHiddenUptoCard : Claim7 := { stood := { row := valueHiddenUptoRow, standIns := [], harness := (true, "ac62454558bbc845c33e1cde31bef0b7d3f918db597d3d79402997f90e0892b7"), looks := true }, kinds := [], alts := [], laidByText := true, laidKinds := [.data, .data, .data, .data, .pinned], laidTests := true, laidLooks := .later }
def ValueHiddenUptoCardSaid : Prop := Claim7.holds Tryz.pinned (.plain (OpenSpec.upto valueHiddenSpec)) valueHiddenUptoCard

/-- THE SECOND FORM's CARD OF 'threadbarelaw05.ValueStores'. -/
def valueStoresUptoCard : Claim7 := { stood := { row := valueStoresUptoRow, standIns := [], harness := (true, "ac62454558bbc845c33e1cde31bef0b7d3f918db597d3d79402997f90e0892b7"), looks := true }, kinds := [], alts := [], laidByText := true, laidKinds := [.data, .data, .data, .data, .pinned], laidTests := true, laidLooks := .later }
def ValueStoresUptoCardSaid : Prop := Claim7.holds Tryz.pinned (.plain (OpenSpec.upto valueStoresSpec)) valueStoresUptoCard
end Rows
end Go.Proofs.YtabhkoklcjhlpaaGreatDoor
