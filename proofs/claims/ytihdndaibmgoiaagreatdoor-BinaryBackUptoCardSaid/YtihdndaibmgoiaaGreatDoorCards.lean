/-
  DERIVED. GIVEN WITH THE SEED: THE CARDS: each row of YtihdndaibmgoiaaGreatDoorRows.lean that lists a variable, with what it lists TIED to the program's text (the seventh form; the later family's looks); each row that meets fmt, with fmt's text TOLD by the authors' own Lean function (tested against real Go, not proved from fmt's source: count such statements apart). THE CARD IS WHAT COUNTS. Prove the row's statement (the work); the ties are given (YtihdndaibmgoiaaGreatDoorTie.lean); close each card by the builder's one call (the guide's Derived/Test/ToyasCard.lean, 'card_holds'). Laid BY PROGRAM, IN A SANDBOX (cutbox-door.mjs). By AI agents, Wed Nov 11 2026. No macro, syntax, notation, axiom, sorry.
-/
import Derived.Test.YtihdndaibmgoiaaGreatDoorRows
import GoSem.ClaimSeven
namespace Go.Proofs.YtihdndaibmgoiaaGreatDoor
namespace Rows

/-- THE TIED CARD OF 'threadbarelaw10.BinaryBack'. -/
def binaryBackCard : Claim7 := { stood := { row := binaryBackRow, standIns := [], harness := (true, "3428560aa85797a56c62c6f719721f9571da952dab813b4c552883a9246030ac"), looks := true }, kinds := [], alts := [], laidByText := true, laidKinds := [.data, .data, .data, .data, .sentinel, .sentinel, .pinned], laidTests := true, laidLooks := .later }
def BinaryBackCardSaid : Prop := Claim7.holds Tryz.pinned (.plain (OpenSpec.ofChange binaryBackSpec)) binaryBackCard

/-- THE TIED CARD OF 'threadbarelaw10.BinarySums'. -/
def binarySumsCard : Claim7 := { stood := { row := binarySumsRow, standIns := [], harness := (true, "3428560aa85797a56c62c6f719721f9571da952dab813b4c552883a9246030ac"), looks := true }, kinds := [], alts := [], laidByText := true, laidKinds := [.data, .data, .data, .data, .sentinel, .sentinel, .pinned], laidTests := true, laidLooks := .later }
def BinarySumsCardSaid : Prop := Claim7.holds Tryz.pinned (.plain (OpenSpec.ofChange binarySumsSpec)) binarySumsCard

/-- THE TIED CARD OF 'threadbarelaw10.BinaryUnpacks'. -/
def binaryUnpacksCard : Claim7 := { stood := { row := binaryUnpacksRow, standIns := [], harness := (true, "3428560aa85797a56c62c6f719721f9571da952dab813b4c552883a9246030ac"), looks := true }, kinds := [], alts := [], laidByText := true, laidKinds := [.data, .data, .data, .data, .sentinel, .sentinel, .pinned], laidTests := true, laidLooks := .later }
def BinaryUnpacksCardSaid : Prop := Claim7.holds Tryz.pinned (.plain (OpenSpec.ofChange binaryUnpacksSpec)) binaryUnpacksCard

/-- THE TIED CARD OF 'threadbarelaw10.BinaryPoints'. -/
def binaryPointsCard : Claim7 := { stood := { row := binaryPointsRow, standIns := [], harness := (true, "3428560aa85797a56c62c6f719721f9571da952dab813b4c552883a9246030ac"), looks := true }, kinds := [], alts := [], laidByText := true, laidKinds := [.data, .data, .data, .data, .sentinel, .sentinel, .pinned], laidTests := true, laidLooks := .later }
def BinaryPointsCardSaid : Prop := Claim7.holds Tryz.pinned (.plain (OpenSpec.ofChange binaryPointsSpec)) binaryPointsCard

/-- THE TIED CARD OF 'threadbarelaw10.BinaryCodes'. -/
def binaryCodesCard : Claim7 := { stood := { row := binaryCodesRow, standIns := [], harness := (true, "3428560aa85797a56c62c6f719721f9571da952dab813b4c552883a9246030ac"), looks := true }, kinds := [], alts := [], laidByText := true, laidKinds := [.data, .data, .data, .data, .sentinel, .sentinel, .pinned, .pinned], laidTests := true, laidLooks := .later }
def BinaryCodesCardSaid : Prop := Claim7.holds Tryz.pinned (.plain (OpenSpec.ofChange binaryCodesSpec)) binaryCodesCard

/-- THE TIED CARD OF 'threadbarelaw10.BinaryPacks'. -/
def binaryPacksCard : Claim7 := { stood := { row := binaryPacksRow, standIns := [], harness := (true, "3428560aa85797a56c62c6f719721f9571da952dab813b4c552883a9246030ac"), looks := true }, kinds := [], alts := [], laidByText := true, laidKinds := [.data, .data, .data, .data, .sentinel, .sentinel, .pinned, .pinned], laidTests := true, laidLooks := .later }
def BinaryPacksCardSaid : Prop := Claim7.holds Tryz.pinned (.plain (OpenSpec.ofChange binaryPacksSpec)) binaryPacksCard

/-- THE TIED CARD OF 'threadbarelaw10.BinaryDecodes'. -/
def binaryDecodesCard : Claim7 := { stood := { row := binaryDecodesRow, standIns := [], harness := (true, "3428560aa85797a56c62c6f719721f9571da952dab813b4c552883a9246030ac"), looks := true }, kinds := [], alts := [], laidByText := true, laidKinds := [.data, .data, .data, .data, .sentinel, .sentinel, .pinned, .pinned], laidTests := true, laidLooks := .later }
def BinaryDecodesCardSaid : Prop := Claim7.holds Tryz.pinned (.plain (OpenSpec.ofChange binaryDecodesSpec)) binaryDecodesCard

/-- THE SECOND FORM's CARD OF 'threadbarelaw10.BinaryBack'. -/
def binaryBackUptoCard : Claim7 := { stood := { row := binaryBackUptoRow, standIns := [], harness := (true, "3428560aa85797a56c62c6f719721f9571da952dab813b4c552883a9246030ac"), looks := true }, kinds := [], alts := [], laidByText := true, laidKinds := [.data, .data, .data, .data, .sentinel, .sentinel, .pinned], laidTests := true, laidLooks := .later }
def BinaryBackUptoCardSaid : Prop := Claim7.holds Tryz.pinned (.plain (OpenSpec.upto binaryBackSpec)) binaryBackUptoCard

/-- THE SECOND FORM's CARD OF 'threadbarelaw10.BinarySums'. -/
def binarySumsUptoCard : Claim7 := { stood := { row := binarySumsUptoRow, standIns := [], harness := (true, "3428560aa85797a56c62c6f719721f9571da952dab813b4c552883a9246030ac"), looks := true }, kinds := [], alts := [], laidByText := true, laidKinds := [.data, .data, .data, .data, .sentinel, .sentinel, .pinned], laidTests := true, laidLooks := .later }
def BinarySumsUptoCardSaid : Prop := Claim7.holds Tryz.pinned (.plain (OpenSpec.upto binarySumsSpec)) binarySumsUptoCard

/-- THE SECOND FORM's CARD OF 'threadbarelaw10.BinaryUnpacks'. -/
def binaryUnpacksUptoCard : Claim7 := { stood := { row := binaryUnpacksUptoRow, standIns := [], harness := (true, "3428560aa85797a56c62c6f719721f9571da952dab813b4c552883a9246030ac"), looks := true }, kinds := [], alts := [], laidByText := true, laidKinds := [.data, .data, .data, .data, .sentinel, .sentinel, .pinned], laidTests := true, laidLooks := .later }
def BinaryUnpacksUptoCardSaid : Prop := Claim7.holds Tryz.pinned (.plain (OpenSpec.upto binaryUnpacksSpec)) binaryUnpacksUptoCard

/-- THE SECOND FORM's CARD OF 'threadbarelaw10.BinaryPoints'. -/
def binaryPointsUptoCard : Claim7 := { stood := { row := binaryPointsUptoRow, standIns := [], harness := (true, "3428560aa85797a56c62c6f719721f9571da952dab813b4c552883a9246030ac"), looks := true }, kinds := [], alts := [], laidByText := true, laidKinds := [.data, .data, .data, .data, .sentinel, .sentinel, .pinned], laidTests := true, laidLooks := .later }
def BinaryPointsUptoCardSaid : Prop := Claim7.holds Tryz.pinned (.plain (OpenSpec.upto binaryPointsSpec)) binaryPointsUptoCard

/-- THE SECOND FORM's CARD OF 'threadbarelaw10.BinaryCodes'. -/
def binaryCodesUptoCard : Claim7 := { stood := { row := binaryCodesUptoRow, standIns := [], harness := (true, "3428560aa85797a56c62c6f719721f9571da952dab813b4c552883a9246030ac"), looks := true }, kinds := [], alts := [], laidByText := true, laidKinds := [.data, .data, .data, .data, .sentinel, .sentinel, .pinned, .pinned], laidTests := true, laidLooks := .later }
def BinaryCodesUptoCardSaid : Prop := Claim7.holds Tryz.pinned (.plain (OpenSpec.upto binaryCodesSpec)) binaryCodesUptoCard

/-- THE SECOND FORM's CARD OF 'threadbarelaw10.BinaryPacks'. -/
def binaryPacksUptoCard : Claim7 := { stood := { row := binaryPacksUptoRow, standIns := [], harness := (true, "3428560aa85797a56c62c6f719721f9571da952dab813b4c552883a9246030ac"), looks := true }, kinds := [], alts := [], laidByText := true, laidKinds := [.data, .data, .data, .data, .sentinel, .sentinel, .pinned, .pinned], laidTests := true, laidLooks := .later }
def BinaryPacksUptoCardSaid : Prop := Claim7.holds Tryz.pinned (.plain (OpenSpec.upto binaryPacksSpec)) binaryPacksUptoCard

/-- THE SECOND FORM's CARD OF 'threadbarelaw10.BinaryDecodes'. -/
def binaryDecodesUptoCard : Claim7 := { stood := { row := binaryDecodesUptoRow, standIns := [], harness := (true, "3428560aa85797a56c62c6f719721f9571da952dab813b4c552883a9246030ac"), looks := true }, kinds := [], alts := [], laidByText := true, laidKinds := [.data, .data, .data, .data, .sentinel, .sentinel, .pinned, .pinned], laidTests := true, laidLooks := .later }
def BinaryDecodesUptoCardSaid : Prop := Claim7.holds Tryz.pinned (.plain (OpenSpec.upto binaryDecodesSpec)) binaryDecodesUptoCard
end Rows
end Go.Proofs.YtihdndaibmgoiaaGreatDoor
