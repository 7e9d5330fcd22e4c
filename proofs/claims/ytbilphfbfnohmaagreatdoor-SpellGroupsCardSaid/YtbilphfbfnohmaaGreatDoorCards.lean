/-
  DERIVED. GIVEN WITH THE SEED: THE CARDS: each row of YtbilphfbfnohmaaGreatDoorRows.lean that lists a variable, with what it lists TIED to the program's text (the seventh form; the later family's looks); each row that meets fmt, with fmt's text TOLD by the authors' own Lean function (tested against real Go, not proved from fmt's source: count such statements apart). THE CARD IS WHAT COUNTS. Prove the row's statement (the work); the ties are given (YtbilphfbfnohmaaGreatDoorTie.lean); close each card by the builder's one call (the guide's Derived/Test/ToyasCard.lean, 'card_holds'). Laid BY PROGRAM, IN A SANDBOX (cutbox-door.mjs). By AI agents, Wed Nov 11 2026. No macro, syntax, notation, axiom, sorry.
-/
import Derived.Test.YtbilphfbfnohmaaGreatDoorRows
import GoSem.ClaimSeven
namespace Go.Proofs.YtbilphfbfnohmaaGreatDoor
namespace Rows

/-- THE TIED CARD OF 'threadbarelaw08.SpellBack'. -/
def spellBackCard : Claim7 := { stood := { row := spellBackRow, standIns := [], harness := (true, "79786d358c82cf0e0870ddb348427279a9613c7fa1a8f13966d1eebab1a03536"), looks := true }, kinds := [], alts := [], laidByText := true, laidKinds := [.data, .data, .data, .data, .pinned, .pinned], laidTests := true, laidLooks := .later }
def SpellBackCardSaid : Prop := Claim7.holds Tryz.pinned (.plain (OpenSpec.ofChange spellBackSpec)) spellBackCard

/-- THE TIED CARD OF 'threadbarelaw08.SpellNumbers'. -/
def spellNumbersCard : Claim7 := { stood := { row := spellNumbersRow, standIns := [], harness := (true, "79786d358c82cf0e0870ddb348427279a9613c7fa1a8f13966d1eebab1a03536"), looks := true }, kinds := [], alts := [], laidByText := true, laidKinds := [.data, .data, .data, .data, .pinned, .pinned], laidTests := true, laidLooks := .later }
def SpellNumbersCardSaid : Prop := Claim7.holds Tryz.pinned (.plain (OpenSpec.ofChange spellNumbersSpec)) spellNumbersCard

/-- THE TIED CARD OF 'threadbarelaw08.SpellColumns'. -/
def spellColumnsCard : Claim7 := { stood := { row := spellColumnsRow, standIns := [], harness := (true, "79786d358c82cf0e0870ddb348427279a9613c7fa1a8f13966d1eebab1a03536"), looks := true }, kinds := [], alts := [], laidByText := true, laidKinds := [.data, .data, .data, .data, .pinned, .pinned], laidTests := true, laidLooks := .later }
def SpellColumnsCardSaid : Prop := Claim7.holds Tryz.pinned (.plain (OpenSpec.ofChange spellColumnsSpec)) spellColumnsCard

/-- THE TIED CARD OF 'threadbarelaw08.SpellWraps'. -/
def spellWrapsCard : Claim7 := { stood := { row := spellWrapsRow, standIns := [], harness := (true, "79786d358c82cf0e0870ddb348427279a9613c7fa1a8f13966d1eebab1a03536"), looks := true }, kinds := [], alts := [], laidByText := true, laidKinds := [.data, .data, .data, .data, .pinned, .pinned], laidTests := true, laidLooks := .later }
def SpellWrapsCardSaid : Prop := Claim7.holds Tryz.pinned (.plain (OpenSpec.ofChange spellWrapsSpec)) spellWrapsCard

/-- THE TIED CARD OF 'threadbarelaw08.SpellPlain'. -/
def spellPlainCard : Claim7 := { stood := { row := spellPlainRow, standIns := [], harness := (true, "79786d358c82cf0e0870ddb348427279a9613c7fa1a8f13966d1eebab1a03536"), looks := true }, kinds := [], alts := [], laidByText := true, laidKinds := [.data, .data, .data, .data, .pinned, .pinned], laidTests := true, laidLooks := .later }
def SpellPlainCardSaid : Prop := Claim7.holds Tryz.pinned (.plain (OpenSpec.ofChange spellPlainSpec)) spellPlainCard

/-- THE TIED CARD OF 'threadbarelaw08.SpellGroups'. -/
def spellGroupsCard : Claim7 := { stood := { row := spellGroupsRow, standIns := [], harness := (true, "79786d358c82cf0e0870ddb348427279a9613c7fa1a8f13966d1eebab1a03536"), looks := true }, kinds := [], alts := [], laidByText := true, laidKinds := [.data, .data, .data, .data, .pinned, .pinned], laidTests := true, laidLooks := .later }
def SpellGroupsCardSaid : Prop := Claim7.holds Tryz.pinned (.plain (OpenSpec.ofChange spellGroupsSpec)) spellGroupsCard

/-- THE TIED CARD OF 'threadbarelaw08.SpellQuoted'. -/
def spellQuotedCard : Claim7 := { stood := { row := spellQuotedRow, standIns := [], harness := (true, "79786d358c82cf0e0870ddb348427279a9613c7fa1a8f13966d1eebab1a03536"), looks := true }, kinds := [], alts := [], laidByText := true, laidKinds := [.data, .data, .data, .data, .pinned, .pinned], laidTests := true, laidLooks := .later }
def SpellQuotedCardSaid : Prop := Claim7.holds Tryz.pinned (.plain (OpenSpec.ofChange spellQuotedSpec)) spellQuotedCard

/-- THE TIED CARD OF 'threadbarelaw08.SpellRomans'. -/
def spellRomansCard : Claim7 := { stood := { row := spellRomansRow, standIns := [], harness := (true, "79786d358c82cf0e0870ddb348427279a9613c7fa1a8f13966d1eebab1a03536"), looks := true }, kinds := [], alts := [], laidByText := true, laidKinds := [.data, .data, .data, .data, .listed, .data, .pinned, .pinned], laidTests := true, laidLooks := .later }
def SpellRomansCardSaid : Prop := Claim7.holds Tryz.pinned (.plain (OpenSpec.ofChange spellRomansSpec)) spellRomansCard

/-- THE SECOND FORM's CARD OF 'threadbarelaw08.SpellBack'. -/
def spellBackUptoCard : Claim7 := { stood := { row := spellBackUptoRow, standIns := [], harness := (true, "79786d358c82cf0e0870ddb348427279a9613c7fa1a8f13966d1eebab1a03536"), looks := true }, kinds := [], alts := [], laidByText := true, laidKinds := [.data, .data, .data, .data, .pinned, .pinned], laidTests := true, laidLooks := .later }
def SpellBackUptoCardSaid : Prop := Claim7.holds Tryz.pinned (.plain (OpenSpec.upto spellBackSpec)) spellBackUptoCard

/-- THE SECOND FORM's CARD OF 'threadbarelaw08.SpellNumbers'. -/
def spellNumbersUptoCard : Claim7 := { stood := { row := spellNumbersUptoRow, standIns := [], harness := (true, "79786d358c82cf0e0870ddb348427279a9613c7fa1a8f13966d1eebab1a03536"), looks := true }, kinds := [], alts := [], laidByText := true, laidKinds := [.data, .data, .data, .data, .pinned, .pinned], laidTests := true, laidLooks := .later }
def SpellNumbersUptoCardSaid : Prop := Claim7.holds Tryz.pinned (.plain (OpenSpec.upto spellNumbersSpec)) spellNumbersUptoCard

/-- THE SECOND FORM's CARD OF 'threadbarelaw08.SpellColumns'. -/
def spellColumnsUptoCard : Claim7 := { stood := { row := spellColumnsUptoRow, standIns := [], harness := (true, "79786d358c82cf0e0870ddb348427279a9613c7fa1a8f13966d1eebab1a03536"), looks := true }, kinds := [], alts := [], laidByText := true, laidKinds := [.data, .data, .data, .data, .pinned, .pinned], laidTests := true, laidLooks := .later }
def SpellColumnsUptoCardSaid : Prop := Claim7.holds Tryz.pinned (.plain (OpenSpec.upto spellColumnsSpec)) spellColumnsUptoCard

/-- THE SECOND FORM's CARD OF 'threadbarelaw08.SpellWraps'. -/
def spellWrapsUptoCard : Claim7 := { stood := { row := spellWrapsUptoRow, standIns := [], harness := (true, "79786d358c82cf0e0870ddb348427279a9613c7fa1a8f13966d1eebab1a03536"), looks := true }, kinds := [], alts := [], laidByText := true, laidKinds := [.data, .data, .data, .data, .pinned, .pinned], laidTests := true, laidLooks := .later }
def SpellWrapsUptoCardSaid : Prop := Claim7.holds Tryz.pinned (.plain (OpenSpec.upto spellWrapsSpec)) spellWrapsUptoCard

/-- THE SECOND FORM's CARD OF 'threadbarelaw08.SpellPlain'. -/
def spellPlainUptoCard : Claim7 := { stood := { row := spellPlainUptoRow, standIns := [], harness := (true, "79786d358c82cf0e0870ddb348427279a9613c7fa1a8f13966d1eebab1a03536"), looks := true }, kinds := [], alts := [], laidByText := true, laidKinds := [.data, .data, .data, .data, .pinned, .pinned], laidTests := true, laidLooks := .later }
def SpellPlainUptoCardSaid : Prop := Claim7.holds Tryz.pinned (.plain (OpenSpec.upto spellPlainSpec)) spellPlainUptoCard

/-- THE SECOND FORM's CARD OF 'threadbarelaw08.SpellGroups'. -/
def spellGroupsUptoCard : Claim7 := { stood := { row := spellGroupsUptoRow, standIns := [], harness := (true, "79786d358c82cf0e0870ddb348427279a9613c7fa1a8f13966d1eebab1a03536"), looks := true }, kinds := [], alts := [], laidByText := true, laidKinds := [.data, .data, .data, .data, .pinned, .pinned], laidTests := true, laidLooks := .later }
def SpellGroupsUptoCardSaid : Prop := Claim7.holds Tryz.pinned (.plain (OpenSpec.upto spellGroupsSpec)) spellGroupsUptoCard

/-- THE SECOND FORM's CARD OF 'threadbarelaw08.SpellQuoted'. -/
def spellQuotedUptoCard : Claim7 := { stood := { row := spellQuotedUptoRow, standIns := [], harness := (true, "79786d358c82cf0e0870ddb348427279a9613c7fa1a8f13966d1eebab1a03536"), looks := true }, kinds := [], alts := [], laidByText := true, laidKinds := [.data, .data, .data, .data, .pinned, .pinned], laidTests := true, laidLooks := .later }
def SpellQuotedUptoCardSaid : Prop := Claim7.holds Tryz.pinned (.plain (OpenSpec.upto spellQuotedSpec)) spellQuotedUptoCard

/-- THE SECOND FORM's CARD OF 'threadbarelaw08.SpellRomans'. -/
def spellRomansUptoCard : Claim7 := { stood := { row := spellRomansUptoRow, standIns := [], harness := (true, "79786d358c82cf0e0870ddb348427279a9613c7fa1a8f13966d1eebab1a03536"), looks := true }, kinds := [], alts := [], laidByText := true, laidKinds := [.data, .data, .data, .data, .listed, .data, .pinned, .pinned], laidTests := true, laidLooks := .later }
def SpellRomansUptoCardSaid : Prop := Claim7.holds Tryz.pinned (.plain (OpenSpec.upto spellRomansSpec)) spellRomansUptoCard
end Rows
end Go.Proofs.YtbilphfbfnohmaaGreatDoor
