/-
  DERIVED. GIVEN WITH THE SEED: THE CARDS: each row of YtnogehmgpfpjmaaGreatDoorRows.lean that lists a variable, with what it lists TIED to the program's text (the seventh form; the later family's looks); each row that meets fmt, with fmt's text TOLD by the authors' own Lean function (tested against real Go, not proved from fmt's source: count such statements apart). THE CARD IS WHAT COUNTS. Prove the row's statement (the work); the ties are given (YtnogehmgpfpjmaaGreatDoorTie.lean); close each card by the builder's one call (the guide's Derived/Test/ToyasCard.lean, 'card_holds'). Laid BY PROGRAM, IN A SANDBOX (cutbox-door.mjs). By AI agents, Wed Nov 11 2026. No macro, syntax, notation, axiom, sorry.
-/
import Derived.Test.YtnogehmgpfpjmaaGreatDoorRows
import GoSem.ClaimSeven
namespace Go.Proofs.YtnogehmgpfpjmaaGreatDoor
namespace Rows

/-- THE TIED CARD OF 'laws.FnExactParseNamed'. -/
def fnExactParseNamedCard : Claim7 := { stood := { row := fnExactParseNamedRow, standIns := [], harness := (true, "821d947ba0236173565399f710746b53559c20ee30ed911d3b0a0953a87d700c"), looks := true }, kinds := [], alts := [], laidByText := true, laidKinds := [.data, .data, .data, .data, .sentinel, .sentinel, .pinned], laidTests := true, laidLooks := .later }
def FnExactParseNamedCardSaid : Prop := Claim7.holds Tryz.pinned (.plain (OpenSpec.ofChange fnExactParseNamedSpec)) fnExactParseNamedCard

/-- THE TIED CARD OF 'laws.FnParseNamed'. -/
def fnParseNamedCard : Claim7 := { stood := { row := fnParseNamedRow, standIns := [], harness := (true, "821d947ba0236173565399f710746b53559c20ee30ed911d3b0a0953a87d700c"), looks := true }, kinds := [], alts := [], laidByText := true, laidKinds := [.data, .data, .data, .data, .sentinel, .sentinel, .pinned], laidTests := true, laidLooks := .later }
def FnParseNamedCardSaid : Prop := Claim7.holds Tryz.pinned (.plain (OpenSpec.ofChange fnParseNamedSpec)) fnParseNamedCard

/-- THE TIED CARD OF 'laws.FnNamedSame'. -/
def fnNamedSameCard : Claim7 := { stood := { row := fnNamedSameRow, standIns := [], harness := (true, "821d947ba0236173565399f710746b53559c20ee30ed911d3b0a0953a87d700c"), looks := true }, kinds := [], alts := [], laidByText := true, laidKinds := [.data, .data, .data, .data, .sentinel, .sentinel, .pinned], laidTests := true, laidLooks := .later }
def FnNamedSameCardSaid : Prop := Claim7.holds Tryz.pinned (.plain (OpenSpec.ofChange fnNamedSameSpec)) fnNamedSameCard

/-- THE TIED CARD OF 'laws.FnNamesOther'. -/
def fnNamesOtherCard : Claim7 := { stood := { row := fnNamesOtherRow, standIns := [], harness := (true, "821d947ba0236173565399f710746b53559c20ee30ed911d3b0a0953a87d700c"), looks := true }, kinds := [], alts := [], laidByText := true, laidKinds := [.data, .data, .data, .data, .sentinel, .sentinel, .pinned], laidTests := true, laidLooks := .later }
def FnNamesOtherCardSaid : Prop := Claim7.holds Tryz.pinned (.plain (OpenSpec.ofChange fnNamesOtherSpec)) fnNamesOtherCard

/-- THE TIED CARD OF 'laws.FnShowNamed'. -/
def fnShowNamedCard : Claim7 := { stood := { row := fnShowNamedRow, standIns := [], harness := (true, "821d947ba0236173565399f710746b53559c20ee30ed911d3b0a0953a87d700c"), looks := true }, kinds := [], alts := [], laidByText := true, laidKinds := [.data, .data, .data, .data, .sentinel, .sentinel, .pinned], laidTests := true, laidLooks := .later }
def FnShowNamedCardSaid : Prop := Claim7.holds Tryz.pinned (.plain (OpenSpec.ofChange fnShowNamedSpec)) fnShowNamedCard

/-- THE TIED CARD OF 'laws.FnNamedWide'. -/
def fnNamedWideCard : Claim7 := { stood := { row := fnNamedWideRow, standIns := [], harness := (true, "821d947ba0236173565399f710746b53559c20ee30ed911d3b0a0953a87d700c"), looks := true }, kinds := [], alts := [], laidByText := true, laidKinds := [.data, .data, .data, .data, .sentinel, .sentinel, .pinned], laidTests := true, laidLooks := .later }
def FnNamedWideCardSaid : Prop := Claim7.holds Tryz.pinned (.plain (OpenSpec.ofChange fnNamedWideSpec)) fnNamedWideCard

/-- THE SECOND FORM's CARD OF 'laws.FnExactParseNamed'. -/
def fnExactParseNamedUptoCard : Claim7 := { stood := { row := fnExactParseNamedUptoRow, standIns := [], harness := (true, "821d947ba0236173565399f710746b53559c20ee30ed911d3b0a0953a87d700c"), looks := true }, kinds := [], alts := [], laidByText := true, laidKinds := [.data, .data, .data, .data, .sentinel, .sentinel, .pinned], laidTests := true, laidLooks := .later }
def FnExactParseNamedUptoCardSaid : Prop := Claim7.holds Tryz.pinned (.plain (OpenSpec.upto fnExactParseNamedSpec)) fnExactParseNamedUptoCard

/-- THE SECOND FORM's CARD OF 'laws.FnParseNamed'. -/
def fnParseNamedUptoCard : Claim7 := { stood := { row := fnParseNamedUptoRow, standIns := [], harness := (true, "821d947ba0236173565399f710746b53559c20ee30ed911d3b0a0953a87d700c"), looks := true }, kinds := [], alts := [], laidByText := true, laidKinds := [.data, .data, .data, .data, .sentinel, .sentinel, .pinned], laidTests := true, laidLooks := .later }
def FnParseNamedUptoCardSaid : Prop := Claim7.holds Tryz.pinned (.plain (OpenSpec.upto fnParseNamedSpec)) fnParseNamedUptoCard

/-- THE SECOND FORM's CARD OF 'laws.FnNamedSame'. -/
def fnNamedSameUptoCard : Claim7 := { stood := { row := fnNamedSameUptoRow, standIns := [], harness := (true, "821d947ba0236173565399f710746b53559c20ee30ed911d3b0a0953a87d700c"), looks := true }, kinds := [], alts := [], laidByText := true, laidKinds := [.data, .data, .data, .data, .sentinel, .sentinel, .pinned], laidTests := true, laidLooks := .later }
def FnNamedSameUptoCardSaid : Prop := Claim7.holds Tryz.pinned (.plain (OpenSpec.upto fnNamedSameSpec)) fnNamedSameUptoCard

/-- THE SECOND FORM's CARD OF 'laws.FnNamesOther'. -/
def fnNamesOtherUptoCard : Claim7 := { stood := { row := fnNamesOtherUptoRow, standIns := [], harness := (true, "821d947ba0236173565399f710746b53559c20ee30ed911d3b0a0953a87d700c"), looks := true }, kinds := [], alts := [], laidByText := true, laidKinds := [.data, .data, .data, .data, .sentinel, .sentinel, .pinned], laidTests := true, laidLooks := .later }
def FnNamesOtherUptoCardSaid : Prop := Claim7.holds Tryz.pinned (.plain (OpenSpec.upto fnNamesOtherSpec)) fnNamesOtherUptoCard

/-- THE SECOND FORM's CARD OF 'laws.FnShowNamed'. -/
def fnShowNamedUptoCard : Claim7 := { stood := { row := fnShowNamedUptoRow, standIns := [], harness := (true, "821d947ba0236173565399f710746b53559c20ee30ed911d3b0a0953a87d700c"), looks := true }, kinds := [], alts := [], laidByText := true, laidKinds := [.data, .data, .data, .data, .sentinel, .sentinel, .pinned], laidTests := true, laidLooks := .later }
def FnShowNamedUptoCardSaid : Prop := Claim7.holds Tryz.pinned (.plain (OpenSpec.upto fnShowNamedSpec)) fnShowNamedUptoCard

/-- THE SECOND FORM's CARD OF 'laws.FnNamedWide'. -/
def fnNamedWideUptoCard : Claim7 := { stood := { row := fnNamedWideUptoRow, standIns := [], harness := (true, "821d947ba0236173565399f710746b53559c20ee30ed911d3b0a0953a87d700c"), looks := true }, kinds := [], alts := [], laidByText := true, laidKinds := [.data, .data, .data, .data, .sentinel, .sentinel, .pinned], laidTests := true, laidLooks := .later }
def FnNamedWideUptoCardSaid : Prop := Claim7.holds Tryz.pinned (.plain (OpenSpec.upto fnNamedWideSpec)) fnNamedWideUptoCard
end Rows
end Go.Proofs.YtnogehmgpfpjmaaGreatDoor
