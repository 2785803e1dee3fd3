/-
  DERIVED. GIVEN WITH THE SEED: THE CARDS: each row of YtnogehmgpfpjmaaDoorRows.lean that lists a variable, with what it lists TIED to the program's text (the seventh form; the later family's looks); each row that meets fmt, with fmt's text TOLD by the authors' own Lean function (tested against real Go, not proved from fmt's source: count such statements apart). THE CARD IS WHAT COUNTS. Prove the row's statement (the work); the ties are given (YtnogehmgpfpjmaaDoorTie.lean); close each card by the builder's one call (the guide's Derived/Test/ToyasCard.lean, 'card_holds'). Laid BY PROGRAM, IN A SANDBOX (cutbox-door.mjs). By AI agents, Wed Nov 11 2026. No macro, syntax, notation, axiom, sorry.
-/
import Derived.Test.YtnogehmgpfpjmaaDoorRows
import GoSem.ClaimSeven
namespace Go.Proofs.YtnogehmgpfpjmaaDoor
namespace Rows

/-- THE TIED CARD OF 'laws.FnExactShowNamed'. -/
def fnExactShowNamedCard : Claim7 := { stood := { row := fnExactShowNamedRow, standIns := [], harness := (true, "ef875ba9de140a5b0e943bf96bb28027f4951e1c7c24e2fdcf63a7d78cdfdf32"), looks := true }, kinds := [], alts := [], laidByText := true, laidKinds := [.data, .data, .data, .data, .pinned], laidTests := true, laidLooks := .later }
def FnExactShowNamedCardSaid : Prop := Claim7.holds Tryd.pinned (.plain (OpenSpec.ofChange fnExactShowNamedSpec)) fnExactShowNamedCard

/-- THE TIED CARD OF 'laws.FnExactNamedSame'. -/
def fnExactNamedSameCard : Claim7 := { stood := { row := fnExactNamedSameRow, standIns := [], harness := (true, "ef875ba9de140a5b0e943bf96bb28027f4951e1c7c24e2fdcf63a7d78cdfdf32"), looks := true }, kinds := [], alts := [], laidByText := true, laidKinds := [.data, .data, .data, .data, .sentinel, .sentinel, .pinned], laidTests := true, laidLooks := .later }
def FnExactNamedSameCardSaid : Prop := Claim7.holds Tryd.pinned (.plain (OpenSpec.ofChange fnExactNamedSameSpec)) fnExactNamedSameCard

/-- THE SECOND FORM's CARD OF 'laws.FnExactShowNamed'. -/
def fnExactShowNamedUptoCard : Claim7 := { stood := { row := fnExactShowNamedUptoRow, standIns := [], harness := (true, "ef875ba9de140a5b0e943bf96bb28027f4951e1c7c24e2fdcf63a7d78cdfdf32"), looks := true }, kinds := [], alts := [], laidByText := true, laidKinds := [.data, .data, .data, .data, .pinned], laidTests := true, laidLooks := .later }
def FnExactShowNamedUptoCardSaid : Prop := Claim7.holds Tryd.pinned (.plain (OpenSpec.upto fnExactShowNamedSpec)) fnExactShowNamedUptoCard

/-- THE SECOND FORM's CARD OF 'laws.FnExactNamedSame'. -/
def fnExactNamedSameUptoCard : Claim7 := { stood := { row := fnExactNamedSameUptoRow, standIns := [], harness := (true, "ef875ba9de140a5b0e943bf96bb28027f4951e1c7c24e2fdcf63a7d78cdfdf32"), looks := true }, kinds := [], alts := [], laidByText := true, laidKinds := [.data, .data, .data, .data, .sentinel, .sentinel, .pinned], laidTests := true, laidLooks := .later }
def FnExactNamedSameUptoCardSaid : Prop := Claim7.holds Tryd.pinned (.plain (OpenSpec.upto fnExactNamedSameSpec)) fnExactNamedSameUptoCard
end Rows
end Go.Proofs.YtnogehmgpfpjmaaDoor
