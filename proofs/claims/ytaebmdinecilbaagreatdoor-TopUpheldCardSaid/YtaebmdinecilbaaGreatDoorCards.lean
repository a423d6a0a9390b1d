/-
  DERIVED. GIVEN WITH THE SEED: THE CARDS: each row of YtaebmdinecilbaaGreatDoorRows.lean that lists a variable, with what it lists TIED to the program's text (the seventh form; the later family's looks); each row that meets fmt, with fmt's text TOLD by the authors' own Lean function (tested against real Go, not proved from fmt's source: count such statements apart). THE CARD IS WHAT COUNTS. Prove the row's statement (the work); the ties are given (YtaebmdinecilbaaGreatDoorTie.lean); close each card by the builder's one call (the guide's Derived/Test/ToyasCard.lean, 'card_holds'). Laid BY PROGRAM, IN A SANDBOX (cutbox-door.mjs). By AI agents, Wed Nov 11 2026. No macro, syntax, notation, axiom, sorry.
-/
import Derived.Test.YtaebmdinecilbaaGreatDoorRows
import GoSem.ClaimSeven
namespace Go.Proofs.YtaebmdinecilbaaGreatDoor
namespace Rows

/-- THE TIED CARD OF 'roquettop.TopUpheld'. -/
def topUpheldCard : Claim7 := { stood := { row := topUpheldRow, standIns := [], harness := (true, "6614fe415a622d9a57241400fc89b72ccfff7226e21f18af766c14cdfcb11497"), looks := true }, kinds := [], alts := [], laidByText := true, laidKinds := [.handle], laidTests := true, laidLooks := .later }
def TopUpheldCardSaid : Prop := Claim7.holds Tryz.pinned (.plain (OpenSpec.ofChange topUpheldSpec)) topUpheldCard

/-- THE TIED CARD OF 'roquettop.TopEntered'. -/
def topEnteredCard : Claim7 := { stood := { row := topEnteredRow, standIns := [], harness := (true, "6614fe415a622d9a57241400fc89b72ccfff7226e21f18af766c14cdfcb11497"), looks := true }, kinds := [], alts := [], laidByText := true, laidKinds := [.handle], laidTests := true, laidLooks := .later }
def TopEnteredCardSaid : Prop := Claim7.holds Tryz.pinned (.plain (OpenSpec.ofChange topEnteredSpec)) topEnteredCard

/-- THE TIED CARD OF 'roquetlaw12.ClubNil'. -/
def clubNilCard : Claim7 := { stood := { row := clubNilRow, standIns := [], harness := (true, "6614fe415a622d9a57241400fc89b72ccfff7226e21f18af766c14cdfcb11497"), looks := true }, kinds := [], alts := [], laidByText := true, laidKinds := [.handle], laidTests := true, laidLooks := .later }
def ClubNilCardSaid : Prop := Claim7.holds Tryz.pinned (.plain (OpenSpec.ofChange clubNilSpec)) clubNilCard

/-- THE TIED CARD OF 'roquetlaw12.ClubKnown'. -/
def clubKnownCard : Claim7 := { stood := { row := clubKnownRow, standIns := [], harness := (true, "6614fe415a622d9a57241400fc89b72ccfff7226e21f18af766c14cdfcb11497"), looks := true }, kinds := [], alts := [], laidByText := true, laidKinds := [.data, .data, .data, .handle], laidTests := true, laidLooks := .later }
def ClubKnownCardSaid : Prop := Claim7.holds Tryz.pinned (.plain (OpenSpec.ofChange clubKnownSpec)) clubKnownCard

/-- THE SECOND FORM's CARD OF 'roquettop.TopUpheld'. -/
def topUpheldUptoCard : Claim7 := { stood := { row := topUpheldUptoRow, standIns := [], harness := (true, "6614fe415a622d9a57241400fc89b72ccfff7226e21f18af766c14cdfcb11497"), looks := true }, kinds := [], alts := [], laidByText := true, laidKinds := [.handle], laidTests := true, laidLooks := .later }
def TopUpheldUptoCardSaid : Prop := Claim7.holds Tryz.pinned (.plain (OpenSpec.upto topUpheldSpec)) topUpheldUptoCard

/-- THE SECOND FORM's CARD OF 'roquettop.TopEntered'. -/
def topEnteredUptoCard : Claim7 := { stood := { row := topEnteredUptoRow, standIns := [], harness := (true, "6614fe415a622d9a57241400fc89b72ccfff7226e21f18af766c14cdfcb11497"), looks := true }, kinds := [], alts := [], laidByText := true, laidKinds := [.handle], laidTests := true, laidLooks := .later }
def TopEnteredUptoCardSaid : Prop := Claim7.holds Tryz.pinned (.plain (OpenSpec.upto topEnteredSpec)) topEnteredUptoCard

/-- THE SECOND FORM's CARD OF 'roquetlaw12.ClubNil'. -/
def clubNilUptoCard : Claim7 := { stood := { row := clubNilUptoRow, standIns := [], harness := (true, "6614fe415a622d9a57241400fc89b72ccfff7226e21f18af766c14cdfcb11497"), looks := true }, kinds := [], alts := [], laidByText := true, laidKinds := [.handle], laidTests := true, laidLooks := .later }
def ClubNilUptoCardSaid : Prop := Claim7.holds Tryz.pinned (.plain (OpenSpec.upto clubNilSpec)) clubNilUptoCard

/-- THE SECOND FORM's CARD OF 'roquetlaw12.ClubKnown'. -/
def clubKnownUptoCard : Claim7 := { stood := { row := clubKnownUptoRow, standIns := [], harness := (true, "6614fe415a622d9a57241400fc89b72ccfff7226e21f18af766c14cdfcb11497"), looks := true }, kinds := [], alts := [], laidByText := true, laidKinds := [.data, .data, .data, .handle], laidTests := true, laidLooks := .later }
def ClubKnownUptoCardSaid : Prop := Claim7.holds Tryz.pinned (.plain (OpenSpec.upto clubKnownSpec)) clubKnownUptoCard
end Rows
end Go.Proofs.YtaebmdinecilbaaGreatDoor
