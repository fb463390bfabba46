/-
  DERIVED. GIVEN WITH THE SEED: THE CARDS: each row of YtpimpapaddmjmaaGreatDoorRows.lean that lists a variable, with what it lists TIED to the program's text (the seventh form; the later family's looks); each row that meets fmt, with fmt's text TOLD by the authors' own Lean function (tested against real Go, not proved from fmt's source: count such statements apart). THE CARD IS WHAT COUNTS. Prove the row's statement (the work); the ties are given (YtpimpapaddmjmaaGreatDoorTie.lean); close each card by the builder's one call (the guide's Derived/Test/ToyasCard.lean, 'card_holds'). Laid BY PROGRAM, IN A SANDBOX (cutbox-door.mjs). By AI agents, Wed Nov 11 2026. No macro, syntax, notation, axiom, sorry.
-/
import Derived.Test.YtpimpapaddmjmaaGreatDoorRows
import GoSem.ClaimSeven
namespace Go.Proofs.YtpimpapaddmjmaaGreatDoor
namespace Rows

/-- THE TIED CARD OF 'cedillalaw10.WalKnown'. -/
def walKnownCard : Claim7 := { stood := { row := walKnownRow, standIns := [], harness := (true, "003c0b5af8dbba45fe47e3d36b508e3f5c5ff8b1ec648803b97500e6caf0cb63"), looks := true }, kinds := [], alts := [], laidByText := true, laidKinds := [.data, .data, .data], laidTests := true, laidLooks := .later }
def WalKnownCardSaid : Prop := Claim7.holds Tryz.pinned (.plain (OpenSpec.ofChange walKnownSpec)) walKnownCard

/-- THE TIED CARD OF 'cedillalaw11.ReplayKnown'. -/
def replayKnownCard : Claim7 := { stood := { row := replayKnownRow, standIns := [], harness := (true, "003c0b5af8dbba45fe47e3d36b508e3f5c5ff8b1ec648803b97500e6caf0cb63"), looks := true }, kinds := [], alts := [], laidByText := true, laidKinds := [.data, .data, .data, .sentinel, .sentinel], laidTests := true, laidLooks := .later }
def ReplayKnownCardSaid : Prop := Claim7.holds Tryz.pinned (.plain (OpenSpec.ofChange replayKnownSpec)) replayKnownCard

/-- THE SECOND FORM's CARD OF 'cedillalaw10.WalKnown'. -/
def walKnownUptoCard : Claim7 := { stood := { row := walKnownUptoRow, standIns := [], harness := (true, "003c0b5af8dbba45fe47e3d36b508e3f5c5ff8b1ec648803b97500e6caf0cb63"), looks := true }, kinds := [], alts := [], laidByText := true, laidKinds := [.data, .data, .data], laidTests := true, laidLooks := .later }
def WalKnownUptoCardSaid : Prop := Claim7.holds Tryz.pinned (.plain (OpenSpec.upto walKnownSpec)) walKnownUptoCard

/-- THE SECOND FORM's CARD OF 'cedillalaw11.ReplayKnown'. -/
def replayKnownUptoCard : Claim7 := { stood := { row := replayKnownUptoRow, standIns := [], harness := (true, "003c0b5af8dbba45fe47e3d36b508e3f5c5ff8b1ec648803b97500e6caf0cb63"), looks := true }, kinds := [], alts := [], laidByText := true, laidKinds := [.data, .data, .data, .sentinel, .sentinel], laidTests := true, laidLooks := .later }
def ReplayKnownUptoCardSaid : Prop := Claim7.holds Tryz.pinned (.plain (OpenSpec.upto replayKnownSpec)) replayKnownUptoCard
end Rows
end Go.Proofs.YtpimpapaddmjmaaGreatDoor
