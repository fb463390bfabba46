/-
  DERIVED. GIVEN WITH THE SEED: THE CARDS: each row of YtfhidaoiofeooaaGreatDoorRows.lean that lists a variable, with what it lists TIED to the program's text (the seventh form; the later family's looks); each row that meets fmt, with fmt's text TOLD by the authors' own Lean function (tested against real Go, not proved from fmt's source: count such statements apart). THE CARD IS WHAT COUNTS. Prove the row's statement (the work); the ties are given (YtfhidaoiofeooaaGreatDoorTie.lean); close each card by the builder's one call (the guide's Derived/Test/ToyasCard.lean, 'card_holds'). Laid BY PROGRAM, IN A SANDBOX (cutbox-door.mjs). By AI agents, Wed Nov 11 2026. No macro, syntax, notation, axiom, sorry.
-/
import Derived.Test.YtfhidaoiofeooaaGreatDoorRows
import GoSem.ClaimSeven
namespace Go.Proofs.YtfhidaoiofeooaaGreatDoor
namespace Rows

/-- THE TIED CARD OF 'cedillalaw10.WalTells'. -/
def walTellsCard : Claim7 := { stood := { row := walTellsRow, standIns := [], harness := (true, "9805036ddfb4fd4c8312feb512b8bd8a70fd51d2a156d5a1b65c9d625a18b9ab"), looks := true }, kinds := [], alts := [], laidByText := true, laidKinds := [.data, .data, .data], laidTests := true, laidLooks := .later }
def WalTellsCardSaid : Prop := Claim7.holds Tryz.pinned (.plain (OpenSpec.ofChange walTellsSpec)) walTellsCard

/-- THE TIED CARD OF 'cedillalaw26.SweepTells'. -/
def sweepTellsCard : Claim7 := { stood := { row := sweepTellsRow, standIns := [], harness := (true, "9805036ddfb4fd4c8312feb512b8bd8a70fd51d2a156d5a1b65c9d625a18b9ab"), looks := true }, kinds := [], alts := [], laidByText := true, laidKinds := [.data, .data, .data, .sentinel, .sentinel], laidTests := true, laidLooks := .later }
def SweepTellsCardSaid : Prop := Claim7.holds Tryz.pinned (.plain (OpenSpec.ofChange sweepTellsSpec)) sweepTellsCard

/-- THE TIED CARD OF 'cedillalaw24.PublishTells'. -/
def publishTellsCard : Claim7 := { stood := { row := publishTellsRow, standIns := [], harness := (true, "9805036ddfb4fd4c8312feb512b8bd8a70fd51d2a156d5a1b65c9d625a18b9ab"), looks := true }, kinds := [], alts := [], laidByText := true, laidKinds := [.data, .data, .data], laidTests := true, laidLooks := .later }
def PublishTellsCardSaid : Prop := Claim7.holds Tryz.pinned (.plain (OpenSpec.ofChange publishTellsSpec)) publishTellsCard

/-- THE TIED CARD OF 'cedillalaw11.ReplayLoads'. -/
def replayLoadsCard : Claim7 := { stood := { row := replayLoadsRow, standIns := [], harness := (true, "9805036ddfb4fd4c8312feb512b8bd8a70fd51d2a156d5a1b65c9d625a18b9ab"), looks := true }, kinds := [], alts := [], laidByText := true, laidKinds := [.data, .data, .data, .sentinel, .sentinel], laidTests := true, laidLooks := .later }
def ReplayLoadsCardSaid : Prop := Claim7.holds Tryz.pinned (.plain (OpenSpec.ofChange replayLoadsSpec)) replayLoadsCard

/-- THE SECOND FORM's CARD OF 'cedillalaw10.WalTells'. -/
def walTellsUptoCard : Claim7 := { stood := { row := walTellsUptoRow, standIns := [], harness := (true, "9805036ddfb4fd4c8312feb512b8bd8a70fd51d2a156d5a1b65c9d625a18b9ab"), looks := true }, kinds := [], alts := [], laidByText := true, laidKinds := [.data, .data, .data], laidTests := true, laidLooks := .later }
def WalTellsUptoCardSaid : Prop := Claim7.holds Tryz.pinned (.plain (OpenSpec.upto walTellsSpec)) walTellsUptoCard

/-- THE SECOND FORM's CARD OF 'cedillalaw26.SweepTells'. -/
def sweepTellsUptoCard : Claim7 := { stood := { row := sweepTellsUptoRow, standIns := [], harness := (true, "9805036ddfb4fd4c8312feb512b8bd8a70fd51d2a156d5a1b65c9d625a18b9ab"), looks := true }, kinds := [], alts := [], laidByText := true, laidKinds := [.data, .data, .data, .sentinel, .sentinel], laidTests := true, laidLooks := .later }
def SweepTellsUptoCardSaid : Prop := Claim7.holds Tryz.pinned (.plain (OpenSpec.upto sweepTellsSpec)) sweepTellsUptoCard

/-- THE SECOND FORM's CARD OF 'cedillalaw24.PublishTells'. -/
def publishTellsUptoCard : Claim7 := { stood := { row := publishTellsUptoRow, standIns := [], harness := (true, "9805036ddfb4fd4c8312feb512b8bd8a70fd51d2a156d5a1b65c9d625a18b9ab"), looks := true }, kinds := [], alts := [], laidByText := true, laidKinds := [.data, .data, .data], laidTests := true, laidLooks := .later }
def PublishTellsUptoCardSaid : Prop := Claim7.holds Tryz.pinned (.plain (OpenSpec.upto publishTellsSpec)) publishTellsUptoCard

/-- THE SECOND FORM's CARD OF 'cedillalaw11.ReplayLoads'. -/
def replayLoadsUptoCard : Claim7 := { stood := { row := replayLoadsUptoRow, standIns := [], harness := (true, "9805036ddfb4fd4c8312feb512b8bd8a70fd51d2a156d5a1b65c9d625a18b9ab"), looks := true }, kinds := [], alts := [], laidByText := true, laidKinds := [.data, .data, .data, .sentinel, .sentinel], laidTests := true, laidLooks := .later }
def ReplayLoadsUptoCardSaid : Prop := Claim7.holds Tryz.pinned (.plain (OpenSpec.upto replayLoadsSpec)) replayLoadsUptoCard
end Rows
end Go.Proofs.YtfhidaoiofeooaaGreatDoor
