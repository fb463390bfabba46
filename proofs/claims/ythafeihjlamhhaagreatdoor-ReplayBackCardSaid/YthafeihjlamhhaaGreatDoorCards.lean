/-
  DERIVED. GIVEN WITH THE SEED: THE CARDS: each row of YthafeihjlamhhaaGreatDoorRows.lean that lists a variable, with what it lists TIED to the program's text (the seventh form; the later family's looks); each row that meets fmt, with fmt's text TOLD by the authors' own Lean function (tested against real Go, not proved from fmt's source: count such statements apart). THE CARD IS WHAT COUNTS. Prove the row's statement (the work); the ties are given (YthafeihjlamhhaaGreatDoorTie.lean); close each card by the builder's one call (the guide's Derived/Test/ToyasCard.lean, 'card_holds'). Laid BY PROGRAM, IN A SANDBOX (cutbox-door.mjs). By AI agents, Wed Nov 11 2026. No macro, syntax, notation, axiom, sorry.
-/
import Derived.Test.YthafeihjlamhhaaGreatDoorRows
import GoSem.ClaimSeven
namespace Go.Proofs.YthafeihjlamhhaaGreatDoor
namespace Rows

/-- THE TIED CARD OF 'cedillalaw10.WalGoes'. -/
def walGoesCard : Claim7 := { stood := { row := walGoesRow, standIns := [], harness := (true, "4628160fe21df644cb4bf49ae003e3bd096a849a7833f5a9caab2b38483ab1c2"), looks := true }, kinds := [], alts := [], laidByText := true, laidKinds := [.data, .data, .data], laidTests := true, laidLooks := .later }
def WalGoesCardSaid : Prop := Claim7.holds Tryz.pinned (.plain (OpenSpec.ofChange walGoesSpec)) walGoesCard

/-- THE TIED CARD OF 'cedillalaw26.SweepLess'. -/
def sweepLessCard : Claim7 := { stood := { row := sweepLessRow, standIns := [], harness := (true, "4628160fe21df644cb4bf49ae003e3bd096a849a7833f5a9caab2b38483ab1c2"), looks := true }, kinds := [], alts := [], laidByText := true, laidKinds := [.data, .data, .data, .sentinel, .sentinel], laidTests := true, laidLooks := .later }
def SweepLessCardSaid : Prop := Claim7.holds Tryz.pinned (.plain (OpenSpec.ofChange sweepLessSpec)) sweepLessCard

/-- THE TIED CARD OF 'cedillalaw26.SweepStops'. -/
def sweepStopsCard : Claim7 := { stood := { row := sweepStopsRow, standIns := [], harness := (true, "4628160fe21df644cb4bf49ae003e3bd096a849a7833f5a9caab2b38483ab1c2"), looks := true }, kinds := [], alts := [], laidByText := true, laidKinds := [.data, .data, .data, .sentinel, .sentinel], laidTests := true, laidLooks := .later }
def SweepStopsCardSaid : Prop := Claim7.holds Tryz.pinned (.plain (OpenSpec.ofChange sweepStopsSpec)) sweepStopsCard

/-- THE TIED CARD OF 'cedillalaw26.SweepLeaves'. -/
def sweepLeavesCard : Claim7 := { stood := { row := sweepLeavesRow, standIns := [], harness := (true, "4628160fe21df644cb4bf49ae003e3bd096a849a7833f5a9caab2b38483ab1c2"), looks := true }, kinds := [], alts := [], laidByText := true, laidKinds := [.data, .data, .data, .sentinel, .sentinel], laidTests := true, laidLooks := .later }
def SweepLeavesCardSaid : Prop := Claim7.holds Tryz.pinned (.plain (OpenSpec.ofChange sweepLeavesSpec)) sweepLeavesCard

/-- THE TIED CARD OF 'cedillalaw10.WalKeeps'. -/
def walKeepsCard : Claim7 := { stood := { row := walKeepsRow, standIns := [], harness := (true, "4628160fe21df644cb4bf49ae003e3bd096a849a7833f5a9caab2b38483ab1c2"), looks := true }, kinds := [], alts := [], laidByText := true, laidKinds := [.data, .data, .data], laidTests := true, laidLooks := .later }
def WalKeepsCardSaid : Prop := Claim7.holds Tryz.pinned (.plain (OpenSpec.ofChange walKeepsSpec)) walKeepsCard

/-- THE TIED CARD OF 'cedillalaw24.PublishFull'. -/
def publishFullCard : Claim7 := { stood := { row := publishFullRow, standIns := [], harness := (true, "4628160fe21df644cb4bf49ae003e3bd096a849a7833f5a9caab2b38483ab1c2"), looks := true }, kinds := [], alts := [], laidByText := true, laidKinds := [.data, .data, .data], laidTests := true, laidLooks := .later }
def PublishFullCardSaid : Prop := Claim7.holds Tryz.pinned (.plain (OpenSpec.ofChange publishFullSpec)) publishFullCard

/-- THE TIED CARD OF 'cedillalaw24.PublishAtomic'. -/
def publishAtomicCard : Claim7 := { stood := { row := publishAtomicRow, standIns := [], harness := (true, "4628160fe21df644cb4bf49ae003e3bd096a849a7833f5a9caab2b38483ab1c2"), looks := true }, kinds := [], alts := [], laidByText := true, laidKinds := [.data, .data, .data], laidTests := true, laidLooks := .later }
def PublishAtomicCardSaid : Prop := Claim7.holds Tryz.pinned (.plain (OpenSpec.ofChange publishAtomicSpec)) publishAtomicCard

/-- THE TIED CARD OF 'cedillalaw24.PublishWhole'. -/
def publishWholeCard : Claim7 := { stood := { row := publishWholeRow, standIns := [], harness := (true, "4628160fe21df644cb4bf49ae003e3bd096a849a7833f5a9caab2b38483ab1c2"), looks := true }, kinds := [], alts := [], laidByText := true, laidKinds := [.data, .data, .data], laidTests := true, laidLooks := .later }
def PublishWholeCardSaid : Prop := Claim7.holds Tryz.pinned (.plain (OpenSpec.ofChange publishWholeSpec)) publishWholeCard

/-- THE TIED CARD OF 'cedillalaw10.WalTurns'. -/
def walTurnsCard : Claim7 := { stood := { row := walTurnsRow, standIns := [], harness := (true, "4628160fe21df644cb4bf49ae003e3bd096a849a7833f5a9caab2b38483ab1c2"), looks := true }, kinds := [], alts := [], laidByText := true, laidKinds := [.data, .data, .data], laidTests := true, laidLooks := .later }
def WalTurnsCardSaid : Prop := Claim7.holds Tryz.pinned (.plain (OpenSpec.ofChange walTurnsSpec)) walTurnsCard

/-- THE TIED CARD OF 'cedillalaw11.ReplayReads'. -/
def replayReadsCard : Claim7 := { stood := { row := replayReadsRow, standIns := [], harness := (true, "4628160fe21df644cb4bf49ae003e3bd096a849a7833f5a9caab2b38483ab1c2"), looks := true }, kinds := [], alts := [], laidByText := true, laidKinds := [.data, .data, .data, .sentinel, .sentinel], laidTests := true, laidLooks := .later }
def ReplayReadsCardSaid : Prop := Claim7.holds Tryz.pinned (.plain (OpenSpec.ofChange replayReadsSpec)) replayReadsCard

/-- THE TIED CARD OF 'cedillalaw11.ReplayMends'. -/
def replayMendsCard : Claim7 := { stood := { row := replayMendsRow, standIns := [], harness := (true, "4628160fe21df644cb4bf49ae003e3bd096a849a7833f5a9caab2b38483ab1c2"), looks := true }, kinds := [], alts := [], laidByText := true, laidKinds := [.data, .data, .data, .sentinel, .sentinel], laidTests := true, laidLooks := .later }
def ReplayMendsCardSaid : Prop := Claim7.holds Tryz.pinned (.plain (OpenSpec.ofChange replayMendsSpec)) replayMendsCard

/-- THE TIED CARD OF 'cedillalaw11.ReplayBack'. -/
def replayBackCard : Claim7 := { stood := { row := replayBackRow, standIns := [], harness := (true, "4628160fe21df644cb4bf49ae003e3bd096a849a7833f5a9caab2b38483ab1c2"), looks := true }, kinds := [], alts := [], laidByText := true, laidKinds := [.data, .data, .data, .sentinel, .sentinel], laidTests := true, laidLooks := .later }
def ReplayBackCardSaid : Prop := Claim7.holds Tryz.pinned (.plain (OpenSpec.ofChange replayBackSpec)) replayBackCard

/-- THE SECOND FORM's CARD OF 'cedillalaw10.WalGoes'. -/
def walGoesUptoCard : Claim7 := { stood := { row := walGoesUptoRow, standIns := [], harness := (true, "4628160fe21df644cb4bf49ae003e3bd096a849a7833f5a9caab2b38483ab1c2"), looks := true }, kinds := [], alts := [], laidByText := true, laidKinds := [.data, .data, .data], laidTests := true, laidLooks := .later }
def WalGoesUptoCardSaid : Prop := Claim7.holds Tryz.pinned (.plain (OpenSpec.upto walGoesSpec)) walGoesUptoCard

/-- THE SECOND FORM's CARD OF 'cedillalaw26.SweepLess'. -/
def sweepLessUptoCard : Claim7 := { stood := { row := sweepLessUptoRow, standIns := [], harness := (true, "4628160fe21df644cb4bf49ae003e3bd096a849a7833f5a9caab2b38483ab1c2"), looks := true }, kinds := [], alts := [], laidByText := true, laidKinds := [.data, .data, .data, .sentinel, .sentinel], laidTests := true, laidLooks := .later }
def SweepLessUptoCardSaid : Prop := Claim7.holds Tryz.pinned (.plain (OpenSpec.upto sweepLessSpec)) sweepLessUptoCard

/-- THE SECOND FORM's CARD OF 'cedillalaw26.SweepStops'. -/
def sweepStopsUptoCard : Claim7 := { stood := { row := sweepStopsUptoRow, standIns := [], harness := (true, "4628160fe21df644cb4bf49ae003e3bd096a849a7833f5a9caab2b38483ab1c2"), looks := true }, kinds := [], alts := [], laidByText := true, laidKinds := [.data, .data, .data, .sentinel, .sentinel], laidTests := true, laidLooks := .later }
def SweepStopsUptoCardSaid : Prop := Claim7.holds Tryz.pinned (.plain (OpenSpec.upto sweepStopsSpec)) sweepStopsUptoCard

/-- THE SECOND FORM's CARD OF 'cedillalaw26.SweepLeaves'. -/
def sweepLeavesUptoCard : Claim7 := { stood := { row := sweepLeavesUptoRow, standIns := [], harness := (true, "4628160fe21df644cb4bf49ae003e3bd096a849a7833f5a9caab2b38483ab1c2"), looks := true }, kinds := [], alts := [], laidByText := true, laidKinds := [.data, .data, .data, .sentinel, .sentinel], laidTests := true, laidLooks := .later }
def SweepLeavesUptoCardSaid : Prop := Claim7.holds Tryz.pinned (.plain (OpenSpec.upto sweepLeavesSpec)) sweepLeavesUptoCard

/-- THE SECOND FORM's CARD OF 'cedillalaw10.WalKeeps'. -/
def walKeepsUptoCard : Claim7 := { stood := { row := walKeepsUptoRow, standIns := [], harness := (true, "4628160fe21df644cb4bf49ae003e3bd096a849a7833f5a9caab2b38483ab1c2"), looks := true }, kinds := [], alts := [], laidByText := true, laidKinds := [.data, .data, .data], laidTests := true, laidLooks := .later }
def WalKeepsUptoCardSaid : Prop := Claim7.holds Tryz.pinned (.plain (OpenSpec.upto walKeepsSpec)) walKeepsUptoCard

/-- THE SECOND FORM's CARD OF 'cedillalaw24.PublishFull'. -/
def publishFullUptoCard : Claim7 := { stood := { row := publishFullUptoRow, standIns := [], harness := (true, "4628160fe21df644cb4bf49ae003e3bd096a849a7833f5a9caab2b38483ab1c2"), looks := true }, kinds := [], alts := [], laidByText := true, laidKinds := [.data, .data, .data], laidTests := true, laidLooks := .later }
def PublishFullUptoCardSaid : Prop := Claim7.holds Tryz.pinned (.plain (OpenSpec.upto publishFullSpec)) publishFullUptoCard

/-- THE SECOND FORM's CARD OF 'cedillalaw24.PublishAtomic'. -/
def publishAtomicUptoCard : Claim7 := { stood := { row := publishAtomicUptoRow, standIns := [], harness := (true, "4628160fe21df644cb4bf49ae003e3bd096a849a7833f5a9caab2b38483ab1c2"), looks := true }, kinds := [], alts := [], laidByText := true, laidKinds := [.data, .data, .data], laidTests := true, laidLooks := .later }
def PublishAtomicUptoCardSaid : Prop := Claim7.holds Tryz.pinned (.plain (OpenSpec.upto publishAtomicSpec)) publishAtomicUptoCard

/-- THE SECOND FORM's CARD OF 'cedillalaw24.PublishWhole'. -/
def publishWholeUptoCard : Claim7 := { stood := { row := publishWholeUptoRow, standIns := [], harness := (true, "4628160fe21df644cb4bf49ae003e3bd096a849a7833f5a9caab2b38483ab1c2"), looks := true }, kinds := [], alts := [], laidByText := true, laidKinds := [.data, .data, .data], laidTests := true, laidLooks := .later }
def PublishWholeUptoCardSaid : Prop := Claim7.holds Tryz.pinned (.plain (OpenSpec.upto publishWholeSpec)) publishWholeUptoCard

/-- THE SECOND FORM's CARD OF 'cedillalaw10.WalTurns'. -/
def walTurnsUptoCard : Claim7 := { stood := { row := walTurnsUptoRow, standIns := [], harness := (true, "4628160fe21df644cb4bf49ae003e3bd096a849a7833f5a9caab2b38483ab1c2"), looks := true }, kinds := [], alts := [], laidByText := true, laidKinds := [.data, .data, .data], laidTests := true, laidLooks := .later }
def WalTurnsUptoCardSaid : Prop := Claim7.holds Tryz.pinned (.plain (OpenSpec.upto walTurnsSpec)) walTurnsUptoCard

/-- THE SECOND FORM's CARD OF 'cedillalaw11.ReplayReads'. -/
def replayReadsUptoCard : Claim7 := { stood := { row := replayReadsUptoRow, standIns := [], harness := (true, "4628160fe21df644cb4bf49ae003e3bd096a849a7833f5a9caab2b38483ab1c2"), looks := true }, kinds := [], alts := [], laidByText := true, laidKinds := [.data, .data, .data, .sentinel, .sentinel], laidTests := true, laidLooks := .later }
def ReplayReadsUptoCardSaid : Prop := Claim7.holds Tryz.pinned (.plain (OpenSpec.upto replayReadsSpec)) replayReadsUptoCard

/-- THE SECOND FORM's CARD OF 'cedillalaw11.ReplayMends'. -/
def replayMendsUptoCard : Claim7 := { stood := { row := replayMendsUptoRow, standIns := [], harness := (true, "4628160fe21df644cb4bf49ae003e3bd096a849a7833f5a9caab2b38483ab1c2"), looks := true }, kinds := [], alts := [], laidByText := true, laidKinds := [.data, .data, .data, .sentinel, .sentinel], laidTests := true, laidLooks := .later }
def ReplayMendsUptoCardSaid : Prop := Claim7.holds Tryz.pinned (.plain (OpenSpec.upto replayMendsSpec)) replayMendsUptoCard

/-- THE SECOND FORM's CARD OF 'cedillalaw11.ReplayBack'. -/
def replayBackUptoCard : Claim7 := { stood := { row := replayBackUptoRow, standIns := [], harness := (true, "4628160fe21df644cb4bf49ae003e3bd096a849a7833f5a9caab2b38483ab1c2"), looks := true }, kinds := [], alts := [], laidByText := true, laidKinds := [.data, .data, .data, .sentinel, .sentinel], laidTests := true, laidLooks := .later }
def ReplayBackUptoCardSaid : Prop := Claim7.holds Tryz.pinned (.plain (OpenSpec.upto replayBackSpec)) replayBackUptoCard
end Rows
end Go.Proofs.YthafeihjlamhhaaGreatDoor
