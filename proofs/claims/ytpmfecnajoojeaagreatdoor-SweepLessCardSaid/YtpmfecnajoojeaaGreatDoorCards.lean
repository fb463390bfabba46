/-
  DERIVED. GIVEN WITH THE SEED: THE CARDS: each row of YtpmfecnajoojeaaGreatDoorRows.lean that lists a variable, with what it lists TIED to the program's text (the seventh form; the later family's looks); each row that meets fmt, with fmt's text TOLD by the authors' own Lean function (tested against real Go, not proved from fmt's source: count such statements apart). THE CARD IS WHAT COUNTS. Prove the row's statement (the work); the ties are given (YtpmfecnajoojeaaGreatDoorTie.lean); close each card by the builder's one call (the guide's Derived/Test/ToyasCard.lean, 'card_holds'). Laid BY PROGRAM, IN A SANDBOX (cutbox-door.mjs). By AI agents, Wed Nov 11 2026. No macro, syntax, notation, axiom, sorry.
-/
import Derived.Test.YtpmfecnajoojeaaGreatDoorRows
import GoSem.ClaimSeven
namespace Go.Proofs.YtpmfecnajoojeaaGreatDoor
namespace Rows

/-- THE TIED CARD OF 'cedillalaw26.SweepLess'. -/
def sweepLessCard : Claim7 := { stood := { row := sweepLessRow, standIns := [], harness := (true, "69681a8ea10de99b300fe3376e7aac5b525da0c9266a586523e261bbc88b2ce7"), looks := true }, kinds := [], alts := [], laidByText := true, laidKinds := [.data, .data, .data, .sentinel, .sentinel], laidTests := true, laidLooks := .later }
def SweepLessCardSaid : Prop := Claim7.holds Tryz.pinned (.plain (OpenSpec.ofChange sweepLessSpec)) sweepLessCard

/-- THE TIED CARD OF 'cedillalaw10.WalKeeps'. -/
def walKeepsCard : Claim7 := { stood := { row := walKeepsRow, standIns := [], harness := (true, "69681a8ea10de99b300fe3376e7aac5b525da0c9266a586523e261bbc88b2ce7"), looks := true }, kinds := [], alts := [], laidByText := true, laidKinds := [.data, .data, .data], laidTests := true, laidLooks := .later }
def WalKeepsCardSaid : Prop := Claim7.holds Tryz.pinned (.plain (OpenSpec.ofChange walKeepsSpec)) walKeepsCard

/-- THE TIED CARD OF 'cedillalaw24.PublishFull'. -/
def publishFullCard : Claim7 := { stood := { row := publishFullRow, standIns := [], harness := (true, "69681a8ea10de99b300fe3376e7aac5b525da0c9266a586523e261bbc88b2ce7"), looks := true }, kinds := [], alts := [], laidByText := true, laidKinds := [.data, .data, .data], laidTests := true, laidLooks := .later }
def PublishFullCardSaid : Prop := Claim7.holds Tryz.pinned (.plain (OpenSpec.ofChange publishFullSpec)) publishFullCard

/-- THE TIED CARD OF 'cedillalaw11.ReplayMends'. -/
def replayMendsCard : Claim7 := { stood := { row := replayMendsRow, standIns := [], harness := (true, "69681a8ea10de99b300fe3376e7aac5b525da0c9266a586523e261bbc88b2ce7"), looks := true }, kinds := [], alts := [], laidByText := true, laidKinds := [.data, .data, .data, .sentinel, .sentinel], laidTests := true, laidLooks := .later }
def ReplayMendsCardSaid : Prop := Claim7.holds Tryz.pinned (.plain (OpenSpec.ofChange replayMendsSpec)) replayMendsCard

/-- THE SECOND FORM's CARD OF 'cedillalaw26.SweepLess'. -/
def sweepLessUptoCard : Claim7 := { stood := { row := sweepLessUptoRow, standIns := [], harness := (true, "69681a8ea10de99b300fe3376e7aac5b525da0c9266a586523e261bbc88b2ce7"), looks := true }, kinds := [], alts := [], laidByText := true, laidKinds := [.data, .data, .data, .sentinel, .sentinel], laidTests := true, laidLooks := .later }
def SweepLessUptoCardSaid : Prop := Claim7.holds Tryz.pinned (.plain (OpenSpec.upto sweepLessSpec)) sweepLessUptoCard

/-- THE SECOND FORM's CARD OF 'cedillalaw10.WalKeeps'. -/
def walKeepsUptoCard : Claim7 := { stood := { row := walKeepsUptoRow, standIns := [], harness := (true, "69681a8ea10de99b300fe3376e7aac5b525da0c9266a586523e261bbc88b2ce7"), looks := true }, kinds := [], alts := [], laidByText := true, laidKinds := [.data, .data, .data], laidTests := true, laidLooks := .later }
def WalKeepsUptoCardSaid : Prop := Claim7.holds Tryz.pinned (.plain (OpenSpec.upto walKeepsSpec)) walKeepsUptoCard

/-- THE SECOND FORM's CARD OF 'cedillalaw24.PublishFull'. -/
def publishFullUptoCard : Claim7 := { stood := { row := publishFullUptoRow, standIns := [], harness := (true, "69681a8ea10de99b300fe3376e7aac5b525da0c9266a586523e261bbc88b2ce7"), looks := true }, kinds := [], alts := [], laidByText := true, laidKinds := [.data, .data, .data], laidTests := true, laidLooks := .later }
def PublishFullUptoCardSaid : Prop := Claim7.holds Tryz.pinned (.plain (OpenSpec.upto publishFullSpec)) publishFullUptoCard

/-- THE SECOND FORM's CARD OF 'cedillalaw11.ReplayMends'. -/
def replayMendsUptoCard : Claim7 := { stood := { row := replayMendsUptoRow, standIns := [], harness := (true, "69681a8ea10de99b300fe3376e7aac5b525da0c9266a586523e261bbc88b2ce7"), looks := true }, kinds := [], alts := [], laidByText := true, laidKinds := [.data, .data, .data, .sentinel, .sentinel], laidTests := true, laidLooks := .later }
def ReplayMendsUptoCardSaid : Prop := Claim7.holds Tryz.pinned (.plain (OpenSpec.upto replayMendsSpec)) replayMendsUptoCard
end Rows
end Go.Proofs.YtpmfecnajoojeaaGreatDoor
