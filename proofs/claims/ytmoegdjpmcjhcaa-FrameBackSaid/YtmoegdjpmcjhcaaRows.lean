/-
  No cell of these rows narrows 'for every input' (looked for: loops, veiled, ifaces, maps, wideKeys, modest, calm, conditions, laid).
  DERIVED. THE GIVEN ROWS OF THIS SEAT. 9 by the template 'for every input the law returns true; each argument reads behind the call as it read before'; 0 by the template 'total and deterministic' (their statements: YtmoegdjpmcjhcaaTotals.lean).
  GIVEN WITH THE SEED: the statements are not yours to turn. If you find one false, say at which input.
  Laid BY PROGRAM, IN A SANDBOX (cutbox-rows.mjs): the forced cells as the released guide's own fill.sh prints them over the translation 6d31180dcfee6dd1… (all of the seat's roots in one cut). By AI agents, Wed Nov 11 2026. No macro, syntax, notation, axiom, sorry.
-/
import Derived.Test.YtmoegdjpmcjhcaaChecked
import GoSem.Claim
import GoSem.ClaimJoined
import GoSem.ClaimMapViews
import Derived.JoinedTies
import Derived.KernelRfl
namespace Go.Proofs.Ytmoegdjpmcjhcaa
/- THE CELL 'sum', in the pinned program and in every row, IS THE sha256 OF THE DUMP (.gsa) THAT YtmoegdjpmcjhcaaProg.lean LOADS. Nothing in Lean hashes anything: it is a label: what it is worth is what the hold of that sum in a sandbox is worth. -/
noncomputable def Try.pinned : Pinned := { name := "ytmoegdjpmcjhcaa", sum := "6d31180dcfee6dd1c3ec65506d0f444bec0ce184bbd05033f0fa3afb542b84c9", checked := Try.checked }
namespace Rows
def none {H : Type} : Left H := { results := [], args := [] }

/-- 'cedillalaw02.VaryOrder': WHATEVER THE INPUT: true; the input reads as it did. -/
def varyOrderSpec : ChangeSpec := { name := "varyOrder", fn := fun _ => fun
  | [d1, d2] => { results := [.lit (.bool true)], args := [d1, d2] }
  | _ => none }
def varyOrderRow : OpenClaim := { program := "ytmoegdjpmcjhcaa", sum := "6d31180dcfee6dd1c3ec65506d0f444bec0ce184bbd05033f0fa3afb542b84c9", func := "cedilla/cedillalaw02.VaryOrder", spec := "varyOrder", apart := false }
def VaryOrderSaid : Prop := varyOrderRow.holds Try.pinned (OpenSpec.ofChange varyOrderSpec)

/-- ITS FALSE NEIGHBOUR: 'it returns false'. Refute it at one input. -/
def varyOrderWrong : ChangeSpec := { name := "varyOrder", fn := fun _ => fun
  | [d1, d2] => { results := [.lit (.bool false)], args := [d1, d2] }
  | _ => none }
def VaryOrderWrongFalsely : Prop := varyOrderRow.holds Try.pinned (OpenSpec.ofChange varyOrderWrong)

/-- 'cedillalaw02.VaryTells': WHATEVER THE INPUT: true; the input reads as it did. -/
def varyTellsSpec : ChangeSpec := { name := "varyTells", fn := fun _ => fun
  | [d1, d2, d3] => { results := [.lit (.bool true)], args := [d1, d2, d3] }
  | _ => none }
def varyTellsRow : OpenClaim := { program := "ytmoegdjpmcjhcaa", sum := "6d31180dcfee6dd1c3ec65506d0f444bec0ce184bbd05033f0fa3afb542b84c9", func := "cedilla/cedillalaw02.VaryTells", spec := "varyTells", unfollowed := true, recurses := true, apart := false }
def VaryTellsSaid : Prop := varyTellsRow.holds Try.pinned (OpenSpec.ofChange varyTellsSpec)

/-- ITS FALSE NEIGHBOUR: 'it returns false'. Refute it at one input. -/
def varyTellsWrong : ChangeSpec := { name := "varyTells", fn := fun _ => fun
  | [d1, d2, d3] => { results := [.lit (.bool false)], args := [d1, d2, d3] }
  | _ => none }
def VaryTellsWrongFalsely : Prop := varyTellsRow.holds Try.pinned (OpenSpec.ofChange varyTellsWrong)

/-- 'cedillalaw02.VaryBack': WHATEVER THE INPUT: true; the input reads as it did. -/
def varyBackSpec : ChangeSpec := { name := "varyBack", fn := fun _ => fun
  | [d1, d2, d3] => { results := [.lit (.bool true)], args := [d1, d2, d3] }
  | _ => none }
def varyBackRow : OpenClaim := { program := "ytmoegdjpmcjhcaa", sum := "6d31180dcfee6dd1c3ec65506d0f444bec0ce184bbd05033f0fa3afb542b84c9", func := "cedilla/cedillalaw02.VaryBack", spec := "varyBack", unfollowed := true, recurses := true, apart := false }
def VaryBackSaid : Prop := varyBackRow.holds Try.pinned (OpenSpec.ofChange varyBackSpec)

/-- ITS FALSE NEIGHBOUR: 'it returns false'. Refute it at one input. -/
def varyBackWrong : ChangeSpec := { name := "varyBack", fn := fun _ => fun
  | [d1, d2, d3] => { results := [.lit (.bool false)], args := [d1, d2, d3] }
  | _ => none }
def VaryBackWrongFalsely : Prop := varyBackRow.holds Try.pinned (OpenSpec.ofChange varyBackWrong)

/-- 'cedillalaw03.FrameLaid': WHATEVER THE INPUT: true; the input reads as it did. -/
def frameLaidSpec : ChangeSpec := { name := "frameLaid", fn := fun _ => fun
  | [d1, d2, d3] => { results := [.lit (.bool true)], args := [d1, d2, d3] }
  | _ => none }
def frameLaidRow : OpenClaim := { program := "ytmoegdjpmcjhcaa", sum := "6d31180dcfee6dd1c3ec65506d0f444bec0ce184bbd05033f0fa3afb542b84c9", func := "cedilla/cedillalaw03.FrameLaid", spec := "frameLaid", unfollowed := true, recurses := true, apart := false }
def FrameLaidSaid : Prop := frameLaidRow.holds Try.pinned (OpenSpec.ofChange frameLaidSpec)

/-- ITS FALSE NEIGHBOUR: 'it returns false'. Refute it at one input. -/
def frameLaidWrong : ChangeSpec := { name := "frameLaid", fn := fun _ => fun
  | [d1, d2, d3] => { results := [.lit (.bool false)], args := [d1, d2, d3] }
  | _ => none }
def FrameLaidWrongFalsely : Prop := frameLaidRow.holds Try.pinned (OpenSpec.ofChange frameLaidWrong)

/-- 'cedillalaw03.FrameMoves': WHATEVER THE INPUT: true; the input reads as it did. -/
def frameMovesSpec : ChangeSpec := { name := "frameMoves", fn := fun _ => fun
  | [d1, d2, d3] => { results := [.lit (.bool true)], args := [d1, d2, d3] }
  | _ => none }
def frameMovesRow : OpenClaim := { program := "ytmoegdjpmcjhcaa", sum := "6d31180dcfee6dd1c3ec65506d0f444bec0ce184bbd05033f0fa3afb542b84c9", func := "cedilla/cedillalaw03.FrameMoves", spec := "frameMoves", unfollowed := true, recurses := true, apart := false }
def FrameMovesSaid : Prop := frameMovesRow.holds Try.pinned (OpenSpec.ofChange frameMovesSpec)

/-- ITS FALSE NEIGHBOUR: 'it returns false'. Refute it at one input. -/
def frameMovesWrong : ChangeSpec := { name := "frameMoves", fn := fun _ => fun
  | [d1, d2, d3] => { results := [.lit (.bool false)], args := [d1, d2, d3] }
  | _ => none }
def FrameMovesWrongFalsely : Prop := frameMovesRow.holds Try.pinned (OpenSpec.ofChange frameMovesWrong)

/-- 'cedillalaw03.FrameReads': WHATEVER THE INPUT: true; the input reads as it did. -/
def frameReadsSpec : ChangeSpec := { name := "frameReads", fn := fun _ => fun
  | [d1, d2, d3] => { results := [.lit (.bool true)], args := [d1, d2, d3] }
  | _ => none }
def frameReadsRow : OpenClaim := { program := "ytmoegdjpmcjhcaa", sum := "6d31180dcfee6dd1c3ec65506d0f444bec0ce184bbd05033f0fa3afb542b84c9", func := "cedilla/cedillalaw03.FrameReads", spec := "frameReads", unfollowed := true, recurses := true, apart := false }
def FrameReadsSaid : Prop := frameReadsRow.holds Try.pinned (OpenSpec.ofChange frameReadsSpec)

/-- ITS FALSE NEIGHBOUR: 'it returns false'. Refute it at one input. -/
def frameReadsWrong : ChangeSpec := { name := "frameReads", fn := fun _ => fun
  | [d1, d2, d3] => { results := [.lit (.bool false)], args := [d1, d2, d3] }
  | _ => none }
def FrameReadsWrongFalsely : Prop := frameReadsRow.holds Try.pinned (OpenSpec.ofChange frameReadsWrong)

/-- 'cedillalaw03.FrameBack': WHATEVER THE INPUT: true; the input reads as it did. -/
def frameBackSpec : ChangeSpec := { name := "frameBack", fn := fun _ => fun
  | [d1, d2] => { results := [.lit (.bool true)], args := [d1, d2] }
  | _ => none }
def frameBackRow : OpenClaim := { program := "ytmoegdjpmcjhcaa", sum := "6d31180dcfee6dd1c3ec65506d0f444bec0ce184bbd05033f0fa3afb542b84c9", func := "cedilla/cedillalaw03.FrameBack", spec := "frameBack", unfollowed := true, recurses := true, apart := false }
def FrameBackSaid : Prop := frameBackRow.holds Try.pinned (OpenSpec.ofChange frameBackSpec)

/-- ITS FALSE NEIGHBOUR: 'it returns false'. Refute it at one input. -/
def frameBackWrong : ChangeSpec := { name := "frameBack", fn := fun _ => fun
  | [d1, d2] => { results := [.lit (.bool false)], args := [d1, d2] }
  | _ => none }
def FrameBackWrongFalsely : Prop := frameBackRow.holds Try.pinned (OpenSpec.ofChange frameBackWrong)

/-- 'cedillalaw02.VaryKnown': WHATEVER THE INPUT: true; the input reads as it did. -/
def varyKnownSpec : ChangeSpec := { name := "varyKnown", fn := fun _ => fun
  | [] => { results := [.lit (.bool true)], args := [] }
  | _ => none }
def varyKnownRow : OpenClaim := { program := "ytmoegdjpmcjhcaa", sum := "6d31180dcfee6dd1c3ec65506d0f444bec0ce184bbd05033f0fa3afb542b84c9", func := "cedilla/cedillalaw02.VaryKnown", spec := "varyKnown", inPlace := ["internal/abi.NoEscape", "internal/bytealg.MakeNoZero"], unfollowed := true, recurses := true, apart := false }
def VaryKnownSaid : Prop := varyKnownRow.holds Try.pinned (OpenSpec.ofChange varyKnownSpec)

/-- ITS FALSE NEIGHBOUR: 'it returns false'. Refute it at one input. -/
def varyKnownWrong : ChangeSpec := { name := "varyKnown", fn := fun _ => fun
  | [] => { results := [.lit (.bool false)], args := [] }
  | _ => none }
def VaryKnownWrongFalsely : Prop := varyKnownRow.holds Try.pinned (OpenSpec.ofChange varyKnownWrong)

/-- 'cedillalaw03.FrameKnown': WHATEVER THE INPUT: true; the input reads as it did. -/
def frameKnownSpec : ChangeSpec := { name := "frameKnown", fn := fun _ => fun
  | [] => { results := [.lit (.bool true)], args := [] }
  | _ => none }
def frameKnownRow : OpenClaim := { program := "ytmoegdjpmcjhcaa", sum := "6d31180dcfee6dd1c3ec65506d0f444bec0ce184bbd05033f0fa3afb542b84c9", func := "cedilla/cedillalaw03.FrameKnown", spec := "frameKnown", inPlace := ["internal/abi.NoEscape", "internal/bytealg.MakeNoZero"], unfollowed := true, recurses := true, apart := false }
def FrameKnownSaid : Prop := frameKnownRow.holds Try.pinned (OpenSpec.ofChange frameKnownSpec)

/-- ITS FALSE NEIGHBOUR: 'it returns false'. Refute it at one input. -/
def frameKnownWrong : ChangeSpec := { name := "frameKnown", fn := fun _ => fun
  | [] => { results := [.lit (.bool false)], args := [] }
  | _ => none }
def FrameKnownWrongFalsely : Prop := frameKnownRow.holds Try.pinned (OpenSpec.ofChange frameKnownWrong)

/- THE SECOND FORM. 'bulk': how many values and letters a reading holds, each counted each time it is reached (what is shared counts as often as it is met; a slice's spare places count too). A statement '..UptoSaid' is the law's where the arguments, and the package variables that the reading takes, are together of bulk at most 1048576: NARROWER than '..Said'. Prove '..Said' where nothing that the law and all that it calls make is longer than what came in: it says more and counts as full. Else prove '..UptoSaid'. A law counts once. -/
mutual
def uptoBulk {H : Type} : DataW H → Nat
  | .lit (.string bytes) => bytes.length + 1
  | .lit _ => 1
  | .nil => 1
  | .ptr d => uptoBulk d + 1
  | .slice elems spare => uptoBulkAll elems + uptoBulkAll spare + 1
  | .agg parts => uptoBulkAll parts + 1
  | .iface _ d => uptoBulk d + 1
  | .map entries => uptoBulkEntries entries + 1
  | .held _ => 1
def uptoBulkAll {H : Type} : List (DataW H) → Nat
  | [] => 0
  | d :: r => uptoBulk d + uptoBulkAll r
def uptoBulkEntries {H : Type} : List (Lit × DataW H) → Nat
  | [] => 0
  | x :: r => uptoBulkEntry x + uptoBulkEntries r
def uptoBulkEntry {H : Type} : Lit × DataW H → Nat
  | (.string bytes, d) => bytes.length + uptoBulk d + 1
  | (_, d) => uptoBulk d + 1
 end
def uptoSmall : (H : Type) → List (DataW H) → Bool := fun _ ds => decide (uptoBulkAll ds ≤ 1048576)
def OpenSpec.upto (s : _root_.Go.ChangeSpec) : _root_.Go.OpenSpec := { _root_.Go.OpenSpec.ofChange s with cond := some uptoSmall }

/-- 'cedillalaw02.VaryOrder', WHERE WHAT IT READS IS OF BULK AT MOST 1048576: true; the input reads as it did. -/
def varyOrderUptoRow : OpenClaim := { program := "ytmoegdjpmcjhcaa", sum := "6d31180dcfee6dd1c3ec65506d0f444bec0ce184bbd05033f0fa3afb542b84c9", func := "cedilla/cedillalaw02.VaryOrder", spec := "varyOrder", apart := false, narrowed := true }
def VaryOrderUptoSaid : Prop := varyOrderUptoRow.holds Try.pinned (OpenSpec.upto varyOrderSpec)

/-- 'cedillalaw02.VaryTells', WHERE WHAT IT READS IS OF BULK AT MOST 1048576: true; the input reads as it did. -/
def varyTellsUptoRow : OpenClaim := { program := "ytmoegdjpmcjhcaa", sum := "6d31180dcfee6dd1c3ec65506d0f444bec0ce184bbd05033f0fa3afb542b84c9", func := "cedilla/cedillalaw02.VaryTells", spec := "varyTells", unfollowed := true, recurses := true, apart := false, narrowed := true }
def VaryTellsUptoSaid : Prop := varyTellsUptoRow.holds Try.pinned (OpenSpec.upto varyTellsSpec)

/-- 'cedillalaw02.VaryBack', WHERE WHAT IT READS IS OF BULK AT MOST 1048576: true; the input reads as it did. -/
def varyBackUptoRow : OpenClaim := { program := "ytmoegdjpmcjhcaa", sum := "6d31180dcfee6dd1c3ec65506d0f444bec0ce184bbd05033f0fa3afb542b84c9", func := "cedilla/cedillalaw02.VaryBack", spec := "varyBack", unfollowed := true, recurses := true, apart := false, narrowed := true }
def VaryBackUptoSaid : Prop := varyBackUptoRow.holds Try.pinned (OpenSpec.upto varyBackSpec)

/-- 'cedillalaw03.FrameLaid', WHERE WHAT IT READS IS OF BULK AT MOST 1048576: true; the input reads as it did. -/
def frameLaidUptoRow : OpenClaim := { program := "ytmoegdjpmcjhcaa", sum := "6d31180dcfee6dd1c3ec65506d0f444bec0ce184bbd05033f0fa3afb542b84c9", func := "cedilla/cedillalaw03.FrameLaid", spec := "frameLaid", unfollowed := true, recurses := true, apart := false, narrowed := true }
def FrameLaidUptoSaid : Prop := frameLaidUptoRow.holds Try.pinned (OpenSpec.upto frameLaidSpec)

/-- 'cedillalaw03.FrameMoves', WHERE WHAT IT READS IS OF BULK AT MOST 1048576: true; the input reads as it did. -/
def frameMovesUptoRow : OpenClaim := { program := "ytmoegdjpmcjhcaa", sum := "6d31180dcfee6dd1c3ec65506d0f444bec0ce184bbd05033f0fa3afb542b84c9", func := "cedilla/cedillalaw03.FrameMoves", spec := "frameMoves", unfollowed := true, recurses := true, apart := false, narrowed := true }
def FrameMovesUptoSaid : Prop := frameMovesUptoRow.holds Try.pinned (OpenSpec.upto frameMovesSpec)

/-- 'cedillalaw03.FrameReads', WHERE WHAT IT READS IS OF BULK AT MOST 1048576: true; the input reads as it did. -/
def frameReadsUptoRow : OpenClaim := { program := "ytmoegdjpmcjhcaa", sum := "6d31180dcfee6dd1c3ec65506d0f444bec0ce184bbd05033f0fa3afb542b84c9", func := "cedilla/cedillalaw03.FrameReads", spec := "frameReads", unfollowed := true, recurses := true, apart := false, narrowed := true }
def FrameReadsUptoSaid : Prop := frameReadsUptoRow.holds Try.pinned (OpenSpec.upto frameReadsSpec)

/-- 'cedillalaw03.FrameBack', WHERE WHAT IT READS IS OF BULK AT MOST 1048576: true; the input reads as it did. -/
def frameBackUptoRow : OpenClaim := { program := "ytmoegdjpmcjhcaa", sum := "6d31180dcfee6dd1c3ec65506d0f444bec0ce184bbd05033f0fa3afb542b84c9", func := "cedilla/cedillalaw03.FrameBack", spec := "frameBack", unfollowed := true, recurses := true, apart := false, narrowed := true }
def FrameBackUptoSaid : Prop := frameBackUptoRow.holds Try.pinned (OpenSpec.upto frameBackSpec)

/-- 'cedillalaw02.VaryKnown', WHERE WHAT IT READS IS OF BULK AT MOST 1048576: true; the input reads as it did. -/
def varyKnownUptoRow : OpenClaim := { program := "ytmoegdjpmcjhcaa", sum := "6d31180dcfee6dd1c3ec65506d0f444bec0ce184bbd05033f0fa3afb542b84c9", func := "cedilla/cedillalaw02.VaryKnown", spec := "varyKnown", inPlace := ["internal/abi.NoEscape", "internal/bytealg.MakeNoZero"], unfollowed := true, recurses := true, apart := false, narrowed := true }
def VaryKnownUptoSaid : Prop := varyKnownUptoRow.holds Try.pinned (OpenSpec.upto varyKnownSpec)

/-- 'cedillalaw03.FrameKnown', WHERE WHAT IT READS IS OF BULK AT MOST 1048576: true; the input reads as it did. -/
def frameKnownUptoRow : OpenClaim := { program := "ytmoegdjpmcjhcaa", sum := "6d31180dcfee6dd1c3ec65506d0f444bec0ce184bbd05033f0fa3afb542b84c9", func := "cedilla/cedillalaw03.FrameKnown", spec := "frameKnown", inPlace := ["internal/abi.NoEscape", "internal/bytealg.MakeNoZero"], unfollowed := true, recurses := true, apart := false, narrowed := true }
def FrameKnownUptoSaid : Prop := frameKnownUptoRow.holds Try.pinned (OpenSpec.upto frameKnownSpec)

end Rows
end Go.Proofs.Ytmoegdjpmcjhcaa
