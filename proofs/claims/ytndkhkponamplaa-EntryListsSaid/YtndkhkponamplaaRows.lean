/-
  No cell of these rows narrows 'for every input' (looked for: loops, veiled, ifaces, maps, wideKeys, modest, calm, conditions, laid).
  DERIVED. THE GIVEN ROWS OF THIS SEAT. 5 by the template 'for every input the law returns true; each argument reads behind the call as it read before'; 0 by the template 'total and deterministic' (their statements: YtndkhkponamplaaTotals.lean).
  GIVEN WITH THE SEED: the statements are not yours to turn. If you find one false, say at which input.
  Laid BY PROGRAM, IN A SANDBOX (cutbox-rows.mjs): the forced cells as the released guide's own fill.sh prints them over the translation add33fc9a8cdc901… (all of the seat's roots in one cut). By AI agents, Wed Nov 11 2026. No macro, syntax, notation, axiom, sorry.
-/
import Derived.Test.YtndkhkponamplaaChecked
import GoSem.Claim
import GoSem.ClaimJoined
import GoSem.ClaimMapViews
import Derived.JoinedTies
import Derived.KernelRfl
namespace Go.Proofs.Ytndkhkponamplaa
/- THE CELL 'sum', in the pinned program and in every row, IS THE sha256 OF THE DUMP (.gsa) THAT YtndkhkponamplaaProg.lean LOADS. Nothing in Lean hashes anything: it is a label: what it is worth is what the hold of that sum in a sandbox is worth. -/
noncomputable def Try.pinned : Pinned := { name := "ytndkhkponamplaa", sum := "add33fc9a8cdc901e884ad72e3d97e888a6a222f31985d3ff820ce550c2b04b3", checked := Try.checked }
namespace Rows
def none {H : Type} : Left H := { results := [], args := [] }

/-- 'cedillalaw05.EntryBytes': WHATEVER THE INPUT: true; the input reads as it did. -/
def entryBytesSpec : ChangeSpec := { name := "entryBytes", fn := fun _ => fun
  | [d1, d2, d3] => { results := [.lit (.bool true)], args := [d1, d2, d3] }
  | _ => none }
def entryBytesRow : OpenClaim := { program := "ytndkhkponamplaa", sum := "add33fc9a8cdc901e884ad72e3d97e888a6a222f31985d3ff820ce550c2b04b3", func := "cedilla/cedillalaw05.EntryBytes", spec := "entryBytes", inPlace := ["slices.overlaps[cedilla/api.Entry]"], unfollowed := true, recurses := true, apart := false }
def EntryBytesSaid : Prop := entryBytesRow.holds Try.pinned (OpenSpec.ofChange entryBytesSpec)

/-- ITS FALSE NEIGHBOUR: 'it returns false'. Refute it at one input. -/
def entryBytesWrong : ChangeSpec := { name := "entryBytes", fn := fun _ => fun
  | [d1, d2, d3] => { results := [.lit (.bool false)], args := [d1, d2, d3] }
  | _ => none }
def EntryBytesWrongFalsely : Prop := entryBytesRow.holds Try.pinned (OpenSpec.ofChange entryBytesWrong)

/-- 'cedillalaw05.EntryBack': WHATEVER THE INPUT: true; the input reads as it did. -/
def entryBackSpec : ChangeSpec := { name := "entryBack", fn := fun _ => fun
  | [d1, d2, d3] => { results := [.lit (.bool true)], args := [d1, d2, d3] }
  | _ => none }
def entryBackRow : OpenClaim := { program := "ytndkhkponamplaa", sum := "add33fc9a8cdc901e884ad72e3d97e888a6a222f31985d3ff820ce550c2b04b3", func := "cedilla/cedillalaw05.EntryBack", spec := "entryBack", inPlace := ["slices.overlaps[cedilla/api.Entry]"], unfollowed := true, recurses := true, apart := false }
def EntryBackSaid : Prop := entryBackRow.holds Try.pinned (OpenSpec.ofChange entryBackSpec)

/-- ITS FALSE NEIGHBOUR: 'it returns false'. Refute it at one input. -/
def entryBackWrong : ChangeSpec := { name := "entryBack", fn := fun _ => fun
  | [d1, d2, d3] => { results := [.lit (.bool false)], args := [d1, d2, d3] }
  | _ => none }
def EntryBackWrongFalsely : Prop := entryBackRow.holds Try.pinned (OpenSpec.ofChange entryBackWrong)

/-- 'cedillalaw05.EntryLists': WHATEVER THE INPUT: true; the input reads as it did. -/
def entryListsSpec : ChangeSpec := { name := "entryLists", fn := fun _ => fun
  | [d1, d2, d3] => { results := [.lit (.bool true)], args := [d1, d2, d3] }
  | _ => none }
def entryListsRow : OpenClaim := { program := "ytndkhkponamplaa", sum := "add33fc9a8cdc901e884ad72e3d97e888a6a222f31985d3ff820ce550c2b04b3", func := "cedilla/cedillalaw05.EntryLists", spec := "entryLists", inPlace := ["slices.overlaps[cedilla/api.Entry]"], unfollowed := true, recurses := true, apart := false }
def EntryListsSaid : Prop := entryListsRow.holds Try.pinned (OpenSpec.ofChange entryListsSpec)

/-- ITS FALSE NEIGHBOUR: 'it returns false'. Refute it at one input. -/
def entryListsWrong : ChangeSpec := { name := "entryLists", fn := fun _ => fun
  | [d1, d2, d3] => { results := [.lit (.bool false)], args := [d1, d2, d3] }
  | _ => none }
def EntryListsWrongFalsely : Prop := entryListsRow.holds Try.pinned (OpenSpec.ofChange entryListsWrong)

/-- 'cedillalaw05.EntryWith': WHATEVER THE INPUT: true; the input reads as it did. -/
def entryWithSpec : ChangeSpec := { name := "entryWith", fn := fun _ => fun
  | [d1, d2, d3] => { results := [.lit (.bool true)], args := [d1, d2, d3] }
  | _ => none }
def entryWithRow : OpenClaim := { program := "ytndkhkponamplaa", sum := "add33fc9a8cdc901e884ad72e3d97e888a6a222f31985d3ff820ce550c2b04b3", func := "cedilla/cedillalaw05.EntryWith", spec := "entryWith", inPlace := ["slices.overlaps[cedilla/api.Entry]"], unfollowed := true, recurses := true, apart := false }
def EntryWithSaid : Prop := entryWithRow.holds Try.pinned (OpenSpec.ofChange entryWithSpec)

/-- ITS FALSE NEIGHBOUR: 'it returns false'. Refute it at one input. -/
def entryWithWrong : ChangeSpec := { name := "entryWith", fn := fun _ => fun
  | [d1, d2, d3] => { results := [.lit (.bool false)], args := [d1, d2, d3] }
  | _ => none }
def EntryWithWrongFalsely : Prop := entryWithRow.holds Try.pinned (OpenSpec.ofChange entryWithWrong)

/-- 'cedillalaw05.EntryKnown': WHATEVER THE INPUT: true; the input reads as it did. -/
def entryKnownSpec : ChangeSpec := { name := "entryKnown", fn := fun _ => fun
  | [] => { results := [.lit (.bool true)], args := [] }
  | _ => none }
def entryKnownRow : OpenClaim := { program := "ytndkhkponamplaa", sum := "add33fc9a8cdc901e884ad72e3d97e888a6a222f31985d3ff820ce550c2b04b3", func := "cedilla/cedillalaw05.EntryKnown", spec := "entryKnown", inPlace := ["internal/abi.NoEscape", "internal/bytealg.MakeNoZero", "slices.overlaps[cedilla/api.Entry]"], unfollowed := true, recurses := true, apart := false }
def EntryKnownSaid : Prop := entryKnownRow.holds Try.pinned (OpenSpec.ofChange entryKnownSpec)

/-- ITS FALSE NEIGHBOUR: 'it returns false'. Refute it at one input. -/
def entryKnownWrong : ChangeSpec := { name := "entryKnown", fn := fun _ => fun
  | [] => { results := [.lit (.bool false)], args := [] }
  | _ => none }
def EntryKnownWrongFalsely : Prop := entryKnownRow.holds Try.pinned (OpenSpec.ofChange entryKnownWrong)

/- THE SECOND FORM. 'bulk': how many values and letters a reading holds, each counted each time it is reached (what is shared counts as often as it is met; a slice's spare places count too). A statement '..UptoSaid' is the law's where the arguments, and the package variables that the reading takes, are together of bulk at most 1048576: NARROWER than '..Said'. Prove '..Said' where nothing that the law and all that it calls make is longer than what came in: it says more and counts as full. Else prove '..UptoSaid'. A law counts once. -/
mutual
def uptoBulk {H : Type} : DataW H → Nat
  | .lit (.string bytes) => bytes.length + 1
  | .lit _ => 1
  | .nil => 1
  | .ptr d => uptoBulk d + 1
  | .slice elems spare => uptoBulkAll elems + uptoBulkAll spare + 1
  | .agg parts => uptoBulkAll parts + 1
  | .iface _ d => uptoBulk d + 1
  | .map entries => uptoBulkEntries entries + 1
  | .held _ => 1
def uptoBulkAll {H : Type} : List (DataW H) → Nat
  | [] => 0
  | d :: r => uptoBulk d + uptoBulkAll r
def uptoBulkEntries {H : Type} : List (Lit × DataW H) → Nat
  | [] => 0
  | x :: r => uptoBulkEntry x + uptoBulkEntries r
def uptoBulkEntry {H : Type} : Lit × DataW H → Nat
  | (.string bytes, d) => bytes.length + uptoBulk d + 1
  | (_, d) => uptoBulk d + 1
 end
def uptoSmall : (H : Type) → List (DataW H) → Bool := fun _ ds => decide (uptoBulkAll ds ≤ 1048576)
def OpenSpec.upto (s : _root_.Go.ChangeSpec) : _root_.Go.OpenSpec := { _root_.Go.OpenSpec.ofChange s with cond := some uptoSmall }

/-- 'cedillalaw05.EntryBytes', WHERE WHAT IT READS IS OF BULK AT MOST 1048576: true; the input reads as it did. -/
def entryBytesUptoRow : OpenClaim := { program := "ytndkhkponamplaa", sum := "add33fc9a8cdc901e884ad72e3d97e888a6a222f31985d3ff820ce550c2b04b3", func := "cedilla/cedillalaw05.EntryBytes", spec := "entryBytes", inPlace := ["slices.overlaps[cedilla/api.Entry]"], unfollowed := true, recurses := true, apart := false, narrowed := true }
def EntryBytesUptoSaid : Prop := entryBytesUptoRow.holds Try.pinned (OpenSpec.upto entryBytesSpec)

/-- 'cedillalaw05.EntryBack', WHERE WHAT IT READS IS OF BULK AT MOST 1048576: true; the input reads as it did. -/
def entryBackUptoRow : OpenClaim := { program := "ytndkhkponamplaa", sum := "add33fc9a8cdc901e884ad72e3d97e888a6a222f31985d3ff820ce550c2b04b3", func := "cedilla/cedillalaw05.EntryBack", spec := "entryBack", inPlace := ["slices.overlaps[cedilla/api.Entry]"], unfollowed := true, recurses := true, apart := false, narrowed := true }
def EntryBackUptoSaid : Prop := entryBackUptoRow.holds Try.pinned (OpenSpec.upto entryBackSpec)

/-- 'cedillalaw05.EntryLists', WHERE WHAT IT READS IS OF BULK AT MOST 1048576: true; the input reads as it did. -/
def entryListsUptoRow : OpenClaim := { program := "ytndkhkponamplaa", sum := "add33fc9a8cdc901e884ad72e3d97e888a6a222f31985d3ff820ce550c2b04b3", func := "cedilla/cedillalaw05.EntryLists", spec := "entryLists", inPlace := ["slices.overlaps[cedilla/api.Entry]"], unfollowed := true, recurses := true, apart := false, narrowed := true }
def EntryListsUptoSaid : Prop := entryListsUptoRow.holds Try.pinned (OpenSpec.upto entryListsSpec)

/-- 'cedillalaw05.EntryWith', WHERE WHAT IT READS IS OF BULK AT MOST 1048576: true; the input reads as it did. -/
def entryWithUptoRow : OpenClaim := { program := "ytndkhkponamplaa", sum := "add33fc9a8cdc901e884ad72e3d97e888a6a222f31985d3ff820ce550c2b04b3", func := "cedilla/cedillalaw05.EntryWith", spec := "entryWith", inPlace := ["slices.overlaps[cedilla/api.Entry]"], unfollowed := true, recurses := true, apart := false, narrowed := true }
def EntryWithUptoSaid : Prop := entryWithUptoRow.holds Try.pinned (OpenSpec.upto entryWithSpec)

/-- 'cedillalaw05.EntryKnown', WHERE WHAT IT READS IS OF BULK AT MOST 1048576: true; the input reads as it did. -/
def entryKnownUptoRow : OpenClaim := { program := "ytndkhkponamplaa", sum := "add33fc9a8cdc901e884ad72e3d97e888a6a222f31985d3ff820ce550c2b04b3", func := "cedilla/cedillalaw05.EntryKnown", spec := "entryKnown", inPlace := ["internal/abi.NoEscape", "internal/bytealg.MakeNoZero", "slices.overlaps[cedilla/api.Entry]"], unfollowed := true, recurses := true, apart := false, narrowed := true }
def EntryKnownUptoSaid : Prop := entryKnownUptoRow.holds Try.pinned (OpenSpec.upto entryKnownSpec)

end Rows
end Go.Proofs.Ytndkhkponamplaa
