/-
  No cell of these rows narrows 'for every input' (looked for: loops, veiled, ifaces, maps, wideKeys, modest, calm, conditions, laid).
  DERIVED. THE GIVEN ROWS OF THIS SEAT. 3 by the template 'for every input the law returns true; each argument reads behind the call as it read before'; 0 by the template 'total and deterministic' (their statements: YtjiilgpagpfdnaaTotals.lean).
  GIVEN WITH THE SEED: the statements are not yours to turn. If you find one false, say at which input.
  Laid BY PROGRAM, IN A SANDBOX (cutbox-rows.mjs): the forced cells as the released guide's own fill.sh prints them over the translation e909ef24b3e92852… (all of the seat's roots in one cut). By AI agents, Wed Nov 11 2026. No macro, syntax, notation, axiom, sorry.
-/
import Derived.Test.YtjiilgpagpfdnaaChecked
import GoSem.Claim
import GoSem.ClaimJoined
import GoSem.ClaimMapViews
import Derived.JoinedTies
import Derived.KernelRfl
namespace Go.Proofs.Ytjiilgpagpfdnaa
/- THE CELL 'sum', in the pinned program and in every row, IS THE sha256 OF THE DUMP (.gsa) THAT YtjiilgpagpfdnaaProg.lean LOADS. Nothing in Lean hashes anything: it is a label: what it is worth is what the hold of that sum in a sandbox is worth. -/
noncomputable def Try.pinned : Pinned := { name := "ytjiilgpagpfdnaa", sum := "e909ef24b3e92852d3adecbc780b218a646d9f389f5d0e2ee95115176b0aceb2", checked := Try.checked }
namespace Rows
def none {H : Type} : Left H := { results := [], args := [] }

/-- 'cedillalaw07.FolderSurvives': WHATEVER THE INPUT: true; the input reads as it did. -/
def folderSurvivesSpec : ChangeSpec := { name := "folderSurvives", fn := fun _ => fun
  | [d1, d2, d3] => { results := [.lit (.bool true)], args := [d1, d2, d3] }
  | _ => none }
def folderSurvivesRow : OpenClaim := { program := "ytjiilgpagpfdnaa", sum := "e909ef24b3e92852d3adecbc780b218a646d9f389f5d0e2ee95115176b0aceb2", func := "cedilla/cedillalaw07.FolderSurvives", spec := "folderSurvives", inPlace := ["internal/abi.NoEscape", "internal/bytealg.MakeNoZero", "maps.clone"], unfollowed := true, recurses := true, apart := false }
def FolderSurvivesSaid : Prop := folderSurvivesRow.holds Try.pinned (OpenSpec.ofChange folderSurvivesSpec)

/-- ITS FALSE NEIGHBOUR: 'it returns false'. Refute it at one input. -/
def folderSurvivesWrong : ChangeSpec := { name := "folderSurvives", fn := fun _ => fun
  | [d1, d2, d3] => { results := [.lit (.bool false)], args := [d1, d2, d3] }
  | _ => none }
def FolderSurvivesWrongFalsely : Prop := folderSurvivesRow.holds Try.pinned (OpenSpec.ofChange folderSurvivesWrong)

/-- 'cedillalaw07.FolderNumbers': WHATEVER THE INPUT: true; the input reads as it did. -/
def folderNumbersSpec : ChangeSpec := { name := "folderNumbers", fn := fun _ => fun
  | [d] => { results := [.lit (.bool true)], args := [d] }
  | _ => none }
def folderNumbersRow : OpenClaim := { program := "ytjiilgpagpfdnaa", sum := "e909ef24b3e92852d3adecbc780b218a646d9f389f5d0e2ee95115176b0aceb2", func := "cedilla/cedillalaw07.FolderNumbers", spec := "folderNumbers", inPlace := ["internal/abi.NoEscape", "internal/bytealg.MakeNoZero", "maps.clone"], unfollowed := true, recurses := true, apart := false }
def FolderNumbersSaid : Prop := folderNumbersRow.holds Try.pinned (OpenSpec.ofChange folderNumbersSpec)

/-- ITS FALSE NEIGHBOUR: 'it returns false'. Refute it at one input. -/
def folderNumbersWrong : ChangeSpec := { name := "folderNumbers", fn := fun _ => fun
  | [d] => { results := [.lit (.bool false)], args := [d] }
  | _ => none }
def FolderNumbersWrongFalsely : Prop := folderNumbersRow.holds Try.pinned (OpenSpec.ofChange folderNumbersWrong)

/-- 'cedillalaw07.FolderApart': WHATEVER THE INPUT: true; the input reads as it did. -/
def folderApartSpec : ChangeSpec := { name := "folderApart", fn := fun _ => fun
  | [d1, d2, d3] => { results := [.lit (.bool true)], args := [d1, d2, d3] }
  | _ => none }
def folderApartRow : OpenClaim := { program := "ytjiilgpagpfdnaa", sum := "e909ef24b3e92852d3adecbc780b218a646d9f389f5d0e2ee95115176b0aceb2", func := "cedilla/cedillalaw07.FolderApart", spec := "folderApart", inPlace := ["internal/abi.NoEscape", "internal/bytealg.MakeNoZero", "maps.clone"], unfollowed := true, recurses := true, apart := false }
def FolderApartSaid : Prop := folderApartRow.holds Try.pinned (OpenSpec.ofChange folderApartSpec)

/-- ITS FALSE NEIGHBOUR: 'it returns false'. Refute it at one input. -/
def folderApartWrong : ChangeSpec := { name := "folderApart", fn := fun _ => fun
  | [d1, d2, d3] => { results := [.lit (.bool false)], args := [d1, d2, d3] }
  | _ => none }
def FolderApartWrongFalsely : Prop := folderApartRow.holds Try.pinned (OpenSpec.ofChange folderApartWrong)

/- THE SECOND FORM. 'bulk': how many values and letters a reading holds, each counted each time it is reached (what is shared counts as often as it is met; a slice's spare places count too). A statement '..UptoSaid' is the law's where the arguments, and the package variables that the reading takes, are together of bulk at most 1048576: NARROWER than '..Said'. Prove '..Said' where nothing that the law and all that it calls make is longer than what came in: it says more and counts as full. Else prove '..UptoSaid'. A law counts once. -/
mutual
def uptoBulk {H : Type} : DataW H → Nat
  | .lit (.string bytes) => bytes.length + 1
  | .lit _ => 1
  | .nil => 1
  | .ptr d => uptoBulk d + 1
  | .slice elems spare => uptoBulkAll elems + uptoBulkAll spare + 1
  | .agg parts => uptoBulkAll parts + 1
  | .iface _ d => uptoBulk d + 1
  | .map entries => uptoBulkEntries entries + 1
  | .held _ => 1
def uptoBulkAll {H : Type} : List (DataW H) → Nat
  | [] => 0
  | d :: r => uptoBulk d + uptoBulkAll r
def uptoBulkEntries {H : Type} : List (Lit × DataW H) → Nat
  | [] => 0
  | x :: r => uptoBulkEntry x + uptoBulkEntries r
def uptoBulkEntry {H : Type} : Lit × DataW H → Nat
  | (.string bytes, d) => bytes.length + uptoBulk d + 1
  | (_, d) => uptoBulk d + 1
 end
def uptoSmall : (H : Type) → List (DataW H) → Bool := fun _ ds => decide (uptoBulkAll ds ≤ 1048576)
def OpenSpec.upto (s : _root_.Go.ChangeSpec) : _root_.Go.OpenSpec := { _root_.Go.OpenSpec.ofChange s with cond := some uptoSmall }

/-- 'cedillalaw07.FolderSurvives', WHERE WHAT IT READS IS OF BULK AT MOST 1048576: true; the input reads as it did. -/
def folderSurvivesUptoRow : OpenClaim := { program := "ytjiilgpagpfdnaa", sum := "e909ef24b3e92852d3adecbc780b218a646d9f389f5d0e2ee95115176b0aceb2", func := "cedilla/cedillalaw07.FolderSurvives", spec := "folderSurvives", inPlace := ["internal/abi.NoEscape", "internal/bytealg.MakeNoZero", "maps.clone"], unfollowed := true, recurses := true, apart := false, narrowed := true }
def FolderSurvivesUptoSaid : Prop := folderSurvivesUptoRow.holds Try.pinned (OpenSpec.upto folderSurvivesSpec)

/-- 'cedillalaw07.FolderNumbers', WHERE WHAT IT READS IS OF BULK AT MOST 1048576: true; the input reads as it did. -/
def folderNumbersUptoRow : OpenClaim := { program := "ytjiilgpagpfdnaa", sum := "e909ef24b3e92852d3adecbc780b218a646d9f389f5d0e2ee95115176b0aceb2", func := "cedilla/cedillalaw07.FolderNumbers", spec := "folderNumbers", inPlace := ["internal/abi.NoEscape", "internal/bytealg.MakeNoZero", "maps.clone"], unfollowed := true, recurses := true, apart := false, narrowed := true }
def FolderNumbersUptoSaid : Prop := folderNumbersUptoRow.holds Try.pinned (OpenSpec.upto folderNumbersSpec)

/-- 'cedillalaw07.FolderApart', WHERE WHAT IT READS IS OF BULK AT MOST 1048576: true; the input reads as it did. -/
def folderApartUptoRow : OpenClaim := { program := "ytjiilgpagpfdnaa", sum := "e909ef24b3e92852d3adecbc780b218a646d9f389f5d0e2ee95115176b0aceb2", func := "cedilla/cedillalaw07.FolderApart", spec := "folderApart", inPlace := ["internal/abi.NoEscape", "internal/bytealg.MakeNoZero", "maps.clone"], unfollowed := true, recurses := true, apart := false, narrowed := true }
def FolderApartUptoSaid : Prop := folderApartUptoRow.holds Try.pinned (OpenSpec.upto folderApartSpec)

end Rows
end Go.Proofs.Ytjiilgpagpfdnaa
