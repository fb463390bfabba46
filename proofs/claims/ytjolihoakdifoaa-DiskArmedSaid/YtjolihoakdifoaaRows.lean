/-
  No cell of these rows narrows 'for every input' (looked for: loops, veiled, ifaces, maps, wideKeys, modest, calm, conditions, laid).
  DERIVED. THE GIVEN ROWS OF THIS SEAT. 3 by the template 'for every input the law returns true; each argument reads behind the call as it read before'; 0 by the template 'total and deterministic' (their statements: YtjolihoakdifoaaTotals.lean).
  GIVEN WITH THE SEED: the statements are not yours to turn. If you find one false, say at which input.
  Laid BY PROGRAM, IN A SANDBOX (cutbox-rows.mjs): the forced cells as the released guide's own fill.sh prints them over the translation 71dcc270abd2d255… (all of the seat's roots in one cut). By AI agents, Wed Nov 11 2026. No macro, syntax, notation, axiom, sorry.
-/
import Derived.Test.YtjolihoakdifoaaChecked
import GoSem.Claim
import GoSem.ClaimJoined
import GoSem.ClaimMapViews
import Derived.JoinedTies
import Derived.KernelRfl
namespace Go.Proofs.Ytjolihoakdifoaa
/- THE CELL 'sum', in the pinned program and in every row, IS THE sha256 OF THE DUMP (.gsa) THAT YtjolihoakdifoaaProg.lean LOADS. Nothing in Lean hashes anything: it is a label: what it is worth is what the hold of that sum in a sandbox is worth. -/
noncomputable def Try.pinned : Pinned := { name := "ytjolihoakdifoaa", sum := "71dcc270abd2d255e3e5c1012a562792be3117e16990cc3ee6a195507a5ee6f7", checked := Try.checked }
namespace Rows
def none {H : Type} : Left H := { results := [], args := [] }

/-- 'cedillalaw06.FileTells': WHATEVER THE INPUT: true; the input reads as it did. -/
def fileTellsSpec : ChangeSpec := { name := "fileTells", fn := fun _ => fun
  | [d1, d2] => { results := [.lit (.bool true)], args := [d1, d2] }
  | _ => none }
def fileTellsRow : OpenClaim := { program := "ytjolihoakdifoaa", sum := "71dcc270abd2d255e3e5c1012a562792be3117e16990cc3ee6a195507a5ee6f7", func := "cedilla/cedillalaw06.FileTells", spec := "fileTells", inPlace := ["internal/abi.NoEscape", "internal/bytealg.MakeNoZero"], unfollowed := true, recurses := true, apart := false }
def FileTellsSaid : Prop := fileTellsRow.holds Try.pinned (OpenSpec.ofChange fileTellsSpec)

/-- ITS FALSE NEIGHBOUR: 'it returns false'. Refute it at one input. -/
def fileTellsWrong : ChangeSpec := { name := "fileTells", fn := fun _ => fun
  | [d1, d2] => { results := [.lit (.bool false)], args := [d1, d2] }
  | _ => none }
def FileTellsWrongFalsely : Prop := fileTellsRow.holds Try.pinned (OpenSpec.ofChange fileTellsWrong)

/-- 'cedillalaw07.FolderSurvives': WHATEVER THE INPUT: true; the input reads as it did. -/
def folderSurvivesSpec : ChangeSpec := { name := "folderSurvives", fn := fun _ => fun
  | [d1, d2, d3] => { results := [.lit (.bool true)], args := [d1, d2, d3] }
  | _ => none }
def folderSurvivesRow : OpenClaim := { program := "ytjolihoakdifoaa", sum := "71dcc270abd2d255e3e5c1012a562792be3117e16990cc3ee6a195507a5ee6f7", func := "cedilla/cedillalaw07.FolderSurvives", spec := "folderSurvives", inPlace := ["internal/abi.NoEscape", "internal/bytealg.MakeNoZero", "maps.clone"], unfollowed := true, recurses := true, apart := false }
def FolderSurvivesSaid : Prop := folderSurvivesRow.holds Try.pinned (OpenSpec.ofChange folderSurvivesSpec)

/-- ITS FALSE NEIGHBOUR: 'it returns false'. Refute it at one input. -/
def folderSurvivesWrong : ChangeSpec := { name := "folderSurvives", fn := fun _ => fun
  | [d1, d2, d3] => { results := [.lit (.bool false)], args := [d1, d2, d3] }
  | _ => none }
def FolderSurvivesWrongFalsely : Prop := folderSurvivesRow.holds Try.pinned (OpenSpec.ofChange folderSurvivesWrong)

/-- 'cedillalaw08.DiskArmed': WHATEVER THE INPUT: true; the input reads as it did. -/
def diskArmedSpec : ChangeSpec := { name := "diskArmed", fn := fun _ => fun
  | [d1, d2] => { results := [.lit (.bool true)], args := [d1, d2] }
  | _ => none }
def diskArmedRow : OpenClaim := { program := "ytjolihoakdifoaa", sum := "71dcc270abd2d255e3e5c1012a562792be3117e16990cc3ee6a195507a5ee6f7", func := "cedilla/cedillalaw08.DiskArmed", spec := "diskArmed", inPlace := ["maps.clone", "internal/abi.NoEscape", "internal/bytealg.MakeNoZero"], unfollowed := true, recurses := true, apart := false }
def DiskArmedSaid : Prop := diskArmedRow.holds Try.pinned (OpenSpec.ofChange diskArmedSpec)

/-- ITS FALSE NEIGHBOUR: 'it returns false'. Refute it at one input. -/
def diskArmedWrong : ChangeSpec := { name := "diskArmed", fn := fun _ => fun
  | [d1, d2] => { results := [.lit (.bool false)], args := [d1, d2] }
  | _ => none }
def DiskArmedWrongFalsely : Prop := diskArmedRow.holds Try.pinned (OpenSpec.ofChange diskArmedWrong)

/- THE SECOND FORM. 'bulk': how many values and letters a reading holds, each counted each time it is reached (what is shared counts as often as it is met; a slice's spare places count too). A statement '..UptoSaid' is the law's where the arguments, and the package variables that the reading takes, are together of bulk at most 1048576: NARROWER than '..Said'. Prove '..Said' where nothing that the law and all that it calls make is longer than what came in: it says more and counts as full. Else prove '..UptoSaid'. A law counts once. -/
mutual
def uptoBulk {H : Type} : DataW H → Nat
  | .lit (.string bytes) => bytes.length + 1
  | .lit _ => 1
  | .nil => 1
  | .ptr d => uptoBulk d + 1
  | .slice elems spare => uptoBulkAll elems + uptoBulkAll spare + 1
  | .agg parts => uptoBulkAll parts + 1
  | .iface _ d => uptoBulk d + 1
  | .map entries => uptoBulkEntries entries + 1
  | .held _ => 1
def uptoBulkAll {H : Type} : List (DataW H) → Nat
  | [] => 0
  | d :: r => uptoBulk d + uptoBulkAll r
def uptoBulkEntries {H : Type} : List (Lit × DataW H) → Nat
  | [] => 0
  | x :: r => uptoBulkEntry x + uptoBulkEntries r
def uptoBulkEntry {H : Type} : Lit × DataW H → Nat
  | (.string bytes, d) => bytes.length + uptoBulk d + 1
  | (_, d) => uptoBulk d + 1
 end
def uptoSmall : (H : Type) → List (DataW H) → Bool := fun _ ds => decide (uptoBulkAll ds ≤ 1048576)
def OpenSpec.upto (s : _root_.Go.ChangeSpec) : _root_.Go.OpenSpec := { _root_.Go.OpenSpec.ofChange s with cond := some uptoSmall }

/-- 'cedillalaw06.FileTells', WHERE WHAT IT READS IS OF BULK AT MOST 1048576: true; the input reads as it did. -/
def fileTellsUptoRow : OpenClaim := { program := "ytjolihoakdifoaa", sum := "71dcc270abd2d255e3e5c1012a562792be3117e16990cc3ee6a195507a5ee6f7", func := "cedilla/cedillalaw06.FileTells", spec := "fileTells", inPlace := ["internal/abi.NoEscape", "internal/bytealg.MakeNoZero"], unfollowed := true, recurses := true, apart := false, narrowed := true }
def FileTellsUptoSaid : Prop := fileTellsUptoRow.holds Try.pinned (OpenSpec.upto fileTellsSpec)

/-- 'cedillalaw07.FolderSurvives', WHERE WHAT IT READS IS OF BULK AT MOST 1048576: true; the input reads as it did. -/
def folderSurvivesUptoRow : OpenClaim := { program := "ytjolihoakdifoaa", sum := "71dcc270abd2d255e3e5c1012a562792be3117e16990cc3ee6a195507a5ee6f7", func := "cedilla/cedillalaw07.FolderSurvives", spec := "folderSurvives", inPlace := ["internal/abi.NoEscape", "internal/bytealg.MakeNoZero", "maps.clone"], unfollowed := true, recurses := true, apart := false, narrowed := true }
def FolderSurvivesUptoSaid : Prop := folderSurvivesUptoRow.holds Try.pinned (OpenSpec.upto folderSurvivesSpec)

/-- 'cedillalaw08.DiskArmed', WHERE WHAT IT READS IS OF BULK AT MOST 1048576: true; the input reads as it did. -/
def diskArmedUptoRow : OpenClaim := { program := "ytjolihoakdifoaa", sum := "71dcc270abd2d255e3e5c1012a562792be3117e16990cc3ee6a195507a5ee6f7", func := "cedilla/cedillalaw08.DiskArmed", spec := "diskArmed", inPlace := ["maps.clone", "internal/abi.NoEscape", "internal/bytealg.MakeNoZero"], unfollowed := true, recurses := true, apart := false, narrowed := true }
def DiskArmedUptoSaid : Prop := diskArmedUptoRow.holds Try.pinned (OpenSpec.upto diskArmedSpec)

end Rows
end Go.Proofs.Ytjolihoakdifoaa
