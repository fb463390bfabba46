/- 'cedillalaw08.DiskArmed' answers true for every input; its arguments read behind the call as they read before. No condition. -/
import Derived.Test.YtjolihoakdifoaaJy
import Derived.Test.YtjolihoakdifoaaGh
namespace Go.Proofs.Ytjolihoakdifoaa.diskArmed
open Go.ChangeShapes Go.WideShapes Go.ChangeAt Go.RowKit

set_option maxRecDepth 100000 in
theorem lifted (os : Os) (started : os.Started) (H : Type) (enc : TypeId × Value → H) :
    ReturnsInHanded {} Try.checked os 5 .any (Rows.diskArmedSpec.pre6 enc Try.prog Try.f5 Rows.diskArmedRow.domain false) (Rows.diskArmedSpec.post enc Try.prog Try.f5 false true false false) := by
  refine returnsInHanded_of_change (C := Try.checked) own started (by kernel_rfl) Try.func5
    (ChangeSpec.witness6 (enc := enc) (C := Try.checked) false ⟨#[], #[.slice none 0 0, .int .u8 0], []⟩ 8 (by kernel_rfl) (by kernel_rfl) (by kernel_rfl) (by kernel_rfl)) ?_
  intro W base args ds gs before hval0 hW hcnd _
  have hW' := hW
  obtain ⟨p, q, hA0, hV, rfl, hfz, hnd⟩ := hW
  obtain ⟨rfl, rfl⟩ := trodVars_none hV
  have hA : DataW.TrodAll enc Try.prog W 0 (fun _ => true) true Try.f5.params.toList args.toList ds p := hA0
  have hl : ds.length = 2 := trodAll_len hA
  obtain ⟨d0, d1, rfl⟩ : ∃ y0 y1, ds = [y0, y1] := by
    match ds, hl with
    | [x0, x1], _ => exact ⟨x0, x1, rfl⟩
  have hs : shapes2 Try.prog 6 Try.f5.params.toList = some diskArmed_shape := by kernel_rfl
  refine (law_call2 (base := base) hs hA (fun j t v ht hv => hval0 j t v (by rw [← Array.getElem?_toList]; exact ht) hv) diskArmed_law).mono fun e W' ⟨he, bel⟩ => ?_
  subst he
  have hB := trodAll_below laidOut Try.f5.params.toList (by kernel_rfl) hA bel
  exact ⟨_, rfl, _, _, _, [], _, [], hW', trodAll_mk1 (shut_bool Try.underlying4 _), hB, rfl, bel.frame _, fun h => by cases h⟩

theorem proved : Rows.DiskArmedSaid :=
  OpenClaim.holds_of_wide 5 Try.f5 rfl rfl rfl rfl rfl rfl rfl ⟨rfl, rfl, rfl, rfl, rfl⟩ rfl rfl rfl rfl rfl (by kernel_rfl) Try.func5 (by kernel_rfl)
    (of_decide_eq_true (by kernel_rfl)) (by unfold Func.isWrapper; rw [if_neg (by decide +kernel)]; exact ⟨rfl, rfl⟩)
    (fun os started H enc _ => lifted os started H enc)

#print axioms proved
end Go.Proofs.Ytjolihoakdifoaa.diskArmed
