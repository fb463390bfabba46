/- 'cedillalaw08.DiskTells' answers true for every input; its arguments read behind the call as they read before. No condition. -/
import Derived.Test.YtfhidaoiofeooaaGreatY28
namespace Go.Proofs.YtfhidaoiofeooaaGreat.diskTells
open Go.ChangeShapes Go.WideShapes Go.ChangeAt Go.RowKit

set_option maxRecDepth 100000 in
theorem lifted (os : Os) (started : os.Started) (H : Type) (enc : TypeId × Value -> H) :
    ReturnsInHanded {} Tryz.checked os 3 .any (Rows.diskTellsSpec.pre6 enc Tryz.prog Tryz.f3 Rows.diskTellsRow.domain false) (Rows.diskTellsSpec.post enc Tryz.prog Tryz.f3 false true false false) := by
  refine returnsInHanded_of_change (C := Tryz.checked) own started (by kernel_rfl) Tryz.func3
    (ChangeSpec.witness6 (enc := enc) (C := Tryz.checked) false ⟨#[], #[.slice none 0 0, .int .i16 0, .slice none 0 0], []⟩ 8 (by kernel_rfl) (by kernel_rfl) (by kernel_rfl) (by kernel_rfl)) ?_
  intro W base args ds gs before hval0 hW hcnd _
  have hW' := hW
  obtain ⟨p, q, hA0, hV, rfl, hfz, hnd⟩ := hW
  obtain ⟨rfl, rfl⟩ := trodVars_none hV
  have hA : DataW.TrodAll enc Tryz.prog W 0 (fun _ => true) true Tryz.f3.params.toList args.toList ds p := hA0
  have hl : ds.length = 3 := zHP hA
  obtain ⟨d0, d1, d2, rfl⟩ : ∃ y0 y1 y2, ds = [y0, y1, y2] := by
    match ds, hl with
    | [x0, x1, x2], _ => exact ⟨x0, x1, x2, rfl⟩
  have hs : zEb Tryz.prog 6 Tryz.f3.params.toList = some zDx := by kernel_rfl
  refine (zRQ (base := base) hs hA (fun j t v ht hv => hval0 j t v (by rw [<- Array.getElem?_toList]; exact ht) hv) zJo).mono fun e W' ⟨he, bel⟩ => ?_
  subst he
  have hB := zE9 zVM Tryz.f3.params.toList (by kernel_rfl) hA bel
  exact ⟨_, rfl, _, _, _, [], _, [], hW', trodAll_mk1 (shut_bool Tryz.underlying4 _), hB, rfl, bel.frame _, fun h => by cases h⟩

theorem proved : Rows.DiskTellsSaid :=
  OpenClaim.holds_of_wide 3 Tryz.f3 rfl rfl rfl rfl rfl rfl rfl ⟨rfl, rfl, rfl, rfl, rfl⟩ rfl rfl rfl rfl rfl (by kernel_rfl) Tryz.func3 (by kernel_rfl)
    (of_decide_eq_true (by kernel_rfl)) (by unfold Func.isWrapper; rw [if_neg (by decide +kernel)]; exact ⟨rfl, rfl⟩)
    (fun os started H enc _ => lifted os started H enc)

#print axioms proved
end Go.Proofs.YtfhidaoiofeooaaGreat.diskTells
