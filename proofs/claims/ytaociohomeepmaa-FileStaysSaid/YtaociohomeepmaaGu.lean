/- Summaries of methods that only read one object. -/
import Derived.Test.YtaociohomeepmaaGt
namespace Go.Proofs.Ytaociohomeepmaa
open Go
set_option maxRecDepth 100000

/-- The summary of a function without further arguments that reads one object. -/
def objR {σ : Type} (dec : AHeap → Option σ) (g : σ → AV) : Summ := fun args H => match args with
  | [.ptr b 0] => match H[b]? with
    | some (.obj true sub) => match dec sub with
      | some s => some (g s, H, [])
      | none => none
    | _ => none
  | _ => none

theorem sound_objR {P : Program} {f : FuncId} {σ : Type} {dec : AHeap → Option σ} {enc : σ → AHeap} {g : σ → AV} (he : ∀ cargs w, (callFunc f cargs).run P w = .ok (.enter f cargs) w) (hd : ∀ sub s, dec sub = some s → sub = enc s) (hg : ∀ s, flatT (g s) = true)
    (h : ∀ s, Ct P f [.ptr 0 0] [.obj true (enc s)] (g s) [.obj true (enc s)]) : Sound P f (objR dec g) := by
  refine ⟨he, fun args H v H' W hs => ?_, fun args H v H' W hs => ?_⟩
  · unfold objR at hs
    split at hs <;> try cases hs
    split at hs <;> try cases hs
    rename_i sub hb
    split at hs <;> cases hs
    rename_i s hds
    have e := hd _ _ hds
    subst e
    have := ct_obj1 (h s) rfl (hg s) hb
    obtain ⟨h1, h2⟩ := List.getElem?_eq_some_iff.1 hb
    rw [← h2, List.set_getElem_self] at this
    exact this
  · unfold objR at hs
    split at hs <;> try cases hs
    split at hs <;> try cases hs
    split at hs <;> cases hs
    exact ⟨Nat.le_refl _, fun _ _ _ => rfl⟩

attribute [simp] objR

noncomputable def fbytesR : Summ := objR fileD fun f => .str f.now
theorem fbytesR_sound : Sound Try.prog 12 fbytesR := sound_objR (enter_of Try.func12 rfl (by decide)) (fun _ _ => fileD_eq) (fun _ => rfl) fbytes_ct
noncomputable def fdurableR : Summ := objR fileD fun f => .str f.d
theorem fdurableR_sound : Sound Try.prog 16 fdurableR := sound_objR (enter_of Try.func16 rfl (by decide)) (fun _ _ => fileD_eq) (fun _ => rfl) fdurable_ct
noncomputable def flenR : Summ := objR fileD fun f => .int .i64 f.now.length
theorem flenR_sound : Sound Try.prog 13 flenR := sound_objR (enter_of Try.func13 rfl (by decide)) (fun _ _ => fileD_eq) (fun _ => rfl) flen_ct
noncomputable def factsR : Summ := objR fileD fun f => .int .i64 f.acts.length
theorem factsR_sound : Sound Try.prog 17 factsR := sound_objR (enter_of Try.func17 rfl (by decide)) (fun _ _ => fileD_eq) (fun _ => rfl) facts_ct

end Go.Proofs.Ytaociohomeepmaa
