/- Contracts: strconv.Atoi. -/
import Derived.Test.YtkeffhaldeedpaaDoorSc
namespace Go.Proofs.YtkeffhaldeedpaaDoor
open Go Go.RowKit Go.Lib Go.Sort

theorem err_cell {j : Inj} {H : AHeap} {w : World} (hR : R j H w) : (∃ v, w.cell? ⟨0, 0, none⟩ = some v ∧ IfcV v) ∧ ∃ v, w.cell? ⟨1, 0, none⟩ = some v ∧ IfcV v := by
  have key : ∀ g, ErrAt (gview w) g → ∃ v, w.cell? ⟨g, 0, none⟩ = some v ∧ IfcV v := by
    rintro g ⟨T, fz, v, h, hv⟩
    unfold gview at h
    split at h
    · exact ⟨v, by simp [World.cell?, h], hv⟩
    · cases h
  exact ⟨key _ hR.glo.1.1.2.1, key _ hR.glo.1.1.2.2⟩
def atoiS : Summ := pureS fun
  | [.str s] => if s.length ≤ 1000000 then (match atoiAll s with
    | .ok v => some (.tuple [.int .i64 v, .top])
    | .«syntax» => some (.tuple [.int .i64 0, .top])
    | .range => some (.tuple [.int .i64 (atoiSat s), .top])) else none
  | _ => none
theorem atoi_sound : Sound Tryd.prog 21 atoiS := by
  refine sound_pure (enter_of Tryd.func21 rfl (by decide)) fun args v hv => ?_
  split at hv
  rotate_left
  · cases hv
  rename_i s
  split at hv
  rotate_left
  · cases hv
  rename_i hs
  have key : ∀ x, v = .tuple [x, .top] → free x = true → (∀ j w, R j [] w → Calls Tryd.prog 21 #[.string ⟨s.toArray⟩] w fun e w' => ∃ cx cy, e = .returned (.tuple #[cx, cy]) ∧ VR j x cx ∧ Below w.heap.size w w') → Ct Tryd.prog 21 [.str s] [] v [] ∧ frees [AV.str s] = true ∧ free v = true := by
    intro x hx hfx h
    subst hx
    refine ⟨ct_of_world (by simp [free, frees, hfx]) fun j w cargs hR hargs => ?_, rfl, by simp [free, frees, hfx]⟩
    obtain ⟨a, cs, e, h1, h2⟩ := hargs
    simp only [VRs] at h2
    subst h2
    simp only [VR] at h1
    subst h1
    have ec : cargs = #[.string ⟨s.toArray⟩] := by apply Array.ext'; rw [e]
    subst ec
    refine (h j w hR).mono ?_
    rintro e w' ⟨cx, cy, rfl, h3, h4⟩
    exact ⟨_, rfl, ⟨#[cx, cy], rfl, cx, [cy], rfl, h3, cy, [], rfl, trivial, rfl⟩, h4⟩
  have hsz : (ByteArray.mk s.toArray).size = s.length := by simp [ByteArray.size]
  split at hv <;> cases hv
  · rename_i n hn
    refine key _ rfl rfl fun j w hR => ?_
    refine (Tryd.strconv_Atoi_ok ⟨s.toArray⟩ (by rw [hsz]; omega) n (by simpa using hn) w).mono ?_
    rintro e w' ⟨rfl, hw⟩
    refine ⟨_, _, rfl, rfl, ?_⟩
    rcases hw with rfl | ⟨t, rfl⟩
    · exact Below.refl _ _
    · exact below_bytes _ _ _
  · rename_i hn
    refine key _ rfl rfl fun j w hR => ?_
    obtain ⟨ev, h1, h2⟩ := (err_cell hR).1
    refine (Tryd.strconv_Atoi_syntax ⟨s.toArray⟩ (by rw [hsz]; omega) (by simpa using hn) ev w h1 h2).mono ?_
    rintro e w' ⟨N, rfl, _, _, hb⟩
    exact ⟨_, _, rfl, rfl, hb⟩
  · rename_i hn
    refine key _ rfl rfl fun j w hR => ?_
    obtain ⟨ev, h1, h2⟩ := (err_cell hR).2
    refine (Tryd.strconv_Atoi_range ⟨s.toArray⟩ (by rw [hsz]; omega) (by simpa using hn) ev w h1 h2).mono ?_
    rintro e w' ⟨N, rfl, _, _, hb⟩
    exact ⟨_, _, rfl, (by simp [VR]), hb⟩


end Go.Proofs.YtkeffhaldeedpaaDoor
