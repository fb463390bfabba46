/- Contract: strings.Join, nothing between. -/
import Derived.Test.YtjolihoakdifoaaLa
import Derived.Test.YtjolihoakdifoaaShelf
namespace Go.Proofs.Ytjolihoakdifoaa
open Go

def joinS : Summ := readS fun args H => match args with
  | [x, .str []] => match rowStrs H x with
    | some a => if a.flatten.length ≤ 140737488355328 ∧ a.length ≤ 140737488355328 then some (.str a.flatten) else none
    | none => none
  | _ => none

theorem join_flat (a : List (List UInt8)) : Lib.join a [] = a.flatten := by
  unfold Lib.join
  induction a with
  | nil => rfl
  | cons x r ih =>
    cases r with
    | nil => simp [List.intercalate]
    | cons y r => simp [List.intercalate, List.intersperse] at ih ⊢; rw [← ih]

theorem join_sound : Sound Try.prog 19 joinS := by
  refine sound_read (enter_of Try.func19 rfl (by decide)) fun args H v h => ?_
  split at h
  rotate_left
  · cases h
  rename_i x
  split at h
  rotate_left
  · cases h
  rename_i a ha
  split at h <;> cases h
  rename_i hc
  refine ct_of_world rfl fun j w cargs hR hargs => ?_
  simp only [VRs] at hargs
  obtain ⟨cx, ws, e1, hx, cs, ws2, e2, hs, rfl⟩ := hargs
  subst e2
  simp only [VR] at hs
  subst hs
  have ec : cargs = #[cx, .string ⟨#[]⟩] := by apply Array.ext'; rw [e1]
  subst ec
  rcases rowStrs_world hR ha hx with ⟨rfl, rfl⟩ | ⟨ad, cap, rfl, hcap, hb⟩
  · refine (Try.strings_Join_none none 0 ⟨#[]⟩ w).mono ?_
    rintro e w' ⟨rfl, rfl⟩
    exact ⟨_, rfl, rfl, RowKit.Below.refl _ _⟩
  · rcases hb with rfl | ⟨bk, o, rfl, hbk, hcell⟩
    · refine (Try.strings_Join_none (some ad) cap ⟨#[]⟩ w).mono ?_
      rintro e w' ⟨rfl, rfl⟩
      exact ⟨_, rfl, rfl, RowKit.Below.refl _ _⟩
    · have key := Try.strings_Join bk o cap (a.map fun s => ⟨s.toArray⟩) ⟨#[]⟩ w (fun i x hi => by
        rw [List.getElem?_map] at hi
        obtain ⟨s, hs, rfl⟩ := Option.map_eq_some_iff.1 hi
        exact hcell i s hs) hbk (by simpa using hc.2) (by simpa using hcap)
      have em : (a.map fun s => (⟨s.toArray⟩ : ByteArray)).map (·.data.toList) = a := by
        rw [List.map_map]
        exact List.map_id'' (fun s => by simp) a
      rw [em] at key
      have ej : Lib.join a (ByteArray.mk #[]).data.toList = a.flatten := join_flat a
      rw [ej] at key
      simp only [List.length_map] at key
      refine (key hc.1).mono ?_
      rintro e w' ⟨rfl, hb⟩
      exact ⟨_, rfl, rfl, hb⟩


/-- Joined, with something between. -/
def joinU (a : List (List UInt8)) (sep : List UInt8) : List UInt8 := match a with
  | [] => []
  | x :: r => x ++ (r.map (sep ++ ·)).flatten

theorem join_u (a : List (List UInt8)) (sep : List UInt8) : Lib.join a sep = joinU a sep := by
  cases a with
  | nil => rfl
  | cons x r => rw [Lib.join_cons]; rfl

def joinS2 : Summ := readS fun args H => match args with
  | [x, .str sep] => match rowStrs H x with
    | some a => if (joinU a sep).length ≤ 140737488355328 ∧ a.length ≤ 140737488355328 then some (.str (joinU a sep)) else none
    | none => none
  | _ => none

theorem join_sound2 : Sound Try.prog 19 joinS2 := by
  refine sound_read (enter_of Try.func19 rfl (by decide)) fun args H v h => ?_
  split at h
  rotate_left
  · cases h
  rename_i x sep
  split at h
  rotate_left
  · cases h
  rename_i a ha
  split at h <;> cases h
  rename_i hc
  refine ct_of_world rfl fun j w cargs hR hargs => ?_
  simp only [VRs] at hargs
  obtain ⟨cx, ws, e1, hx, cs, ws2, e2, hs, rfl⟩ := hargs
  subst e2
  simp only [VR] at hs
  subst hs
  have ec : cargs = #[cx, .string ⟨sep.toArray⟩] := by apply Array.ext'; rw [e1]
  subst ec
  rcases rowStrs_world hR ha hx with ⟨rfl, rfl⟩ | ⟨ad, cap, rfl, hcap, hb⟩
  · refine (Try.strings_Join_none none 0 ⟨sep.toArray⟩ w).mono ?_
    rintro e w' ⟨rfl, rfl⟩
    exact ⟨_, rfl, rfl, RowKit.Below.refl _ _⟩
  · rcases hb with rfl | ⟨bk, o, rfl, hbk, hcell⟩
    · refine (Try.strings_Join_none (some ad) cap ⟨sep.toArray⟩ w).mono ?_
      rintro e w' ⟨rfl, rfl⟩
      exact ⟨_, rfl, rfl, RowKit.Below.refl _ _⟩
    · have key := Try.strings_Join bk o cap (a.map fun s => ⟨s.toArray⟩) ⟨sep.toArray⟩ w (fun i x hi => by
        rw [List.getElem?_map] at hi
        obtain ⟨s, hs, rfl⟩ := Option.map_eq_some_iff.1 hi
        exact hcell i s hs) hbk (by simpa using hc.2) (by simpa using hcap)
      have em : (a.map fun s => (⟨s.toArray⟩ : ByteArray)).map (·.data.toList) = a := by
        rw [List.map_map]
        exact List.map_id'' (fun s => by simp) a
      rw [em] at key
      have ej : Lib.join a (ByteArray.mk sep.toArray).data.toList = joinU a sep := join_u a sep
      rw [ej] at key
      simp only [List.length_map] at key
      refine (key hc.1).mono ?_
      rintro e w' ⟨rfl, hb⟩
      exact ⟨_, rfl, rfl, hb⟩

end Go.Proofs.Ytjolihoakdifoaa
