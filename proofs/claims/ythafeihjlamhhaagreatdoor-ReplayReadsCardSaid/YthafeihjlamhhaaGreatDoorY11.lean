/- Parts of the proof of ReplayReads: lemmas, each with its own conditions. -/
import Derived.Test.YthafeihjlamhhaaGreatDoorY10
namespace Go.Proofs.YthafeihjlamhhaaGreatDoor
open Go
set_option maxRecDepth 100000
attribute [-simp] drawOk_eq adraw qrun acode aops
theorem dcells_inj : ∀ (ds ds' : List Dr) (k : Nat), ds.length = ds'.length → dcells k ds = dcells k ds' → dblks ds = dblks ds' → ds = ds'
  | [], [], _, _, _, _ => rfl
  | [], _ :: _, _, h, _, _ => by simp at h
  | _ :: _, [], _, h, _, _ => by simp at h
  | (l, n, g) :: ds, (l', n', g') :: ds', k, hl, hc, hb => by
    simp only [dcells, List.cons.injEq, AV.sl.injEq, AV.int.injEq, AV.bool.injEq, true_and, and_true] at hc
    simp only [dblks, List.map_cons, List.cons.injEq, ABlk.cells.injEq, true_and] at hb
    obtain ⟨_, rfl, rfl, hc⟩ := hc
    have hll : l = l' := by
      have := congrArg (natsOf .u8) hb.1
      simpa [natsOf_aB] using this
    subst hll
    rw [dcells_inj ds ds' (k + 1) (by simpa using hl) hc hb.2]
theorem drH_inj {ds ds' : List Dr} {T T' : AHeap} (hl : ds.length = ds'.length) (h : drH ds ++ T = drH ds' ++ T') : ds = ds' := by
  obtain ⟨h1, _⟩ := List.append_inj h (by rw [drH_length, drH_length, hl])
  simp only [drH, List.cons.injEq, ABlk.cells.injEq, true_and] at h1
  exact dcells_inj ds ds' 1 hl h1.1 h1.2
def DrAt (args : List AV) (H : AHeap) (ds : List Dr) (m : Nat) : Prop :=
  args = [.sl 0 0 ds.length 3 false, .int .i64 m] ∧ (∃ T, H = drH ds ++ T) ∧ m ≤ 100 ∧ DrOk ds ∧ ds.length ≤ 9223372036854775807
theorem DrAt.uniq {args : List AV} {H : AHeap} {ds ds' : List Dr} {m m' : Nat} (h : DrAt args H ds m) (h' : DrAt args H ds' m') : ds = ds' ∧ m = m' := by
  obtain ⟨h1, ⟨T, h2⟩, _⟩ := h
  obtain ⟨g1, ⟨T', g2⟩, _⟩ := h'
  rw [h1] at g1
  simp only [List.cons.injEq, AV.sl.injEq, AV.int.injEq, and_true, true_and] at g1
  exact ⟨drH_inj g1.1 (h2 ▸ g2), by omega⟩
open Classical in
noncomputable def entriesS : Summ := fun args H =>
  if h : ∃ ds m, DrAt args H ds m then some (.sl H.length 0 (dEs (h.choose.take h.choose_spec.choose)).length 3 false, H ++ [.cells true (ensA (dEs (h.choose.take h.choose_spec.choose)))], []) else none
theorem entriesS_at {args : List AV} {H : AHeap} {ds : List Dr} {m : Nat} (h : DrAt args H ds m) :
    entriesS args H = some (.sl H.length 0 (dEs (ds.take m)).length 3 false, H ++ [.cells true (ensA (dEs (ds.take m)))], []) := by
  have h0 : ∃ ds m, DrAt args H ds m := ⟨ds, m, h⟩
  obtain ⟨e1, e2⟩ := h0.choose_spec.choose_spec.uniq h
  unfold entriesS
  rw [dif_pos h0, e2, e1]
theorem setOwn_none (g : Nat → Nat) : ∀ (H : AHeap) (em : List Nat) (H0 H1 : AHeap), (∀ B ∈ H0, B.own = false) → setOwn g H em H0 H1 = H
  | H, [], _, _, _ => by simp [setOwn]
  | H, _ :: _, [], _, _ => by simp [setOwn]
  | H, _ :: _, _ :: _, [], _ => by simp [setOwn]
  | H, e :: em, B0 :: H0, B1 :: H1, h => by
    unfold setOwn
    rw [if_neg (by rw [h B0 (List.mem_cons_self ..)]; decide), setOwn_none g H em H0 H1 fun B hB => h B (List.mem_cons_of_mem _ hB)]
theorem reAs_ens (g : Nat → Nat) : ∀ es : List En, reAs g (ensA es) = ensA es
  | [] => rfl
  | e :: es => by
    have := reAs_ens g es
    simp [ensA, enA] at this ⊢
    exact this
theorem drH_win (ds : List Dr) (T : AHeap) : AWh (List.range (ds.length + 1)) (drH ds ++ T) (drH ds) (List.range (ds.length + 1)) := by
  have hN := drH_length ds
  refine AWh.of _ _ (by simp [hN]) fun i x b hx hb => ?_
  have hi : i < ds.length + 1 := by rw [← hN]; exact (List.getElem?_eq_some_iff.1 hx).1
  have hbi : b = i := by rw [List.getElem?_range hi] at hb; cases hb; rfl
  subst hbi
  rw [List.getD_eq_getElem?_getD, List.getElem?_append_left (by omega), hx]
  obtain ⟨o, l, rfl, hl⟩ := drH_flat ds x (List.mem_of_getElem? hx)
  exact ⟨⟨id, AWs.pre (fun i hi => List.getElem?_range hi) l hl⟩, by rw [List.length_append]; omega⟩
theorem entries_at (ds : List Dr) (T : AHeap) (m : Nat) (hm : m ≤ 100) (hd : DrOk ds) (hl : ds.length ≤ 9223372036854775807) :
    Ct Tryz.prog 16 [.sl 0 0 ds.length 3 false, .int .i64 m] (drH ds ++ T) (.sl (drH ds ++ T).length 0 (dEs (ds.take m)).length 3 false) ((drH ds ++ T) ++ [.cells true (ensA (dEs (ds.take m)))]) := by
  have h := ct_frame (args := [.sl 0 0 ds.length 3 false, .int .i64 m]) (H := drH ds ++ T) (entries_ct ds m hm hd hl) (List.range (ds.length + 1)) List.nodup_range (by simp [AWs, AW]) (drH_win ds T) (by rw [List.drop_left]; rfl)
  rw [setOwn_none _ _ _ _ _ (by
    intro B hB
    obtain ⟨o, l, rfl, _⟩ := drH_flat ds B hB
    rcases List.mem_cons.1 hB with h | h
    · cases h; rfl
    · obtain ⟨d, _, h⟩ := List.mem_map.1 h
      cases h; rfl), List.drop_left] at h
  simpa [reA, reB, nameG, reAs_ens] using h
theorem entries_sound : Sound Tryz.prog 16 entriesS := by
  refine ⟨enter_of Tryz.func16 rfl (by decide), fun args H v H' W hs => ?_, fun args H v H' W hs => ?_⟩ <;> (unfold entriesS at hs; split at hs <;> cases hs)
  · rename_i h0
    have h1 := h0.choose_spec.choose_spec
    generalize h0.choose_spec.choose = m at h1 ⊢
    generalize h0.choose = ds at h1 ⊢
    obtain ⟨rfl, ⟨T, rfl⟩, hm, hd, hl⟩ := h1
    exact entries_at ds T m hm hd hl
  · exact ⟨by simp, fun b hb _ => by rw [List.getElem?_append_left hb]⟩
end Go.Proofs.YthafeihjlamhhaaGreatDoor
