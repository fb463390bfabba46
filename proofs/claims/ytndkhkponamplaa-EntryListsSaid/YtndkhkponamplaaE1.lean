/- Functions of a row of drafts, wherever the row lies: Entries and List as summaries. -/
import Derived.Test.YtndkhkponamplaaEf
import Derived.Test.YtndkhkponamplaaEn
namespace Go.Proofs.Ytndkhkponamplaa
open Go
set_option maxRecDepth 100000
attribute [-simp] drawOk_eq adraw qrun acode aops

def drK (b : Nat) (ds : List Dr) : AHeap := .cells false (dcells (b + 1) ds) :: dblks ds
theorem drK_length (b : Nat) (ds : List Dr) : (drK b ds).length = ds.length + 1 := by simp [drK, dblks]
theorem drK_zero (ds : List Dr) : drK 0 ds = drH ds := rfl
theorem drK_flat (b : Nat) (ds : List Dr) : ∀ x ∈ drK b ds, ∃ o l, x = ABlk.cells o l ∧ belows (b + ds.length + 1) l = true := by
  intro x hx
  rcases List.mem_cons.1 hx with rfl | hx
  · exact ⟨_, _, rfl, belows_dcells ds (b + 1) _ (by omega)⟩
  · obtain ⟨d, _, rfl⟩ := List.mem_map.1 hx
    exact ⟨_, _, rfl, belows_free _ _ (frees_aB _)⟩

def DrAt2 (args : List AV) (H : AHeap) (ds : List Dr) (m b : Nat) : Prop :=
  args = [.sl b 0 ds.length 3 false, .int .i64 m] ∧ (∃ T0 T, T0.length = b ∧ H = T0 ++ (drK b ds ++ T)) ∧ m ≤ 100 ∧ DrOk ds ∧ ds.length ≤ 9223372036854775807

theorem DrAt2.uniq {args : List AV} {H : AHeap} {ds ds' : List Dr} {m m' b b' : Nat} (h : DrAt2 args H ds m b) (h' : DrAt2 args H ds' m' b') : ds = ds' ∧ m = m' := by
  obtain ⟨h1, ⟨T0, T, h2, h3⟩, _⟩ := h
  obtain ⟨g1, ⟨S0, S, g2, g3⟩, _⟩ := h'
  rw [h1] at g1
  simp only [List.cons.injEq, AV.sl.injEq, AV.int.injEq, and_true, true_and] at g1
  obtain ⟨⟨rfl, hl⟩, hm⟩ := g1
  rw [h3] at g3
  obtain ⟨_, k1⟩ := List.append_inj g3 (by omega)
  obtain ⟨k2, _⟩ := List.append_inj k1 (by rw [drK_length, drK_length, hl])
  simp only [drK, List.cons.injEq, ABlk.cells.injEq, true_and] at k2
  exact ⟨dcells_inj ds ds' _ hl k2.1 k2.2, by omega⟩

open Classical in
noncomputable def drS (g : List Dr → Nat → List En) : Summ := fun args H =>
  if h : ∃ ds m b, DrAt2 args H ds m b then some (.sl H.length 0 (g h.choose h.choose_spec.choose).length 3 false, H ++ [.cells true (ensA (g h.choose h.choose_spec.choose))], []) else none

theorem drS_at {g : List Dr → Nat → List En} {args : List AV} {H : AHeap} {ds : List Dr} {m b : Nat} (h : DrAt2 args H ds m b) :
    drS g args H = some (.sl H.length 0 (g ds m).length 3 false, H ++ [.cells true (ensA (g ds m))], []) := by
  have h0 : ∃ ds m b, DrAt2 args H ds m b := ⟨ds, m, b, h⟩
  obtain ⟨e1, e2⟩ := h0.choose_spec.choose_spec.choose_spec.uniq h
  unfold drS
  rw [dif_pos h0, e2, e1]

theorem dcells_ren (rn : List Nat) : ∀ (ds : List Dr) (k c : Nat), (∀ i, i < ds.length → rn[k + i]? = some (c + i)) → AWs rn (dcells k ds) (dcells c ds)
  | [], _, _, _ => by simp [dcells, AWs]
  | d :: ds, k, c, h => by
    have h0 := h 0 (by simp)
    have hr := dcells_ren rn ds (k + 1) (c + 1) fun i hi => by
      have := h (i + 1) (by simpa using hi)
      rwa [show k + (i + 1) = k + 1 + i by omega, show c + (i + 1) = c + 1 + i by omega] at this
    simp only [dcells, AWs]
    refine ⟨?_, by simp [AW], by simp [AW], hr⟩
    simpa [AW] using h0

theorem drK_win (ds : List Dr) (b : Nat) (T0 T : AHeap) (hb : T0.length = b) : AWh ((List.range (ds.length + 1)).map (b + ·)) (T0 ++ (drK b ds ++ T)) (drH ds) ((List.range (ds.length + 1)).map (b + ·)) := by
  have hN := drH_length ds
  have hem : ∀ i, i < ds.length + 1 → ((List.range (ds.length + 1)).map (b + ·))[i]? = some (b + i) := fun i hi => by
    rw [List.getElem?_map, List.getElem?_range hi]; rfl
  refine AWh.of _ _ (by simp [hN]) fun i x c hx hc => ?_
  have hi : i < ds.length + 1 := by rw [← hN]; exact (List.getElem?_eq_some_iff.1 hx).1
  have hci : c = b + i := by rw [hem i hi] at hc; cases hc; rfl
  subst hci
  refine ⟨?_, by rw [List.length_append, List.length_append, drK_length]; omega⟩
  rw [List.getD_eq_getElem?_getD, List.getElem?_append_right (by omega), List.getElem?_append_left (by rw [drK_length]; omega), show b + i - T0.length = i by omega]
  cases i with
  | zero =>
    simp only [drH, List.getElem?_cons_zero, Option.some.injEq] at hx
    subst hx
    simp only [drK, List.getElem?_cons_zero, Option.getD_some]
    exact ⟨id, dcells_ren _ ds 1 (b + 1) fun i hi => by rw [hem (1 + i) (by omega)]; congr 1; omega⟩
  | succ i =>
    simp only [drH, List.getElem?_cons_succ] at hx
    simp only [drK, List.getElem?_cons_succ, hx, Option.getD_some]
    obtain ⟨d, _, rfl⟩ := List.mem_map.1 (List.mem_of_getElem? hx)
    exact ⟨id, AWs.refl _ _ (frees_aB _)⟩

theorem nodup_shift (n b : Nat) : ((List.range n).map (b + ·)).Nodup := by
  rw [List.nodup_iff_pairwise_ne, List.pairwise_map]
  exact (List.nodup_iff_pairwise_ne.1 List.nodup_range).imp fun h e => h (by omega)

theorem dr_at {P : Program} {f : FuncId} {g : List En} {ds : List Dr} {m b : Nat} {T0 T : AHeap} (hb : T0.length = b)
    (h : Ct P f [.sl 0 0 ds.length 3 false, .int .i64 m] (drH ds) (.sl (ds.length + 1) 0 g.length 3 false) (drH ds ++ [.cells true (ensA g)])) :
    Ct P f [.sl b 0 ds.length 3 false, .int .i64 m] (T0 ++ (drK b ds ++ T)) (.sl (T0 ++ (drK b ds ++ T)).length 0 g.length 3 false) ((T0 ++ (drK b ds ++ T)) ++ [.cells true (ensA g)]) := by
  have h := ct_frame (args := [.sl b 0 ds.length 3 false, .int .i64 m]) (H := T0 ++ (drK b ds ++ T)) h ((List.range (ds.length + 1)).map (b + ·)) (nodup_shift _ _) (by
    have : ((List.range (ds.length + 1)).map (b + ·))[0]? = some b := by rw [List.getElem?_map, List.getElem?_range (by omega)]; rfl
    simp only [AWs, AW, and_true, true_and]
    exact ⟨this, id⟩) (drK_win ds b T0 T hb) (by rw [List.drop_left]; rfl)
  rw [setOwn_none _ _ _ _ _ (by
    intro B hB
    rcases List.mem_cons.1 hB with h | h
    · cases h; rfl
    · obtain ⟨d, _, h⟩ := List.mem_map.1 h
      cases h; rfl), List.drop_left] at h
  simpa [reA, reB, nameG, reAs_ens, drH_length] using h

theorem drS_sound {P : Program} {f : FuncId} (hent : ∀ cargs w, (callFunc f cargs).run P w = .ok (.enter f cargs) w) (g : List Dr → Nat → List En)
    (hc : ∀ (ds : List Dr) (m : Nat), m ≤ 100 → DrOk ds → ds.length ≤ 9223372036854775807 → Ct P f [.sl 0 0 ds.length 3 false, .int .i64 m] (drH ds) (.sl (ds.length + 1) 0 (g ds m).length 3 false) (drH ds ++ [.cells true (ensA (g ds m))])) : Sound P f (drS g) := by
  refine ⟨hent, fun args H v H' W hs => ?_, fun args H v H' W hs => ?_⟩ <;> (unfold drS at hs; split at hs <;> cases hs)
  · rename_i h0
    have h1 := h0.choose_spec.choose_spec.choose_spec
    generalize h0.choose_spec.choose_spec.choose = b at h1
    generalize h0.choose_spec.choose = m at h1 ⊢
    generalize h0.choose = ds at h1 ⊢
    obtain ⟨rfl, ⟨T0, T, hb, rfl⟩, hm, hd, hl⟩ := h1
    exact dr_at hb (hc ds m hm hd hl)
  · exact ⟨by simp, fun b hb _ => by rw [List.getElem?_append_left hb]⟩

def entsOf (ds : List Dr) (m : Nat) : List En := dEs (ds.take m)
theorem entries2_sound : Sound Try.prog 20 (drS entsOf) := drS_sound (enter_of Try.func20 rfl (by decide)) _ fun ds m hm hd hl => entries_ct ds m hm hd hl

def listOf (ds : List Dr) (m : Nat) : List En := withE [] (dEs (ds.take m))

noncomputable def liΓ : Gam := gams [(20, drS entsOf), (27, withS)]
theorem liΓ_ok : GOk Try.prog liΓ := goks_cons entries2_sound (goks_cons rwith_sound goks_nil)

theorem dEs_length (ds : List Dr) (m : Nat) : (dEs (ds.take m)).length ≤ m := by simp [dEs]; omega

set_option maxHeartbeats 4000000 in
theorem list_ct (ds : List Dr) (m : Nat) (hm : m ≤ 100) (hd : DrOk ds) (hl : ds.length ≤ 9223372036854775807) :
    Ct Try.prog 19 [.sl 0 0 ds.length 3 false, .int .i64 m] (drH ds) (.sl (ds.length + 1) 0 (listOf ds m).length 3 false) (drH ds ++ [.cells true (ensA (listOf ds m))]) := by
  obtain ⟨N, hN⟩ : ∃ N, ds.length + 1 = N := ⟨_, rfl⟩
  have hXl := drH_length ds
  have hXf := drH_flat ds
  rw [hN] at hXl hXf
  have hent := drS_at (g := entsOf) (args := [.sl 0 0 ds.length 3 false, .int .i64 m]) (H := drH ds) (ds := ds) (m := m) (b := 0) ⟨rfl, ⟨[], [], rfl, by simp [drK_zero]⟩, hm, hd, hl⟩
  refine ct_of_sim Try.func19 rfl ?_
  simp only [Try.ntmps19, List.length_cons, List.length_nil, Nat.reduceAdd, Nat.reduceSub, List.replicate, List.cons_append, List.nil_append]
  have hel : (entsOf ds m).length ≤ m := dEs_length ds m
  rw [show listOf ds m = withE [] (entsOf ds m) from rfl]
  obtain ⟨es, hes⟩ : ∃ es, entsOf ds m = es := ⟨_, rfl⟩
  obtain ⟨X, hX⟩ : ∃ X, drH ds = X := ⟨_, rfl⟩
  rw [hes] at hel hent ⊢
  rw [hX] at hXl hXf hent ⊢
  rw [hN]
  obtain ⟨own, hown⟩ : ∃ own, withE [] es = own := ⟨_, rfl⟩
  have h1 : rowEns (X ++ [.cells true (ensA es)]) (.sl N 0 es.length 3 false) = some es := by
    refine rowEns_row2 es _ (o := true) ?_
    rw [List.getElem?_append_right (by omega), hXl]
    simp
  have hw : withS [.nils, .sl N 0 es.length 3 false] (X ++ [.cells true (ensA es)]) = some (.sl (N + 1) 0 own.length 3 false, X ++ [.cells true (ensA es), .cells true (ensA own)], []) := by
    have he1 : es.length ≤ 100000 := by omega
    simp [withS, readNewS, rowEns, ascB, shA, shB, hXl, he1, shAs_ens, hown]
  rw [hown, hXl]
  refine Sim.step hmix liΓ_ok (n := 0) (by simp; exact ⟨rfl, rfl⟩) (by omega) ?_
  refine Sim.exec hmix liΓ_ok (n := 0) (by simp [liΓ, hent, hXl, hw]; exact ⟨rfl, rfl, rfl⟩) (by omega) ?_
  have hrN : ∀ h, (List.range N ++ [N + 1])[N]'h = N + 1 := fun h => by rw [List.getElem_append_right (by simp)]; simp
  exact ⟨.inr rfl, _, by simp; rfl, Weak.tail hXl hXf [1] (by decide) (by simp [AWs, AW, hrN]) (by simp [AWg, AWb, hXl])⟩

theorem list_sound : Sound Try.prog 19 (drS listOf) := drS_sound (enter_of Try.func19 rfl (by decide)) _ list_ct

end Go.Proofs.Ytndkhkponamplaa
