/- EntryLists: its arguments. -/
import Derived.Test.YtndkhkponamplaaE1
import Derived.Test.YtndkhkponamplaaEq
namespace Go.Proofs.Ytndkhkponamplaa
open Go
set_option maxRecDepth 100000
attribute [-simp] drawOk_eq adraw qrun acode aops

theorem row_ens : ∀ {n : Nat} {l : List AV}, All2 PrimA (List.replicate n [Prim.str, Prim.int .u32, Prim.bool]).flatten l → ∃ es : List En, l = ensA es ∧ es.length = n
  | 0, [], _ => ⟨[], rfl, rfl⟩
  | n + 1, x :: l, h => by
    rw [List.replicate_succ, List.flatten_cons] at h
    obtain ⟨a, rfl, _⟩ := h.1
    have h2 := h.2
    cases l with
    | nil => exact h2.elim
    | cons y l =>
      obtain ⟨b, rfl, _⟩ := h2.1
      have h3 := h2.2
      cases l with
      | nil => exact h3.elim
      | cons z l =>
        obtain ⟨c, rfl⟩ := h3.1
        obtain ⟨ss, rfl, hl⟩ := row_ens (n := n) (l := l) h3.2
        exact ⟨(a, b, c) :: ss, rfl, by simp [hl]⟩
  | 0, _ :: _, h => h.elim
  | n + 1, [], h => by
    rw [List.replicate_succ, List.flatten_cons] at h
    exact h.elim

/-- All blocks keep their names; each says less. -/
theorem weak_id {H Hn : AHeap} {F Fn : List AV} {M : Nat} (hM : H.length = M) (hF : ∀ rn : List Nat, (∀ i, i < M → rn[i]? = some i) → AWs rn Fn F)
    (hH : ∀ rn : List Nat, (∀ i, i < M → rn[i]? = some i) → All2 (AWb rn) Hn H) : Weak M F H Fn Hn := by
  have hr : ∀ i, i < M → (List.range M)[i]? = some i := fun i hi => List.getElem?_range hi
  have h := hH _ hr
  refine Weak.mk' (List.range M) List.nodup_range (by rw [List.take_of_length_le (by simp)]) (hF _ hr) (AWg.of _ _ (by rw [h.length, hM]; simp) fun i B b hB hb hlt => ?_)
  have hi : i < M := by rw [← hM, ← h.length]; exact (List.getElem?_eq_some_iff.1 hB).1
  have hbi : b = i := by rw [hr i hi] at hb; cases hb; rfl
  subst hbi
  have hy : H[b]? = some H[b] := List.getElem?_eq_getElem hlt
  rw [List.getD_eq_getElem?_getD, hy, Option.getD_some]
  exact h.get b B _ hB hy

theorem all2_refl_flat (rn : List Nat) : ∀ (X : AHeap), (∀ B ∈ X, ∃ o l, B = ABlk.cells o l ∧ frees l = true) → All2 (AWb rn) X X
  | [], _ => trivial
  | B :: X, h => by
    obtain ⟨o, l, rfl, hl⟩ := h B (List.mem_cons_self ..)
    exact ⟨⟨id, AWs.refl _ _ hl⟩, all2_refl_flat rn X fun C hC => h C (List.mem_cons_of_mem _ hC)⟩

theorem dblks_flat (ds : List Dr) : ∀ B ∈ dblks ds, ∃ o l, B = ABlk.cells o l ∧ frees l = true := by
  intro B hB
  obtain ⟨d, _, rfl⟩ := List.mem_map.1 hB
  exact ⟨_, _, rfl, frees_aB _⟩

def entryLists_shape : List AS := [.flat false [.row [.str, .int .u32, .bool]], .rows dr_ct, .rows dr_ct]

theorem entryLists_open
    (hc : ∀ (raw : List En) (ds es : List Dr), raw.length ≤ 9223372036854775807 → DrOk ds → ds.length ≤ 9223372036854775807 → DrOk es → es.length ≤ 9223372036854775807 →
      ∃ H', Ct Try.prog 5 [.sl 0 0 raw.length 3 false, .sl 1 0 ds.length 3 false, .sl (ds.length + 2) 0 es.length 3 false] (.cells false (ensA raw) :: (drK 1 ds ++ drK (ds.length + 2) es)) (.bool true) H') :
    ∀ xs H, AbsArgs2 entryLists_shape 0 xs H → ∃ H', Ct Try.prog 5 xs H (.bool true) H' := by
  intro xs H h0
  obtain ⟨x0, y0, l0, n0, H1, rfl, rfl, hx0, hm0, hl0, h1⟩ := absArgs2_row h0
  obtain ⟨raw, rfl, rfl⟩ := row_ens hl0
  obtain ⟨x1, y1, n1, ys1, H2, H3, rfl, hx1, hm1, hd1, rfl, h2⟩ := absArgs2_rows h1
  obtain ⟨ds, rfl, e2, -, rfl, e5⟩ := row_drafts _ _ _ _ hd1
  obtain ⟨x2, y2, n2, ys2, H4, H5, rfl, hx2, hm2, hd2, rfl, h3⟩ := absArgs2_rows h2
  obtain ⟨es, rfl, g2, -, rfl, g5⟩ := row_drafts _ _ _ _ hd2
  obtain ⟨rfl, rfl⟩ := absArgs2_nil h3
  unfold maxLen at hm0 hm1 hm2
  have hdl : (dblks ds).length = ds.length := by simp [dblks]
  have hel : (dblks es).length = es.length := by simp [dblks]
  rw [hdl, show 0 + 1 + 1 + ds.length = ds.length + 2 by omega] at hx2
  rw [hdl, show 0 + 1 + 1 + ds.length + 1 = ds.length + 2 + 1 by omega] at g5
  obtain ⟨H', h⟩ := hc raw ds es (by omega) e2 (by omega) g2 (by omega)
  refine ⟨H', ct_weak ?_ h⟩
  have hM : (ABlk.cells false (ensA raw) :: (ABlk.cells false ys1 :: dblks ds ++ (ABlk.cells false ys2 :: dblks es ++ []))).length = ds.length + es.length + 3 := by simp [hdl, hel]; omega
  rw [hM]
  refine weak_id hM (fun rn hr => ?_) fun rn hr => ?_
  · have r0 := hr 0 (by omega)
    have r1 := hr 1 (by omega)
    have r2 := hr (ds.length + 2) (by omega)
    simp only [AWs, and_true]
    refine ⟨?_, ?_, ?_⟩
    · rcases hx0 with ⟨q, rfl⟩ | rfl
      · simp [AW, q]
      · simpa [AW] using r0
    · rcases hx1 with ⟨q, rfl⟩ | rfl
      · simp [AW, q]
      · simpa [AW] using r1
    · rcases hx2 with ⟨q, rfl⟩ | rfl
      · simp [AW, q]
      · simpa [AW] using r2
  · refine ⟨⟨id, AWs.refl _ _ (frees_ens _)⟩, ?_⟩
    rw [List.append_nil]
    refine All2.append ⟨⟨id, e5 rn fun i hi => hr _ (by omega)⟩, all2_refl_flat rn _ (dblks_flat ds)⟩ ⟨⟨id, g5 rn fun i hi => hr _ (by omega)⟩, all2_refl_flat rn _ (dblks_flat es)⟩

end Go.Proofs.Ytndkhkponamplaa
