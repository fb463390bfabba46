/- Heaps of a law whose first argument is a row of drafts, told as drH. -/
import Derived.Test.YtndkhkponamplaaEp
namespace Go.Proofs.Ytndkhkponamplaa
open Go
set_option maxRecDepth 100000
attribute [-simp] drawOk_eq adraw qrun acode aops

theorem drafts_weak {ds : List Dr} {ys : List AV} {x : AV} {T : AHeap} {rest restN : List AV} (hx : ds.length = 0 ∧ x = .nils ∨ x = .slice 0 0 ds.length 3 false)
    (hy : ∀ rn : List Nat, (∀ i, i < ds.length → rn[1 + i]? = some (1 + i)) → AWs rn (dcells 1 ds) ys) (hT : ∀ B ∈ T, ∃ o l, B = ABlk.cells o l ∧ frees l = true)
    (hr : ∀ rn : List Nat, (∀ i, i < ds.length + 1 + T.length → rn[i]? = some i) → AWs rn restN rest) :
    Weak (ABlk.cells false ys :: dblks ds ++ T).length (x :: rest) (ABlk.cells false ys :: dblks ds ++ T) (.sl 0 0 ds.length 3 false :: restN) (drH ds ++ T) := by
  have hM : (ABlk.cells false ys :: dblks ds ++ T).length = ds.length + 1 + T.length := by simp [dblks]; omega
  rw [hM]
  obtain ⟨M, hm⟩ : ∃ M, ds.length + 1 + T.length = M := ⟨_, rfl⟩
  rw [hm] at hM hr ⊢
  have hrn : ∀ i, i < M → (List.range M)[i]? = some i := fun i hi => List.getElem?_range hi
  refine Weak.mk' (List.range M) List.nodup_range (by rw [List.take_of_length_le (by simp)]) ?_ (AWg.of _ _ (by simp [drH_length]; omega) fun i B b hB hb hlt => ?_)
  · refine ⟨?_, hr _ hrn⟩
    rcases hx with ⟨h1, rfl⟩ | rfl
    · simp [AW, h1]
    · simp only [AW, true_and]
      exact ⟨hrn 0 (by omega), id⟩
  · have hi : i < M := by
      have := (List.getElem?_eq_some_iff.1 hB).1
      rw [List.length_append, drH_length] at this
      omega
    have hbi : b = i := by rw [List.getElem?_range hi] at hb; cases hb; rfl
    subst hbi
    cases b with
    | zero =>
      simp only [drH, List.cons_append, List.getElem?_cons_zero, Option.some.injEq] at hB
      subst hB
      exact ⟨id, hy _ fun i hi => hrn _ (by omega)⟩
    | succ b =>
      simp only [drH, List.cons_append, List.getElem?_cons_succ] at hB
      rw [List.getD_eq_getElem?_getD]
      simp only [List.cons_append, List.getElem?_cons_succ, hB, Option.getD_some]
      rcases List.mem_append.1 (List.mem_of_getElem? hB) with h | h
      · obtain ⟨d, _, rfl⟩ := List.mem_map.1 h
        exact ⟨id, AWs.refl _ _ (frees_aB _)⟩
      · obtain ⟨o, l, rfl, hl⟩ := hT _ h
        exact ⟨id, AWs.refl _ _ hl⟩

abbrev dr_ct : List CT := [.row [.int .u8], .one (.int .u32), .one .bool]
def entryWith_shape : List AS := [.rows dr_ct, .flat true dr_ct, .flat true dr_ct]

theorem entryWith_open
    (hc : ∀ (ds : List Dr) (la lb : List Nat) (na nb : Int) (ga gb : Bool), DrOk ds → ds.length ≤ 9223372036854775807 → (∀ d ∈ ds, 0 ≤ d.2.1 ∧ d.2.1 < 4294967296) →
      (∀ c ∈ la, c < 256) → (∀ c ∈ lb, c < 256) → la.length ≤ 9223372036854775807 → lb.length ≤ 9223372036854775807 → 0 ≤ na ∧ na < 4294967296 → 0 ≤ nb ∧ nb < 4294967296 →
      ∃ H', Ct Try.prog 6 [.sl 0 0 ds.length 3 false, .agg [.sl (ds.length + 1) 0 la.length 1 false, .int .u32 na, .bool ga], .agg [.sl (ds.length + 2) 0 lb.length 1 false, .int .u32 nb, .bool gb]] (drH ds ++ [.cells false (la.map aB), .cells false (lb.map aB)]) (.bool true) H') :
    ∀ xs H, AbsArgs2 entryWith_shape 0 xs H → ∃ H', Ct Try.prog 6 xs H (.bool true) H' := by
  intro xs H h0
  obtain ⟨x0, y0, n0, ys, H1, H2, rfl, hx0, hm0, hd0, rfl, h1⟩ := absArgs2_rows h0
  obtain ⟨ds, rfl, e2, e3, rfl, e5⟩ := row_drafts _ _ _ _ hd0
  obtain ⟨z1, y1, H1, H2, rfl, k0, rfl, h1b⟩ := absArgs2_agg h1
  obtain ⟨x1, w1, l, n, H3, rfl, rfl, hx, hmx, hl, k1⟩ := absOk_row k0
  obtain ⟨x2, w2, rfl, ⟨na, rfl, hna⟩, k2⟩ := absOk_one k1
  obtain ⟨x3, w3, rfl, ⟨ga, rfl⟩, k3⟩ := absOk_one k2
  obtain ⟨rfl, rfl⟩ := absOk_nil k3
  obtain ⟨la, rfl, hn, ha⟩ := row_bytes hl
  obtain ⟨z2, y2, H4, H5, rfl, j0, rfl, h2⟩ := absArgs2_agg h1b
  obtain ⟨u1, v1, m, o, H6, rfl, rfl, hy, hmy, hm, j1⟩ := absOk_row j0
  obtain ⟨u2, v2, rfl, ⟨nb, rfl, hnb⟩, j2⟩ := absOk_one j1
  obtain ⟨u3, v3, rfl, ⟨gb, rfl⟩, j3⟩ := absOk_one j2
  obtain ⟨rfl, rfl⟩ := absOk_nil j3
  obtain ⟨lb, rfl, ho, hb⟩ := row_bytes hm
  obtain ⟨rfl, rfl⟩ := absArgs2_nil h2
  subst hn; subst ho
  have ba := bounds_u32 hna
  have bb := bounds_u32 hnb
  unfold maxLen at hm0 hmx hmy
  have hdl : (dblks ds).length = ds.length := by simp [dblks]
  obtain ⟨H', h⟩ := hc ds la lb na nb ga gb e2 (by omega) e3 ha hb (by omega) (by omega) (by omega) (by omega)
  refine ⟨H', ct_weak ?_ h⟩
  refine drafts_weak hx0 e5 ?_ fun rn hr => ?_
  · intro B hB
    simp only [List.cons_append, List.nil_append, List.mem_cons, List.not_mem_nil, or_false] at hB
    rcases hB with rfl | rfl
    · exact ⟨_, _, rfl, frees_aB _⟩
    · exact ⟨_, _, rfl, frees_aB _⟩
  · have r1 := hr (ds.length + 1) (by simp)
    have r2 := hr (ds.length + 2) (by simp)
    rw [hdl, show 0 + 1 + ds.length = ds.length + 1 by omega] at hx hy
    rw [show ds.length + 1 + [ABlk.cells false (List.map aB la)].length = ds.length + 2 from rfl] at hy
    rw [show [Prim.int IntKind.u8].length = 1 from rfl] at hx hy
    rcases hx with ⟨q1, rfl⟩ | rfl <;> rcases hy with ⟨q2, rfl⟩ | rfl <;> simp [AWs, AW, *]

end Go.Proofs.Ytndkhkponamplaa
