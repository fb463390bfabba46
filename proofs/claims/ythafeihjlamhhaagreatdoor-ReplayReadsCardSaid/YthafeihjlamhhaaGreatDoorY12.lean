/- Parts of the proof of ReplayReads: lemmas, each with its own conditions. -/
import Derived.Test.YthafeihjlamhhaaGreatDoorY10
import Derived.Test.YthafeihjlamhhaaGreatDoorY11
namespace Go.Proofs.YthafeihjlamhhaaGreatDoor
open Go
set_option maxRecDepth 100000
attribute [-simp] drawOk_eq adraw qrun acode aops
theorem absOk_row_Eo {el : List Prim} {ts : List CT} {k : Nat} {xs : List AV} {H : AHeap} (h : AbsOk (.row el :: ts) k xs H) :
    ∃ x ys l n H2, xs = x :: ys ∧ H = .cells false l :: H2 ∧ (n = 0 ∧ x = .nils ∨ x = .slice k 0 n el.length false) ∧ n ≤ maxLen ∧ All2 PrimA (List.replicate n el).flatten l ∧ AbsOk ts (k + 1) ys H2 := by
  cases xs with
  | nil => exact h.elim
  | cons x ys =>
    cases H with
    | nil => exact h.elim
    | cons B H1 =>
      simp only [AbsOk] at h
      obtain ⟨⟨l, n, rfl, h3, h4, h5⟩, h6⟩ := h
      exact ⟨x, ys, l, n, H1, rfl, rfl, h3, h4, h5, h6⟩
theorem row_bytes : ∀ {n : Nat} {l : List AV}, All2 PrimA (List.replicate n [Prim.int .u8]).flatten l → ∃ ls : List Nat, l = ls.map aB ∧ ls.length = n ∧ ∀ c ∈ ls, c < 256
  | 0, [], _ => ⟨[], rfl, rfl, by simp⟩
  | n + 1, x :: l, h => by
    rw [List.replicate_succ, List.flatten_cons] at h
    obtain ⟨a, rfl, ha⟩ := h.1
    obtain ⟨ls, rfl, hl, h2⟩ := row_bytes (n := n) (l := l) h.2
    have hb := bounds_u8 ha
    refine ⟨a.toNat :: ls, by simp [aB]; omega, by simp [hl], fun c hc => ?_⟩
    rcases List.mem_cons.1 hc with rfl | hc
    · omega
    · exact h2 c hc
  | 0, _ :: _, h => h.elim
  | n + 1, [], h => by
    rw [List.replicate_succ, List.flatten_cons] at h
    exact h.elim
theorem row_drafts : ∀ (n k : Nat) (ys : List AV) (H : AHeap), AbsOk (List.replicate n [CT.row [.int .u8], .one (.int .u32), .one .bool]).flatten k ys H →
    ∃ ds : List Dr, ds.length = n ∧ DrOk ds ∧ (∀ d ∈ ds, 0 ≤ d.2.1 ∧ d.2.1 < 4294967296) ∧ H = dblks ds ∧ ∀ rn : List Nat, (∀ i, i < n → rn[k + i]? = some (k + i)) → AWs rn (dcells k ds) ys
  | 0, k, ys, H, h => by
    obtain ⟨rfl, rfl⟩ := absOk_nil h
    exact ⟨[], rfl, by simp [DrOk], by simp, rfl, fun _ _ => by simp [dcells, AWs]⟩
  | n + 1, k, ys, H, h => by
    rw [List.replicate_succ, List.flatten_cons] at h
    obtain ⟨x1, w1, l, m, H3, rfl, rfl, hx, hmx, hl, k1⟩ := absOk_row_Eo h
    obtain ⟨x2, w2, rfl, ⟨na, rfl, hna⟩, k2⟩ := absOk_one k1
    obtain ⟨x3, w3, rfl, ⟨ga, rfl⟩, k3⟩ := absOk_one k2
    obtain ⟨la, rfl, hn, ha⟩ := row_bytes hl
    subst hn
    have ba := bounds_u32 hna
    obtain ⟨ds, e1, e2, e3, e4, e5⟩ := row_drafts n (k + 1) w3 H3 k3
    refine ⟨(la, na, ga) :: ds, by simp [e1], ?_, ?_, by simp [dblks, e4], fun rn hr => ?_⟩
    · intro d hd
      rcases List.mem_cons.1 hd with rfl | hd
      · exact ⟨ha, by unfold maxLen at hmx; dsimp only; omega⟩
      · exact e2 d hd
    · intro d hd
      rcases List.mem_cons.1 hd with rfl | hd
      · dsimp only; omega
      · exact e3 d hd
    · have h0 := hr 0 (by omega)
      have hrest := e5 rn fun i hi => by
        have := hr (i + 1) (by omega)
        rwa [show k + (i + 1) = k + 1 + i by omega] at this
      simp only [dcells, AWs]
      refine ⟨?_, ?_, ?_, hrest⟩
      · rcases hx with ⟨h1, rfl⟩ | rfl
        · simp [AW, h1]
        · simpa [AW] using h0
      · simp [AW]
      · simp [AW]
end Go.Proofs.YthafeihjlamhhaaGreatDoor
namespace Go.Proofs.YthafeihjlamhhaaGreatDoor
open Go Go.Lib
set_option maxRecDepth 100000
attribute [-simp] drawOk_eq adraw qrun acode aops
theorem drafts_weakG {ds : List Dr} {ys : List AV} {T : AHeap} {F Fn : List AV}
    (hy : ∀ rn : List Nat, (∀ i, i < ds.length → rn[1 + i]? = some (1 + i)) → AWs rn (dcells 1 ds) ys) (hT : ∀ B ∈ T, ∃ o l, B = ABlk.cells o l ∧ frees l = true)
    (hF : ∀ rn : List Nat, (∀ i, i < ds.length + 1 + T.length → rn[i]? = some i) → AWs rn Fn F) :
    Weak (ABlk.cells false ys :: dblks ds ++ T).length F (ABlk.cells false ys :: dblks ds ++ T) Fn (drH ds ++ T) := by
  have hM : (ABlk.cells false ys :: dblks ds ++ T).length = ds.length + 1 + T.length := by simp [dblks]; omega
  rw [hM]
  obtain ⟨M, hm⟩ : ∃ M, ds.length + 1 + T.length = M := ⟨_, rfl⟩
  rw [hm] at hM hF ⊢
  have hrn : ∀ i, i < M → (List.range M)[i]? = some i := fun i hi => List.getElem?_range hi
  refine Weak.mk' (List.range M) List.nodup_range (by rw [List.take_of_length_le (by simp)]) (hF _ hrn) (AWg.of _ _ (by simp [drH_length]; omega) fun i B b hB hb hlt => ?_)
  have hi : i < M := by
    have := (List.getElem?_eq_some_iff.1 hB).1
    rw [List.length_append, drH_length] at this
    omega
  have hbi : b = i := by rw [List.getElem?_range hi] at hb; cases hb; rfl
  subst hbi
  cases b with
  | zero =>
    simp only [drH, List.cons_append, List.getElem?_cons_zero, Option.some.injEq] at hB
    subst hB
    exact ⟨id, hy _ fun i hi => hrn _ (by omega)⟩
  | succ b =>
    simp only [drH, List.cons_append, List.getElem?_cons_succ] at hB
    rw [List.getD_eq_getElem?_getD]
    simp only [List.cons_append, List.getElem?_cons_succ, hB, Option.getD_some]
    rcases List.mem_append.1 (List.mem_of_getElem? hB) with h | h
    · obtain ⟨d, _, rfl⟩ := List.mem_map.1 h
      exact ⟨id, AWs.refl _ _ (frees_aB _)⟩
    · obtain ⟨o, l, rfl, hl⟩ := hT _ h
      exact ⟨id, AWs.refl _ _ hl⟩
theorem drafts_arg {n : Nat} {x : AV} (hx : n = 0 ∧ x = .nils ∨ x = .slice 0 0 n 3 false) {rn : List Nat} (h0 : rn[0]? = some 0) : AW rn (.sl 0 0 n 3 false) x := by
  rcases hx with ⟨h1, rfl⟩ | rfl
  · simp [AW, h1]
  · simp only [AW, true_and]
    exact ⟨h0, id⟩
end Go.Proofs.YthafeihjlamhhaaGreatDoor
