/- Rows of drafts as a law's argument. -/
import Derived.Test.YtndkhkponamplaaEf
import Derived.Test.YtndkhkponamplaaEo
namespace Go.Proofs.Ytndkhkponamplaa
open Go
set_option maxRecDepth 100000
attribute [-simp] drawOk_eq adraw qrun acode aops

theorem row_drafts : ∀ (n k : Nat) (ys : List AV) (H : AHeap), AbsOk (List.replicate n [CT.row [.int .u8], .one (.int .u32), .one .bool]).flatten k ys H →
    ∃ ds : List Dr, ds.length = n ∧ DrOk ds ∧ (∀ d ∈ ds, 0 ≤ d.2.1 ∧ d.2.1 < 4294967296) ∧ H = dblks ds ∧ ∀ rn : List Nat, (∀ i, i < n → rn[k + i]? = some (k + i)) → AWs rn (dcells k ds) ys
  | 0, k, ys, H, h => by
    obtain ⟨rfl, rfl⟩ := absOk_nil h
    exact ⟨[], rfl, by simp [DrOk], by simp, rfl, fun _ _ => by simp [dcells, AWs]⟩
  | n + 1, k, ys, H, h => by
    rw [List.replicate_succ, List.flatten_cons] at h
    obtain ⟨x1, w1, l, m, H3, rfl, rfl, hx, hmx, hl, k1⟩ := absOk_row h
    obtain ⟨x2, w2, rfl, ⟨na, rfl, hna⟩, k2⟩ := absOk_one k1
    obtain ⟨x3, w3, rfl, ⟨ga, rfl⟩, k3⟩ := absOk_one k2
    obtain ⟨la, rfl, hn, ha⟩ := row_bytes hl
    subst hn
    have ba := bounds_u32 hna
    obtain ⟨ds, e1, e2, e3, e4, e5⟩ := row_drafts n (k + 1) w3 H3 k3
    refine ⟨(la, na, ga) :: ds, by simp [e1], ?_, ?_, by simp [dblks, e4], fun rn hr => ?_⟩
    · intro d hd
      rcases List.mem_cons.1 hd with rfl | hd
      · exact ⟨ha, by unfold maxLen at hmx; dsimp only; omega⟩
      · exact e2 d hd
    · intro d hd
      rcases List.mem_cons.1 hd with rfl | hd
      · dsimp only; omega
      · exact e3 d hd
    · have h0 := hr 0 (by omega)
      have hrest := e5 rn fun i hi => by
        have := hr (i + 1) (by omega)
        rwa [show k + (i + 1) = k + 1 + i by omega] at this
      simp only [dcells, AWs]
      refine ⟨?_, ?_, ?_, hrest⟩
      · rcases hx with ⟨h1, rfl⟩ | rfl
        · simp [AW, h1]
        · simpa [AW] using h0
      · simp [AW]
      · simp [AW]

end Go.Proofs.Ytndkhkponamplaa
