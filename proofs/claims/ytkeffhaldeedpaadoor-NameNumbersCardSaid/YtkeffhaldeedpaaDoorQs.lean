/- The law cedillalaw09.NameNumbers: a row of names, backwards and each twice. -/
import Derived.Test.YtkeffhaldeedpaaDoorQr
namespace Go.Proofs.YtkeffhaldeedpaaDoor
open Go Go.Lib
set_option maxRecDepth 100000
attribute [-simp] drawOk_eq adraw qrun acode aops

noncomputable def nnΓ : Gam := gams [(14, trueK), (17, madeS), (12, numbersS), (11, intsS)]
theorem nnΓ_ok : GOk Tryd.prog nnΓ := goks_cons nwS0_sound (goks_cons made_sound (goks_cons numbers_sound (goks_cons ints_sound goks_nil)))

/-- What stands in the row that goes backwards, behind j rounds. -/
structure BkInv (X bk : List (List UInt8)) (j : Nat) : Prop where
  len : bk.length = 2 * j
  sub : ∀ s ∈ bk, s ∈ X
  sup : ∀ i s, X.length - j ≤ i → X[i]? = some s → s ∈ bk

theorem BkInv.zero (X : List (List UInt8)) : BkInv X [] 0 := ⟨rfl, fun s h => by simp at h, fun i s h1 h2 => by
  have := (List.getElem?_eq_some_iff.1 h2).1; omega⟩
theorem BkInv.step {X bk : List (List UInt8)} {j : Nat} (h : BkInv X bk j) {i : Nat} {s : List UInt8} (hi : X[i]? = some s) (hj : i + j + 1 = X.length) : BkInv X (bk ++ [s, s]) (j + 1) := by
  refine ⟨by rw [List.length_append, h.len]; simp; omega, fun t ht => ?_, fun k t h1 h2 => ?_⟩
  · rcases List.mem_append.1 ht with ht | ht
    · exact h.sub t ht
    · simp at ht
      subst ht
      exact List.mem_of_getElem? hi
  · by_cases hk : k = i
    · subst hk
      rw [hi] at h2
      cases h2
      simp
    · exact List.mem_append.2 (.inl (h.sup k t (by omega) h2))
theorem BkInv.all {X bk : List (List UInt8)} (h : BkInv X bk X.length) (s : List UInt8) : s ∈ bk ↔ s ∈ X :=
  ⟨h.sub s, fun hs => by
    obtain ⟨i, hi⟩ := List.getElem?_of_mem hs
    exact h.sup i s (by omega) hi⟩

abbrev nnHd (A B : Nat) (o : List UInt8) (q : Nat) : List AV := [.sl 0 0 A 1 false, .sl 1 0 B 1 false, .str o, .top, .top, .top, .bool false, .int .i64 q]

noncomputable def nnC : Code := inC (fstC (restC 1 (inC (inC (restC 1 (fstC (restC 2 (bodyOf Tryd.f5))))))))

set_option maxHeartbeats 16000000 in
/-- The loop that goes backwards. -/
theorem nn_back (a b : List Int) (o : List UInt8) (q : Nat) (X Y : List (List UInt8)) (hX1 : 1 ≤ X.length) (hX : X.length ≤ 100) :
    Sim Tryd.prog none 2 (fstC (restC 2 nnC))
      (nnHd a.length b.length o q ++ [.sl 2 0 X.length 1 false, .sl 3 0 Y.length 1 false, .nils] ++ List.replicate 116 .top)
      [.cells false (u32sA a), .cells false (u32sA b), .cells true (X.map .str), .cells true (Y.map .str)]
      fun e F' H' => e = .normal ∧ ∃ bk, BkInv X bk X.length ∧ Weak 2 F' H' (nnHd a.length b.length o q ++ [.sl 2 0 X.length 1 false, .sl 3 0 Y.length 1 false, .sl 4 0 bk.length 1 false] ++ List.replicate 116 .top) [.cells false (u32sA a), .cells false (u32sA b), .cells true (X.map .str), .cells true (Y.map .str), .cells true (bk.map .str)] := by
  have hΓ := nnΓ_ok
  have fa := frees_u32s a
  have fb := frees_u32s b
  simp only [nnC, bodyOf, Tryd.f5, Option.getD_some, restC, fstC, inC, nnHd]
  have wX : IntKind.i64.wrap ((X.length : Int) - 1) = (X.length : Int) - 1 := wr_i64 (by omega) (by omega)
  refine Sim.step hmix hΓ (n := 0) (by simp [wX]; exact ⟨rfl, rfl⟩) (by simp) ?_
  refine Sim.block (Sim.loopW (fun q : Nat × List (List UInt8) => q.1 ≤ X.length ∧ BkInv X q.2 q.1)
    (fun r => nnHd a.length b.length o q ++ [.sl 2 0 X.length 1 false, .sl 3 0 Y.length 1 false, .sl 4 0 r.2.length 1 false, .int .i64 ((X.length : Int) - 1 - r.1)] ++ List.replicate 115 .top)
    (fun r => [.cells false (u32sA a), .cells false (u32sA b), .cells true (X.map .str), .cells true (Y.map .str), .cells true (r.2.map .str)]) (fun r => X.length - r.1) (0, []) (by simp) ⟨by simp, BkInv.zero X⟩ (Weak.mk' [0, 1, 2, 3, 100] (by decide) (by decide) (by simp) (by simp [fa, fb])) fun r hr => ?_)
  obtain ⟨j, bk⟩ := r
  obtain ⟨hj, hI⟩ := hr
  dsimp only at hj hI ⊢
  have hbl := hI.len
  simp only [nnHd]
  obtain ⟨i, hi⟩ : ∃ i : Int, (X.length : Int) - 1 - j = i := ⟨_, rfl⟩
  rw [hi]
  by_cases hlt : j < X.length
  · obtain ⟨k, rfl⟩ : ∃ k : Nat, i = k := ⟨i.toNat, by omega⟩
    have hk : k < X.length := by omega
    obtain ⟨s, hs1⟩ : ∃ s, X[k] = s := ⟨_, rfl⟩
    have hs' : X[k]? = some s := by rw [List.getElem?_eq_getElem hk, hs1]
    have hg : ∀ h, X[k]'h = s := fun h => hs1
    have hw : IntKind.i64.wrap ((k : Int) - 1) = (k : Int) - 1 := wr_i64 (by omega) (by omega)
    have b1 : (bk.length + 2) * 16 ≤ 140737488355328 := by omega
    have b2 : bk.length + 2 ≤ 9223372036854775807 := by omega
    have htk : List.take bk.length (bk.map AV.str) = bk.map AV.str := List.take_of_length_le (by simp)
    refine Sim.step hmix hΓ (n := 0) (by simp; exact ⟨rfl, rfl⟩) (by simp) ?_
    refine Sim.seq (Sim.block (Sim.draw hmix (by simp) ?_))
    refine SimR.many hΓ 10 (by simp [stageOps]; rfl) (by omega) (by kernel_rfl) (by simp (decide := true) [hk, hg]; first | exact ⟨rfl, rfl⟩ | exact ⟨by kernel_rfl, rfl, rfl⟩) ?_
    refine SimR.one hΓ _ rfl (by kernel_rfl) (by simp (decide := true) [b1, b2, htk]; exact ⟨rfl, rfl⟩) ?_
    refine SimR.many hΓ 12 (by simp [stageOps, blankOp]; rfl) (by omega) (by kernel_rfl) (by simp (decide := true); first | exact ⟨rfl, rfl⟩ | exact ⟨by kernel_rfl, rfl, rfl⟩) ?_
    refine SimR.done rfl ?_
    dsimp only
    refine Sim.exec hmix hΓ (n := 0) (by simp [hw]; exact ⟨rfl, rfl, rfl⟩) (by simp) ?_
    dsimp only
    have he : (X.length : Int) - 1 - ((j + 1 : Nat) : Int) = (k : Int) - 1 := by omega
    exact ⟨(j + 1, bk ++ [s, s]), ⟨by dsimp only; omega, hI.step hs' (by omega)⟩, Weak.mk' [0, 1, 2, 3, 6] (by decide) (by decide) (by dsimp only; rw [he]; simp) (by simp [fa, fb]), by dsimp only; omega⟩
  · have hi1 : i = -1 := by omega
    subst hi1
    refine Sim.exec hmix hΓ (n := 0) (by simp; exact ⟨rfl, rfl, rfl⟩) (by simp) ?_
    dsimp only
    rw [if_pos rfl]
    have hjX : j = X.length := by omega
    subst hjX
    exact ⟨by trivial, bk, hI, Weak.mk' [0, 1, 2, 3, 4] (by decide) (by decide) (by simp) (by simp [fa, fb])⟩

end Go.Proofs.YtkeffhaldeedpaaDoor
