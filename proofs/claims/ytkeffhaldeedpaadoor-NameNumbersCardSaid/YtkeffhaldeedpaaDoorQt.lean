/- The law cedillalaw09.NameNumbers: the numbers as keys of a map, and what is asked of them. -/
import Derived.Test.YtkeffhaldeedpaaDoorQs
import Derived.Test.YtkeffhaldeedpaaDoorSp
namespace Go.Proofs.YtkeffhaldeedpaaDoor
open Go Go.Lib
set_option maxRecDepth 100000
attribute [-simp] drawOk_eq adraw qrun acode aops

abbrev nnR (z : List Int) : ABlk := .cells true (intsA (cpt z))

set_option maxHeartbeats 16000000 in
theorem nn_map (a b : List Int) (o : List UInt8) (q : Nat) (zn zm za n m al : List Int) (hn : compact zn = n) (hm : compact zm = m) (ha : compact za = al) (hnl : n.length ≤ 1000000) (hml : m.length ≤ 1000000) (hal : al.length ≤ 1000000)
    (hasc : ascI al) (hall : ∀ u, HasInv u (n ++ m) → al.length = u.length ∧ ∀ z ∈ al, z ∈ u) :
    Sim Tryd.prog none 2 (restC 5 nnC)
      (nnHd a.length b.length o q ++ [.top, .top, .top, .top, .sl 2 0 n.length 1 false, .sl 3 0 m.length 1 false, .sl 4 0 al.length 1 false] ++ List.replicate 112 .top)
      [.cells false (u32sA a), .cells false (u32sA b), nnR zn, nnR zm, nnR za]
      fun e F' H' => e = .normal ∧ Weak 2 F' H' (nnHd a.length b.length o q ++ List.replicate 119 .top) [.cells false (u32sA a), .cells false (u32sA b)] := by
  have hΓ := nnΓ_ok
  have fa := frees_u32s a
  have fb := frees_u32s b
  have fi := frees_ints
  simp only [nnC, bodyOf, Tryd.f5, Option.getD_some, restC, fstC, inC, nnHd]
  refine Sim.step hmix hΓ (n := 0) (by simp; exact ⟨rfl, rfl⟩) (by simp) ?_
  refine Sim.seq (Sim.mono (Q := fun e F' H' => e = .normal ∧ ∃ u, HasInv u n ∧ Weak 2 F' H' (nnHd a.length b.length o q ++ [.top, .top, .top, .top, .sl 2 0 n.length 1 false, .sl 3 0 m.length 1 false, .sl 4 0 al.length 1 false, .map 5] ++ List.replicate 111 .top) [.cells false (u32sA a), .cells false (u32sA b), nnR zn, nnR zm, nnR za, .map (hasA u)]) ?_ ?_)
  · refine Sim.step hmix hΓ (n := 0) (by simp; exact ⟨rfl, rfl⟩) (by simp) ?_
    refine Sim.block (Sim.loopW (fun r : Nat × List Int => r.1 ≤ n.length ∧ HasInv r.2 (n.take r.1))
      (fun r => nnHd a.length b.length o q ++ [.top, .top, .top, .top, .sl 2 0 n.length 1 false, .sl 3 0 m.length 1 false, .sl 4 0 al.length 1 false, .map 5, .int .i64 r.1] ++ List.replicate 110 .top)
      (fun r => [.cells false (u32sA a), .cells false (u32sA b), nnR zn, nnR zm, nnR za, .map (hasA r.2)]) (fun r => n.length - r.1) (0, []) (by simp) ⟨by simp, HasInv.nil⟩ (Weak.mk' [0, 1, 2, 3, 4, 5] (by decide) (by decide) (by simp) (by simp [fa, fb, fi, hasA])) fun r hr => ?_)
    obtain ⟨i, u⟩ := r
    obtain ⟨hi, hI⟩ := hr
    dsimp only at hi hI ⊢
    simp only [nnHd, nnR]
    by_cases hlt : i < n.length
    · have hlti : (i : Int) < n.length := by omega
      obtain ⟨x, hx1⟩ : ∃ x, n[i] = x := ⟨_, rfl⟩
      have hx' : n[i]? = some x := by rw [List.getElem?_eq_getElem hlt, hx1]
      obtain ⟨g1, g2⟩ := cpt_get hn hx'
      have hf := find_has x u 0
      have hw : IntKind.i64.wrap ((i : Int) + 1) = i + 1 := wr_i64 (by omega) (by omega)
      have hnext : n.take (i + 1) = n.take i ++ [x] := by rw [List.take_add_one, hx']; rfl
      refine Sim.step hmix hΓ (n := 0) (by simp [hlti]; exact ⟨rfl, rfl⟩) (by simp) ?_
      refine Sim.seq (Sim.block ?_)
      by_cases hxu : x ∈ u
      · have hse := hasA_set hxu
        rw [if_pos hxu, Nat.zero_add] at hf
        have hadd : addI u x = u := if_pos hxu
        refine Sim.exec hmix hΓ (n := 0) (by simp [hlt, g1, g2, hf, hse]; exact ⟨rfl, rfl, rfl⟩) (by simp) ?_
        dsimp only
        refine Sim.exec hmix hΓ (n := 0) (by simp [hw]; exact ⟨rfl, rfl, rfl⟩) (by simp) ?_
        dsimp only
        exact ⟨(i + 1, u), ⟨by dsimp only; omega, by dsimp only; rw [hnext, ← hadd]; exact hI.add x⟩, Weak.mk' [0, 1, 2, 3, 4, 5] (by decide) (by decide) (by simp) (by simp [fa, fb, fi]), by dsimp only; omega⟩
      · have hse := hasA_snoc u x
        rw [if_neg hxu] at hf
        have hadd : addI u x = u ++ [x] := if_neg hxu
        refine Sim.exec hmix hΓ (n := 0) (by simp [hlt, g1, g2, hf, hse]; exact ⟨rfl, rfl, rfl⟩) (by simp) ?_
        dsimp only
        refine Sim.exec hmix hΓ (n := 0) (by simp [hw]; exact ⟨rfl, rfl, rfl⟩) (by simp) ?_
        dsimp only
        exact ⟨(i + 1, u ++ [x]), ⟨by dsimp only; omega, by dsimp only; rw [hnext, ← hadd]; exact hI.add x⟩, Weak.mk' [0, 1, 2, 3, 4, 5] (by decide) (by decide) (by simp) (by simp [fa, fb, fi]), by dsimp only; omega⟩
    · have hlti : ¬ (i : Int) < n.length := by omega
      refine Sim.exec hmix hΓ (n := 0) (by simp [hlti]; exact ⟨rfl, rfl, rfl⟩) (by simp) ?_
      dsimp only
      rw [if_pos rfl]
      rw [List.take_of_length_le (by omega)] at hI
      exact ⟨by trivial, u, hI, Weak.mk' [0, 1, 2, 3, 4, 5] (by decide) (by decide) (by simp) (by simp [fa, fb, fi])⟩
  rintro e F' H' hlen ⟨rfl, u0, hI0, hwk⟩
  dsimp only
  refine Sim.weak hwk hlen ?_
  clear hwk hlen
  simp only [nnHd, nnR]
  refine Sim.seq (Sim.mono (Q := fun e F' H' => e = .normal ∧ ∃ u, HasInv u (n ++ m) ∧ Weak 2 F' H' (nnHd a.length b.length o q ++ [.top, .top, .top, .top, .sl 2 0 n.length 1 false, .sl 3 0 m.length 1 false, .sl 4 0 al.length 1 false, .map 5] ++ List.replicate 111 .top) [.cells false (u32sA a), .cells false (u32sA b), nnR zn, nnR zm, nnR za, .map (hasA u)]) ?_ ?_)
  · refine Sim.step hmix hΓ (n := 0) (by simp; exact ⟨rfl, rfl⟩) (by simp) ?_
    refine Sim.block (Sim.loopW (fun r : Nat × List Int => r.1 ≤ m.length ∧ HasInv r.2 (n ++ m.take r.1))
      (fun r => nnHd a.length b.length o q ++ [.top, .top, .top, .top, .sl 2 0 n.length 1 false, .sl 3 0 m.length 1 false, .sl 4 0 al.length 1 false, .map 5, .top, .int .i64 r.1] ++ List.replicate 109 .top)
      (fun r => [.cells false (u32sA a), .cells false (u32sA b), nnR zn, nnR zm, nnR za, .map (hasA r.2)]) (fun r => m.length - r.1) (0, u0) (by simp) ⟨by simp, by simpa using hI0⟩ (Weak.mk' [0, 1, 2, 3, 4, 5] (by decide) (by decide) (by simp) (by simp [fa, fb, fi])) fun r hr => ?_)
    obtain ⟨i, u⟩ := r
    obtain ⟨hi, hI⟩ := hr
    dsimp only at hi hI ⊢
    simp only [nnHd, nnR]
    by_cases hlt : i < m.length
    · have hlti : (i : Int) < m.length := by omega
      obtain ⟨x, hx1⟩ : ∃ x, m[i] = x := ⟨_, rfl⟩
      have hx' : m[i]? = some x := by rw [List.getElem?_eq_getElem hlt, hx1]
      obtain ⟨g1, g2⟩ := cpt_get hm hx'
      have hf := find_has x u 0
      have hw : IntKind.i64.wrap ((i : Int) + 1) = i + 1 := wr_i64 (by omega) (by omega)
      have hnext : n ++ m.take (i + 1) = n ++ m.take i ++ [x] := by rw [List.take_add_one, hx', List.append_assoc]; rfl
      refine Sim.step hmix hΓ (n := 0) (by simp [hlti]; exact ⟨rfl, rfl⟩) (by simp) ?_
      refine Sim.seq (Sim.block ?_)
      by_cases hxu : x ∈ u
      · have hse := hasA_set hxu
        rw [if_pos hxu, Nat.zero_add] at hf
        have hadd : addI u x = u := if_pos hxu
        refine Sim.exec hmix hΓ (n := 0) (by simp [hlt, g1, g2, hf, hse]; exact ⟨rfl, rfl, rfl⟩) (by simp) ?_
        dsimp only
        refine Sim.exec hmix hΓ (n := 0) (by simp [hw]; exact ⟨rfl, rfl, rfl⟩) (by simp) ?_
        dsimp only
        exact ⟨(i + 1, u), ⟨by dsimp only; omega, by dsimp only; rw [hnext, ← hadd]; exact hI.add x⟩, Weak.mk' [0, 1, 2, 3, 4, 5] (by decide) (by decide) (by simp) (by simp [fa, fb, fi]), by dsimp only; omega⟩
      · have hse := hasA_snoc u x
        rw [if_neg hxu] at hf
        have hadd : addI u x = u ++ [x] := if_neg hxu
        refine Sim.exec hmix hΓ (n := 0) (by simp [hlt, g1, g2, hf, hse]; exact ⟨rfl, rfl, rfl⟩) (by simp) ?_
        dsimp only
        refine Sim.exec hmix hΓ (n := 0) (by simp [hw]; exact ⟨rfl, rfl, rfl⟩) (by simp) ?_
        dsimp only
        exact ⟨(i + 1, u ++ [x]), ⟨by dsimp only; omega, by dsimp only; rw [hnext, ← hadd]; exact hI.add x⟩, Weak.mk' [0, 1, 2, 3, 4, 5] (by decide) (by decide) (by simp) (by simp [fa, fb, fi]), by dsimp only; omega⟩
    · have hlti : ¬ (i : Int) < m.length := by omega
      refine Sim.exec hmix hΓ (n := 0) (by simp [hlti]; exact ⟨rfl, rfl, rfl⟩) (by simp) ?_
      dsimp only
      rw [if_pos rfl]
      rw [List.take_of_length_le (by omega)] at hI
      exact ⟨by trivial, u, hI, Weak.mk' [0, 1, 2, 3, 4, 5] (by decide) (by decide) (by simp) (by simp [fa, fb, fi])⟩
  rintro e F' H' hlen ⟨rfl, u, hI, hwk⟩
  dsimp only
  refine Sim.weak hwk hlen ?_
  clear hwk hlen
  simp only [nnHd, nnR]
  obtain ⟨hl, hmem⟩ := hall u hI
  refine Sim.step hmix hΓ (n := 0) (by simp [hl]; exact ⟨rfl, rfl⟩) (by simp) ?_
  refine Sim.step hmix hΓ (n := 0) (by simp; exact ⟨rfl, rfl⟩) (by simp) ?_
  refine Sim.block (Sim.loopW (fun i : Nat => i ≤ al.length)
    (fun i => nnHd a.length b.length o q ++ [.top, .top, .top, .top, .top, .top, .sl 4 0 al.length 1 false, .map 5, .top, .top, .int .i64 i] ++ List.replicate 108 .top)
    (fun _ => [.cells false (u32sA a), .cells false (u32sA b), nnR zn, nnR zm, nnR za, .map (hasA u)]) (fun i => al.length - i) 0 (by simp) (by simp) (Weak.mk' [0, 1, 2, 3, 4, 5] (by decide) (by decide) (by simp [hl]) (by simp [fa, fb, fi])) fun i hi => ?_)
  simp only [nnHd, nnR]
  by_cases hlt : i < al.length
  · have hlti : (i : Int) < al.length := by omega
    obtain ⟨x, hx1⟩ : ∃ x, al[i] = x := ⟨_, rfl⟩
    have hx' : al[i]? = some x := by rw [List.getElem?_eq_getElem hlt, hx1]
    obtain ⟨g1, g2⟩ := cpt_get ha hx'
    have hf := find_has x u 0
    have hxu := hmem x (List.mem_of_getElem? hx')
    rw [if_pos hxu, Nat.zero_add] at hf
    have hw : IntKind.i64.wrap ((i : Int) + 1) = i + 1 := wr_i64 (by omega) (by omega)
    refine Sim.step hmix hΓ (n := 0) (by simp [hlti]; exact ⟨rfl, rfl⟩) (by simp) ?_
    refine Sim.seq (Sim.block ?_)
    by_cases h0 : i = 0
    · subst h0
      refine Sim.exec hmix hΓ (n := 0) (by simp (decide := true) [hlt, g1, g2, hf]; exact ⟨rfl, rfl, rfl⟩) (by simp) ?_
      dsimp only
      refine Sim.exec hmix hΓ (n := 0) (by simp; exact ⟨rfl, rfl, rfl⟩) (by simp) ?_
      dsimp only
      exact ⟨1, by omega, Weak.mk' [0, 1, 2, 3, 4, 5] (by decide) (by decide) (by simp) (by simp [fa, fb, fi]), by omega⟩
    · obtain ⟨k, rfl⟩ : ∃ k, i = k + 1 := ⟨i - 1, by omega⟩
      obtain ⟨y, hy1⟩ : ∃ y, al[k]'(by omega) = y := ⟨_, rfl⟩
      have hy' : al[k]? = some y := by rw [List.getElem?_eq_getElem (by omega), hy1]
      obtain ⟨g3, g4⟩ := cpt_get ha hy'
      have hyx := asc_step hasc hy' hx'
      have hnle : ¬ x ≤ y := by omega
      have hkl : k < al.length := by omega
      have hk0 : (0 : Int) < (k : Int) + 1 := by omega
      have hw3 : IntKind.i64.wrap ((k : Int) + 1 + 1) = k + 2 := by rw [wr_i64 (by omega) (by omega)]; omega
      have hkp : (0 : Int) ≤ (k : Int) + 1 := by omega
      have hkq : (k : Int) + 1 < al.length := by omega
      have hkt : ((k : Int) + 1).toNat = k + 1 := by omega
      have hw1 : IntKind.i64.wrap ((k : Int) + 1 - 1) = k := by rw [wr_i64 (by omega) (by omega)]; omega
      have hw2 : IntKind.i64.wrap (k : Int) = k := wr_i64 (by omega) (by omega)
      refine Sim.exec hmix hΓ (n := 0) (by simp (decide := true) [hkl, g1, g2, g3, g4, hf, hnle, hk0, hkp, hkq, hkt, hw2]; exact ⟨rfl, rfl, rfl⟩) (by simp) ?_
      dsimp only
      refine Sim.exec hmix hΓ (n := 0) (by simp [hw3]; exact ⟨rfl, rfl, rfl⟩) (by simp) ?_
      dsimp only
      exact ⟨k + 2, by omega, Weak.mk' [0, 1, 2, 3, 4, 5] (by decide) (by decide) (by simp) (by simp [fa, fb, fi]), by omega⟩
  · have hlti : ¬ (i : Int) < al.length := by omega
    refine Sim.exec hmix hΓ (n := 0) (by simp [hlti]; exact ⟨rfl, rfl, rfl⟩) (by simp) ?_
    dsimp only
    rw [if_pos rfl]
    exact ⟨by trivial, Weak.mk' [0, 1] (by decide) (by decide) (by simp) (by simp [fa, fb])⟩

end Go.Proofs.YtkeffhaldeedpaaDoor
