/- Contract of a file's Copy. -/
import Derived.Test.YtaociohomeepmaaCc
import Derived.Test.YtaociohomeepmaaFq
namespace Go.Proofs.Ytaociohomeepmaa
open Go
set_option maxRecDepth 100000
attribute [-simp] drawOk_eq adraw qrun acode aops

theorem rowF_cell : ∀ (l : List FAct) (k : Nat) (x : AV), x ∈ rowF k l → isCell x = true
  | a :: l, k, x, h => by
    rcases List.mem_cons.1 h with rfl | h
    · cases a <;> rfl
    · exact rowF_cell l (k + 1) x h

theorem closeH_get {H : AHeap} {ks : List Nat} {b c : Nat} {o : Bool} {sub : AHeap} (hcb : c ≠ b) (hc : c ∉ ks) : (closeH H b ks o sub)[c]? = H[c]? := by
  unfold closeH
  rw [List.getElem?_set_ne (Ne.symm hcb), killAll_other _ _ _ hc]

set_option maxHeartbeats 4000000 in
theorem fcopy_ct (f : PF) (hk : f.acts.length ≤ 1000000000) : Ct Try.prog 6 [.ptr 0 0] [.obj true f.blks] (.ptr 1 0) [.obj true f.blks, .obj true f.blks] := by
  have hΓ := fiΓ_ok
  refine ct_of_sim Try.func6 rfl ?_
  simp only [Try.ntmps6, List.length_cons, List.length_nil, Nat.reduceAdd, Nat.reduceSub, List.replicate, List.cons_append, List.nil_append]
  refine Sim.aft (Aft.open (b := 0) rfl (by simp) (Aft.done (by simp [openH]) ?_))
  rw [open_file]
  obtain ⟨d, acts⟩ := f
  obtain ⟨s, es⟩ : ∃ s, PF.now ⟨d, acts⟩ = s := ⟨_, rfl⟩
  rw [es]
  dsimp only at hk ⊢
  simp only [List.length_nil, Nat.zero_add, List.nil_append]
  refine Sim.aft (Aft.splitSl (b := 0) (i := 1) rfl rfl (by simp) (fun h0 => ?_) ?_)
  · have ha : acts = [] := List.eq_nil_of_length_eq_zero h0
    subst ha
    refine Aft.done (by simp) ?_
    simp only [List.set_cons_zero, List.set_cons_succ, rowF, List.map_nil]
    refine Sim.after (Sim.exec hmix hΓ (n := 0) (by simp (decide := true) [fiInl, Try.f20]; exact ⟨rfl, rfl, rfl⟩) (by simp) ?_)
    refine Aft.closeF ⟨d, []⟩ 2 100 [] (o := true) (x := .nils) (by rw [es]; rfl) (by simp [AW]) (by simp) rfl (by simp) (by decide) (by simp) ?_
    refine Aft.closeF ⟨d, []⟩ 0 1 [] (o := true) (x := .nils) (by rw [es]; rfl) (by simp [AW]) (by intro _; rfl) rfl (by simp) (by decide) (by simp) (Aft.done (by simp) ?_)
    refine ⟨.inr rfl, _, by simp [Try.f6] <;> rfl, Weak.mk' [0, 2] (by decide) (by decide) (by simp) (AWg_closed (b := 0) (by simp) _ _ rfl fun i c x h1 h2 => ?_)⟩
    match i, h1, h2 with
    | 0, h1, h2 => cases h1; cases h2; exact .inl ⟨rfl, rfl⟩
    | 1, h1, h2 => cases h1; cases h2; exact .inr ⟨⟨by decide, by decide⟩, by simp [AWb, closeH, killAll]⟩
  · refine Aft.done (by simp) ?_
    simp only [List.set_cons_zero, List.set_cons_succ]
    cases acts with
    | nil =>
      simp only [rowF, List.map_nil, List.length_nil]
      refine Sim.after (Sim.exec hmix hΓ (n := 0) (by simp (decide := true) [fiInl, Try.f20]; exact ⟨rfl, rfl, rfl⟩) (by simp) ?_)
      refine Aft.closeF ⟨d, []⟩ 2 3 [] (o := true) (x := .slice 3 0 0 1 true) (by rw [es]; rfl) (by simp [AW]) (by intro _; rfl) rfl (by simp) (by decide) (by simp) ?_
      refine Aft.closeF ⟨d, []⟩ 0 1 [] (o := true) (x := .slice 1 0 0 1 false) (by rw [es]; rfl) (by simp [AW]) (by intro _; rfl) rfl (by simp) (by decide) (by simp) (Aft.done (by simp) ?_)
      refine ⟨.inr rfl, _, by simp [Try.f6] <;> rfl, Weak.mk' [0, 2] (by decide) (by decide) (by simp) (AWg_closed (b := 0) (by simp) _ _ rfl fun i c x h1 h2 => ?_)⟩
      match i, h1, h2 with
      | 0, h1, h2 => cases h1; cases h2; exact .inl ⟨rfl, rfl⟩
      | 1, h1, h2 => cases h1; cases h2; exact .inr ⟨⟨by decide, by decide⟩, by simp [AWb, closeH, killAll]⟩
    | cons a acts =>
      obtain ⟨R, eR⟩ : ∃ R, rowF 2 (a :: acts) = R := ⟨_, rfl⟩
      obtain ⟨X, eX⟩ : ∃ X, (a :: acts).map FAct.box = X := ⟨_, rfl⟩
      obtain ⟨k, ek⟩ : ∃ k, (a :: acts).length = k := ⟨_, rfl⟩
      have hR : R.length = k := by rw [← eR, ← ek]; simp
      have hX : X.length = k := by rw [← eX, ← ek]; simp
      have k0 : 0 < k := by rw [← ek]; simp
      have kn : k ≠ 0 := by omega
      have Rn : R ≠ [] := by intro h; rw [h] at hR; simp at hR; omega
      have hRf : (∀ x : AV, x ∈ R → isCell x = true) = True := eq_true (by rw [← eR]; exact rowF_cell _ _)
      unfold isCell at hRf
      rw [eR, eX]
      rw [ek] at hk ⊢
      have b1 : k * 8 ≤ 140737488355328 := by omega
      have b2 : k ≤ 9223372036854775807 := by omega
      have tR : R.take k = R := List.take_of_length_le (by omega)
      refine Sim.after (Sim.exec hmix hΓ (n := 0) (by simp (decide := true) [fiInl, Try.f20, hR, hX, tR, b1, b2, kn, hRf]; exact ⟨rfl, rfl, rfl⟩) (by simp) ?_)
      obtain ⟨H, hH⟩ : ∃ H : AHeap, ABlk.cells true [AV.str d, AV.slice 1 0 k 1 false, AV.str s] :: ABlk.cells true R :: (X ++ [ABlk.cells true [AV.str d, AV.slice (k + 2 + 1 + 1) 0 k 1 false, AV.str s], ABlk.cells true [], ABlk.cells true R]) = H := ⟨_, rfl⟩
      rw [hH]
      have hHl : H.length = k + 5 := by rw [← hH]; simp [hX]
      have h0 : H[0]? = some (ABlk.cells true [AV.str d, AV.slice 1 0 k 1 false, AV.str s]) := by rw [← hH]; rfl
      have h1 : H[1]? = some (ABlk.cells true R) := by rw [← hH]; rfl
      have h2 : H[k + 2]? = some (ABlk.cells true [AV.str d, AV.slice (k + 4) 0 k 1 false, AV.str s]) := by
        rw [← hH]
        simp only [List.getElem?_cons_succ]
        rw [List.getElem?_append_right (by omega), hX]
        simp
      have h4 : H[k + 4]? = some (ABlk.cells true R) := by
        rw [← hH]
        simp only [List.getElem?_cons_succ]
        rw [List.getElem?_append_right (by omega), hX]
        simp
      have hB : ∀ i, i < k → H[2 + i]? = X[i]? := fun i hi => by
        rw [← hH, show 2 + i = i + 1 + 1 by omega]
        simp only [List.getElem?_cons_succ]
        rw [List.getElem?_append_left (by omega)]
      have hRN : R = rowN (List.range' 2 k) (a :: acts) := by rw [← eR, rowF_N, ek]
      have hbx : ∀ (i c : Nat) (a' : FAct), (List.range' 2 k)[i]? = some c → (a :: acts)[i]? = some a' → c < k + 2 ∧ 2 ≤ c ∧ H[c]? = some a'.box := by
        intro i c a' g1 g2
        have hik : i < k := by rw [← ek]; exact (List.getElem?_eq_some_iff.1 g2).1
        rw [List.getElem?_range' hik] at g1
        simp only [Nat.one_mul, Option.some.injEq] at g1
        subst g1
        refine ⟨by omega, by omega, ?_⟩
        rw [hB i hik, ← eX, List.getElem?_map, g2]
        rfl
      refine Aft.closeF ⟨d, a :: acts⟩ (k + 2) (k + 4) (List.range' 2 k) (o := true) (x := .slice (k + 4) 0 k 1 false) (by rw [es]; exact h2) (by simp [AW, ← ek]) (fun _ => by rw [h4, hRN]) (by simp [← ek]) (fun i c a' g1 g2 => (hbx i c a' g1 g2).2.2) ?_ (by omega) ?_
      · simp only [List.nodup_cons, List.mem_cons, List.mem_range'_1]
        exact ⟨by omega, by omega, List.nodup_range'⟩
      refine Aft.closeF ⟨d, a :: acts⟩ 0 1 (List.range' 2 k) (o := true) (x := .slice 1 0 k 1 false) ?_ (by simp [AW, ← ek]) (fun _ => ?_) (by simp [← ek]) (fun i c a' g1 g2 => ?_) ?_ (by simp; omega) (Aft.done (by simp; omega) ?_)
      · rw [closeH_get (by omega) (by simp), h0, es]
      · rw [closeH_get (by omega) (by simp), h1, hRN]
      · obtain ⟨g3, g4, g5⟩ := hbx i c a' g1 g2
        rw [closeH_get (by omega) (by simp; omega), g5]
      · simp only [List.nodup_cons, List.mem_cons, List.mem_range'_1]
        exact ⟨by omega, by omega, List.nodup_range'⟩
      refine ⟨.inr rfl, _, by simp [Try.f6] <;> rfl, Weak.mk' [0, k + 2] (by simp) (by rfl) (by simp [AWs, AW]) (AWg_closed (b := 0) (by simp; omega) _ _ rfl fun i c x h1 h2 => ?_)⟩
      match i, h1, h2 with
      | 0, h1, h2 => cases h1; cases h2; exact .inl ⟨rfl, rfl⟩
      | 1, h1, h2 =>
        cases h1; cases h2
        refine .inr ⟨⟨by omega, by simp⟩, ?_⟩
        rw [closeH_self (by omega)]
        exact ⟨rfl, rfl⟩

end Go.Proofs.Ytaociohomeepmaa
