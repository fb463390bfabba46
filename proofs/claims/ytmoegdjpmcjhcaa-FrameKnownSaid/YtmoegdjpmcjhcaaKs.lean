/- Walk: cedillalaw03.FrameKnown. -/
import Derived.Test.YtmoegdjpmcjhcaaKo
import Derived.Test.YtmoegdjpmcjhcaaShelf
namespace Go.Proofs.Ytmoegdjpmcjhcaa
open Go
set_option maxRecDepth 100000
attribute [-simp] drawOk_eq adraw qrun acode aops

def longX : List UInt8 := List.replicate 300 120
theorem longX_len : longX.length = 300 := by simp [longX]

theorem rep_ct : Ct Try.prog 34 [.str [120], .int .i64 300] [] (.str longX) [] := by
  refine ct_of_calls (cargs := #[.string ⟨#[120]⟩, .int .i64 300]) (cv := .string ⟨longX.toArray⟩) (fun j vs h => ?_) (fun j => by simp [VR]) fun w => ?_
  · simp only [VRs, VR] at h
    obtain ⟨_, _, rfl, rfl, _, _, rfl, rfl, rfl⟩ := h
    rfl
  · have h := Try.strings_Repeat ⟨#[120]⟩ 300 w (by decide) (by decide)
    have e : Lib.repeatL (ByteArray.mk #[120]).data.toList 300 = longX := by decide +kernel
    rw [e] at h
    exact h

def repS : Summ := pureS fun | [.str [120], .int .i64 300] => some (.str longX) | _ => none
theorem rep_sound : Sound Try.prog 34 repS := by
  refine sound_pure (enter_of Try.func34 rfl (by decide)) fun args v h => ?_
  split at h <;> cases h
  exact ⟨rep_ct, by simp, by simp⟩

theorem enc300 : Vy.enc 300 = [249, 44, 1] := by decide +kernel
theorem enc301 : Vy.enc 301 = [249, 45, 1] := by decide +kernel
theorem size301 : Vy.size 301 = 3 := by decide +kernel

/-- What is known of a payload of 300 bytes. -/
theorem known_all (L : List UInt8) (hL : L.length = 300) : ∃ A : List UInt8, Fr.put L = (A, 0) ∧ A.length = 307 ∧ A.take 3 = [249, 44, 1] ∧ Fr.put (L ++ [120]) = ([], 4) ∧ Fr.get (97 :: 98 :: A) 2 = (L, 309, 0) ∧ Fr.get A (-1) = ([], -1, 2) ∧
    Fr.get A 308 = ([], 308, 2) ∧ Fr.get A 307 = ([], 307, 9) ∧ Fr.readsB (249 :: 45 :: 1 :: (L ++ L)) 4 = true := by
  have ok : L.length ≠ 0 ∧ L.length ≤ 300 := by omega
  have hl := Fr.put_length L ok
  have hp := Fr.put_eq L ok
  have hsz : Vy.size L.length = 3 := by rw [hL]; decide +kernel
  obtain ⟨A, hA⟩ : ∃ A, (Fr.put L).1 = A := ⟨_, rfl⟩
  have hAl : A.length = 307 := by rw [← hA, hl, hsz, hL]
  refine ⟨A, by rw [← hA, hp], hAl, ?_, ?_, ?_, ?_, ?_, ?_, ?_⟩
  · rw [← hA, hp]
    dsimp only
    unfold Cr.seal
    rw [hL, enc300]
    rfl
  · exact Fr.put_no _ (by rw [List.length_append, hL]; decide)
  · have h := Fr.get_moved A [97, 98] 0 (by omega)
    have hm := Fr.get_mid L [] ok
    rw [List.append_nil, hA, hAl] at hm
    rw [Int.ofNat_zero, hm] at h
    exact h
  · unfold Fr.get
    rw [if_pos (.inl (by decide))]
  · unfold Fr.get
    rw [if_pos (.inr (by rw [hAl]; decide))]
  · unfold Fr.get
    rw [if_neg (by rw [hAl]; decide), if_pos (by rw [hAl]; rfl)]
  · have hv := Vy.get_mid [] (L ++ L) 301 (by decide)
    rw [enc301, size301] at hv
    have hv' : Vy.get (249 :: 45 :: 1 :: (L ++ L)) 0 = (301, 3, 0) := by simpa using hv
    have hlen : (249 :: 45 :: 1 :: (L ++ L)).length = 603 := by simp [hL]
    have hg : Fr.get (249 :: 45 :: 1 :: (L ++ L)) 0 = ([], 0, 4) := by
      unfold Fr.get
      rw [hv', hlen, if_neg (by decide), if_neg (by decide)]
      rfl
    unfold Fr.readsB
    rw [hg]
    rfl

theorem Fr.reads5 : Fr.readsB [248] 3 = true := by decide +kernel
theorem Fr.reads6 : Fr.readsB [5, 97, 98, 99] 3 = true := by decide +kernel
theorem Fr.reads7 : Fr.readsB [1, 97, 0, 0, 0] 3 = true := by decide +kernel
theorem Fr.put_nil : Fr.put [] = ([], 4) := by decide +kernel
theorem Fr.put_abc : (Fr.put [97, 98, 99]).1.length = 8 := by decide +kernel

set_option maxHeartbeats 8000000 in
theorem known_ct : ∃ H', Ct Try.prog 11 [] [] (.bool true) H' := by
  have hΓ := goks_cons rep_sound (goks_cons works_sound (goks_cons fput_sound (goks_cons fget_sound (goks_cons fsize_sound (goks_cons reads_sound goks_nil)))))
  obtain ⟨L, hLx⟩ : ∃ L, longX = L := ⟨_, rfl⟩
  have hL : L.length = 300 := by rw [← hLx]; exact longX_len
  obtain ⟨A, h1, h2, h3, h4, h5, h6, h7, h8, h9⟩ := known_all L hL
  have h10 : (Fr.put (L ++ [120])).1.length = 0 := by rw [h4]; rfl
  have a1 : ¬ A.length = 0 := by omega
  refine ⟨[], ?_⟩
  refine ct_of_sim Try.func11 rfl ?_
  simp only [Try.ntmps11, List.length_cons, List.length_nil, Nat.reduceAdd, Nat.reduceSub, List.replicate, List.cons_append, List.nil_append]
  refine Sim.step hmix hΓ (n := 0) (by simp; exact ⟨rfl, rfl⟩) (by simp) ?_
  refine Sim.step hmix hΓ (n := 0) (by simp [repS, hLx]; exact ⟨rfl, rfl⟩) (by simp) ?_
  refine Sim.step hmix hΓ (n := 0) (by simp [fputS, hL, h1]; exact ⟨rfl, rfl⟩) (by simp) ?_
  refine Sim.step hmix hΓ (n := 0) (by simp [fputS, hL, h4]; exact ⟨rfl, rfl⟩) (by simp) ?_
  refine Sim.step hmix hΓ (n := 0) (by simp [fputS, Fr.put_nil]; exact ⟨rfl, rfl⟩) (by simp) ?_
  refine Sim.step hmix hΓ (n := 0) (by simp [fgetS, h2, h5]; exact ⟨rfl, rfl⟩) (by simp) ?_
  refine Sim.step hmix hΓ (n := 0) (by simp [fgetS, h2, h6]; exact ⟨rfl, rfl⟩) (by simp) ?_
  refine Sim.step hmix hΓ (n := 0) (by simp (decide := true) [fgetS, h2, h7]; exact ⟨rfl, rfl⟩) (by simp) ?_
  refine Sim.step hmix hΓ (n := 0) (by simp [fgetS, h2, h8]; exact ⟨rfl, rfl⟩) (by simp) ?_
  refine Sim.exec hmix hΓ (n := 0) (by simp (decide := true) (maxSteps := 4000000) [worksS, readsS, fsizeS, hL, h1, h2, h3, h4, h9, h10, Fr.reads5, Fr.reads6, Fr.reads7, Fr.put_nil, Fr.put_abc]; exact ⟨rfl, rfl, rfl⟩) (by simp) ?_
  exact ⟨.inr rfl, _, by simp; rfl, Weak.mk' [] (by decide) (by decide) (by simp) (by simp)⟩

def frameKnown_shape : List (Bool × List CT) := []

theorem frameKnown_law : ∀ xs H, AbsArgs frameKnown_shape 0 xs H → ∃ H', Ct Try.prog 11 xs H (.bool true) H' := by
  intro xs H h0
  obtain ⟨rfl, rfl⟩ := absArgs_nil h0
  exact known_ct

end Go.Proofs.Ytmoegdjpmcjhcaa
