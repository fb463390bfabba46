/- Plain laws of files: bounds, kept by what is done. -/
import Derived.Test.YtjolihoakdifoaaFt
namespace Go.Proofs.Ytjolihoakdifoaa
open Go

theorem PF.ok_mono {f : PF} {B C : Nat} (h : f.ok B) (hc : B ≤ C) : f.ok C := ⟨h.fits, by have := h.acts; omega, fun i => by have := h.len i; omega⟩

theorem PF.ok_new (s : List UInt8) (B : Nat) (h : s.length ≤ B) : (⟨s, []⟩ : PF).ok B := ⟨trivial, by simp, fun i => by simpa [runs] using h⟩

theorem PF.ok_now {f : PF} {B : Nat} (h : f.ok B) : f.now.length ≤ B := by
  have := h.len f.acts.length
  rwa [List.take_length] at this

theorem PF.ok_did {f : PF} {B C : Nat} (h : f.ok B) (a : FAct) (hf : match a with | .add _ => True | .cut n => n ≤ f.now.length) (hl : (a.run f.now).length ≤ C) (hc : B + 1 ≤ C) : (f.did a).ok C := by
  refine ⟨(fits_append _ _ _).2 ⟨h.fits, hf, trivial⟩, by have := h.acts; simp [PF.did]; omega, fun i => ?_⟩
  simp only [PF.did]
  rcases Nat.lt_or_ge f.acts.length i with h1 | h1
  · rw [List.take_of_length_le (by simp; omega), runs_append]
    exact hl
  · rw [List.take_append_of_le_length h1]
    have := h.len i
    omega

theorem PF.ok_add {f : PF} {B k : Nat} (h : f.ok B) (m : List UInt8) (hm : m.length ≤ k) (hk : 1 ≤ k) : (f.add m).ok (B + k) := by
  unfold PF.add
  split
  · exact PF.ok_mono h (by omega)
  · refine PF.ok_did h (.add m) trivial ?_ (by omega)
    have := PF.ok_now h
    simp [FAct.run]; omega

theorem PF.ok_cut {f : PF} {B : Nat} (h : f.ok B) (n : Int) : (f.cut n).1.ok (B + 1) := by
  unfold PF.cut
  split
  · exact PF.ok_mono h (by omega)
  split
  · refine PF.ok_did h (.cut n.toNat) (by show n.toNat ≤ _; omega) ?_ (by omega)
    have := PF.ok_now h
    simp [FAct.run]; omega
  · exact PF.ok_mono h (by omega)

theorem PF.ok_stays {f : PF} {B : Nat} (h : f.ok B) (d p : Int) : (f.stays d p).length ≤ B := by
  unfold PF.stays
  obtain ⟨n, hn⟩ : ∃ n, (inI d 0 f.acts.length).toNat = n := ⟨_, rfl⟩
  rw [hn]
  simp only
  have h1 := h.len n
  split
  · rename_i m hm
    have hnl : n < f.acts.length := (List.getElem?_eq_some_iff.1 hm).1
    have h2 := h.len (n + 1)
    rw [runs_take _ _ _ hnl] at h2
    rw [List.getElem?_eq_getElem hnl] at hm
    rw [Option.some.inj hm] at h2
    simp only [FAct.run, List.length_append] at h2
    simp only [List.length_append, List.length_take]
    omega
  · simpa using h1

end Go.Proofs.Ytjolihoakdifoaa
