/- The law cedillalaw07.FolderNumbers: the walk. -/
import Derived.Test.YtjiilgpagpfdnaaHp
namespace Go.Proofs.Ytjiilgpagpfdnaa
open Go Go.Lib
set_option maxRecDepth 100000
attribute [-simp] drawOk_eq adraw qrun acode aops

noncomputable def fuΓ : Gam := gams [(6, trueK), (7, fnew0S), (16, nameS), (17, fcreS), (15, ffindS), (14, fsurvS), (13, fnamesS), (8, doesFS)]
theorem fuΓ_ok : GOk Try.prog fuΓ := goks_cons hw_sound (goks_cons fnew0_sound (goks_cons name_sound (goks_cons fcre_sound (goks_cons ffind_sound (goks_cons fsurv_sound (goks_cons fnames_sound (goks_cons doesF_sound goks_nil)))))))

/-- Numbers, as keys of a map. -/
def seenA (u : List Int) : List (AV × AV) := u.map fun y => (.int .i64 y, .int .i64 1)
@[simp] theorem seenA_length (u : List Int) : (seenA u).length = u.length := by simp [seenA]
theorem find_seen (x : Int) : ∀ (u : List Int) (i : Nat), x ∉ u → findA (seenA u) (.int .i64 x) i = some none
  | [], i, _ => by simp [seenA, findA]
  | y :: u, i, h => by
    simp only [List.mem_cons, not_or] at h
    have ih := find_seen x u (i + 1) h.2
    simp only [seenA] at ih
    have h2 : (x == y) = false := by simpa using h.1
    simp only [seenA, List.map_cons, findA, primEq, if_true, h2, ih]
theorem seenA_snoc (u : List Int) (x : Int) : seenA u ++ [(.int .i64 x, .int .i64 1)] = seenA (u ++ [x]) := by simp [seenA]
@[simp] theorem frees_seen1 : ∀ u : List Int, frees ((seenA u).map fun x => x.fst) = true
  | [] => rfl
  | y :: u => by have := frees_seen1 u; simpa [seenA] using this
@[simp] theorem frees_seen2 : ∀ u : List Int, frees ((seenA u).map fun x => x.snd) = true
  | [] => rfl
  | y :: u => by have := frees_seen2 u; simpa [seenA] using this

/-- The names of a folder whose numbers are as they must be. -/
theorem names_law {f : FD} (h : f.numOk) {i : Nat} {s : List UInt8} (hs : f.names[i]? = some s) : ∃ v, f.find s = (v, true) ∧ 1 ≤ v ∧ v ≤ f.last ∧
    (∀ t, t ∈ f.names.take i → (f.find t).1 ≠ v) ∧ (∀ p, i ≠ 0 → f.names[i - 1]? = some p → Op.bytesLess p s = true) := by
  have hn := FD.each_now h.2
  have hnd : f.names.Nodup := (sortU_perm _).nodup_iff.2 hn.nd
  have hmem : s ∈ NM.keys f.now := (sortU_perm _).mem_iff.1 (List.mem_of_getElem? hs)
  obtain ⟨v, hv⟩ := NM.get_some.2 hmem
  have hf : f.find s = (v, true) := by unfold FD.find; rw [hv]
  obtain ⟨r1, r2⟩ := hn.rng s v hv
  obtain ⟨hi, hse⟩ := List.getElem?_eq_some_iff.1 hs
  have hne : ∀ (j : Nat) (t : List UInt8), j < i → f.names[j]? = some t → t ≠ s := by
    intro j t hj ht
    obtain ⟨hj2, hte⟩ := List.getElem?_eq_some_iff.1 ht
    have := (List.pairwise_iff_getElem.1 hnd) j i hj2 hi hj
    rw [hte, hse] at this
    exact this
  refine ⟨v, hf, r1, r2, fun t ht e => ?_, fun p h0 hp => ?_⟩
  · obtain ⟨j, hj⟩ := List.getElem?_of_mem ht
    have hji : j < i := by have := (List.getElem?_eq_some_iff.1 hj).1; rw [List.length_take] at this; omega
    rw [List.getElem?_take_of_lt hji] at hj
    have htm : t ∈ NM.keys f.now := (sortU_perm _).mem_iff.1 (List.mem_of_getElem? hj)
    obtain ⟨u, hu⟩ := NM.get_some.2 htm
    have e2 : (f.find t).1 = u := by unfold FD.find; rw [hu]
    rw [e2] at e
    subst e
    exact hne j t hji hj (hn.inj t s u hu hv)
  · have hpne := hne (i - 1) p (by omega) hp
    obtain ⟨hp2, hpe⟩ := List.getElem?_eq_some_iff.1 hp
    have hso := (List.pairwise_iff_getElem.1 (sortU_sorted (NM.keys f.now))) (i - 1) i hp2 hi (by omega)
    have e1 : (sortU (NM.keys f.now))[i - 1] = p := hpe
    have e2 : (sortU (NM.keys f.now))[i] = s := hse
    rw [e1, e2] at hso
    have hle : p ≤ s := of_decide_eq_true hso
    rw [Go.Proofs.bytesLess_eq]
    have : p < s := Std.lt_of_le_of_ne hle hpne
    simpa using this

end Go.Proofs.Ytjiilgpagpfdnaa
