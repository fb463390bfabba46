/- Contracts: cedillalaw03's reads, works, alike. -/
import Derived.Test.YtmoegdjpmcjhcaaKh
namespace Go.Proofs.Ytmoegdjpmcjhcaa
open Go
set_option maxRecDepth 100000

def Fr.readsB (s : List UInt8) (w : Int) : Bool := decide ((Fr.get s 0).1 = []) && ((Fr.get s 0).2.1 == 0) && ((Fr.get s 0).2.2 == w)

theorem reads_ct (s : List UInt8) (w : Int) (hs : s.length ≤ 1000000000000) : Ct Try.prog 26 [.str s, .int .i64 w] [] (.bool (Fr.readsB s w)) [] := by
  have hΓ := goks_cons fget_sound goks_nil
  refine ct_val hmix hΓ (n := 0) Try.func26 ?_ (by simp)
  unfold Try.f26 Fr.readsB
  obtain ⟨⟨q, y, e⟩, hq⟩ : ∃ r, Fr.get s 0 = r := ⟨_, rfl⟩
  cases q with
  | nil =>
    by_cases h2 : y = 0
    · simp [fgetS, hs, hq, h2]
    · have h2' : (y == 0) = false := by simpa using h2
      simp [fgetS, hs, hq, h2']
  | cons z q => simp [fgetS, hs, hq]

def readsS : Summ := pureS fun | [.str s, .int .i64 w] => if s.length ≤ 1000000000000 then some (.bool (Fr.readsB s w)) else none | _ => none
theorem reads_sound : Sound Try.prog 26 readsS := by
  refine sound_pure (enter_of Try.func26 rfl (by decide)) fun args v h => ?_
  split at h <;> try cases h
  rename_i s w
  split at h <;> cases h
  exact ⟨reads_ct s w ‹_›, by simp, by simp⟩

theorem Fr.put_a : Fr.put [97] = ([1, 97] ++ Cr.four (Cr.sum [1, 97]), 0) := by decide +kernel
theorem Fr.all_nil : Fr.all [] 0 = ([], 0, 0) := by decide +kernel
theorem Fr.reads1 : Fr.readsB [1, 97, 0, 0, 0, 0] 16 = true := by decide +kernel
theorem Fr.reads2 : Fr.readsB [0] 4 = true := by decide +kernel
theorem Fr.reads3 : Fr.readsB [248, 1] 5 = true := by decide +kernel
theorem Fr.reads4 : Fr.readsB [250, 0, 0] 3 = true := by decide +kernel

set_option maxHeartbeats 4000000 in
theorem works_ct : Ct Try.prog 23 [] [] (.bool true) [] := by
  have hΓ := goks_cons fput_sound (goks_cons fall_sound (goks_cons reads_sound goks_nil))
  refine ct_val hmix hΓ (n := 0) Try.func23 ?_ (by simp)
  unfold Try.f23
  simp (decide := true) [fputS, fallS, newS, readsS, Fr.put_a, Fr.all_nil, Fr.reads1, Fr.reads2, Fr.reads3, Fr.reads4, payV, payB, Cr.four]

def worksS : Summ := pureS fun | [] => some (.bool true) | _ => none
theorem works_sound : Sound Try.prog 23 worksS := by
  refine sound_pure (enter_of Try.func23 rfl (by decide)) fun args v h => ?_
  split at h <;> cases h
  exact ⟨works_ct, by simp, by simp⟩

end Go.Proofs.Ytmoegdjpmcjhcaa
