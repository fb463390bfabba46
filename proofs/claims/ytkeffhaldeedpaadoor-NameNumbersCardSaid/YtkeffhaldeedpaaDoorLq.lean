/- Contract: strings.CutPrefix. -/
import Derived.Test.YtkeffhaldeedpaaDoorGe
import Derived.Test.YtkeffhaldeedpaaDoorLa
import Derived.Test.YtkeffhaldeedpaaDoorTypes
namespace Go.Proofs.YtkeffhaldeedpaaDoor
open Go
set_option maxRecDepth 100000
attribute [-simp] drawOk_eq adraw qrun acode aops

def cutS : Summ := pureS fun
  | [.str s, .str p] => if p.length ≤ 1000000000000 ∧ s.length ≤ 1000000000000 then some (if s.take p.length = p then .tuple [.str (s.drop p.length), .bool true] else .tuple [.str s, .bool false]) else none
  | _ => none

def cutInl : List FuncId := [25, 31]
theorem cutΓ_ok : GOk Tryd.prog (runG Tryd.prog (gams []) 0 cutInl 2) := gok_run hmix goks_nil 0 cutInl 2

set_option maxHeartbeats 4000000 in
theorem cut_ct (s p : List UInt8) (_hs : s.length ≤ 1000000000000) (_hp : p.length ≤ 1000000000000) :
    Ct Tryd.prog 20 [.str s, .str p] [] (if s.take p.length = p then .tuple [.str (s.drop p.length), .bool true] else .tuple [.str s, .bool false]) [] := by
  by_cases h : s.take p.length = p
  · have hl : p.length ≤ s.length := by have := congrArg List.length h; simp at this; omega
    have hd : (s.drop p.length).take (s.length - p.length) = s.drop p.length := List.take_of_length_le (by simp)
    rw [if_pos h]
    refine ct_val hmix cutΓ_ok (n := 0) Tryd.func20 ?_ (by simp)
    unfold Tryd.f20
    simp [cutInl, Tryd.f25, Tryd.f31, h, hl, hd]
  · rw [if_neg h]
    refine ct_val hmix cutΓ_ok (n := 0) Tryd.func20 ?_ (by simp)
    unfold Tryd.f20
    by_cases hl : p.length ≤ s.length
    · simp [cutInl, Tryd.f25, Tryd.f31, h, hl]
    · simp [cutInl, Tryd.f25, Tryd.f31, hl]

theorem cut_sound : Sound Tryd.prog 20 cutS := by
  refine sound_pure (enter_of Tryd.func20 rfl (by decide)) fun args v h => ?_
  split at h <;> try cases h
  rename_i s p
  split at h <;> cases h
  rename_i hc
  exact ⟨cut_ct s p hc.2 hc.1, by simp, by split <;> simp⟩

end Go.Proofs.YtkeffhaldeedpaaDoor
