/- Contracts: strconv.Itoa. -/
import Derived.Test.YtkeffhaldeedpaaDoorLa
import Derived.Test.YtkeffhaldeedpaaDoorTypes
import Derived.Test.YtkeffhaldeedpaaDoorShelf
namespace Go.Proofs.YtkeffhaldeedpaaDoor
open Go Go.RowKit Go.Lib Go.Sort

theorem below_bytes (w : World) (e : TypeId) (t : ByteArray) : Below w.heap.size w (bytesWorld w e t) :=
  ⟨rfl, rfl, rfl, by rw [bytesWorld_size]; omega, fun c hc => bytesWorld_at_old w e t c hc⟩

/-- A number's digits. -/
def decF : Nat → Nat → List UInt8
  | 0, _ => []
  | k + 1, u => if u < 10 then [UInt8.ofNat (48 + u)] else decF k (u / 10) ++ [UInt8.ofNat (48 + u % 10)]

theorem decF_eq : ∀ (k u : Nat), u < 10 ^ k → 0 < k → decF k u = decDigits u
  | 0, _, _, h => by omega
  | k + 1, u, h, _ => by
    unfold decF
    rw [decDigits]
    by_cases hu : u < 10
    · rw [if_pos hu, dif_pos hu]
    · rw [if_neg hu, dif_neg hu]
      rcases Nat.eq_zero_or_pos k with rfl | hk
      · simp at h; omega
      · rw [decF_eq k (u / 10) (by rw [Nat.pow_succ] at h; omega) hk]

theorem pow_var {j : Inj} {H : AHeap} {w : World} (hR : R j H w) : TabIs Tryd.prog w "internal/strconv.uint64pow10" .u64 pow10Tab := by
  obtain ⟨⟨T, fz, h⟩, _⟩ := hR.glo.1.1
  have hg : w.heap[2]? = some (.cells (pow10Tab.map fun z => Value.int .u64 z).toArray T fz) := by
    unfold gview at h
    split at h
    · exact h
    · cases h
  unfold TabIs World.var?
  have : Tryd.prog.globalNamed "internal/strconv.uint64pow10" = some 2 := by kernel_rfl
  rw [this]
  dsimp only [Option.bind]
  rw [hg]

def itoaS : Summ := pureS fun
  | [.int .i64 (.ofNat m)] => if m ≤ 9223372036854775807 then some (.str (decF 20 m)) else none
  | _ => none

theorem itoa_sound : Sound Tryd.prog 23 itoaS := by
  refine sound_pure (enter_of Tryd.func23 rfl (by decide)) fun args v hv => ?_
  split at hv
  rotate_left
  · cases hv
  rename_i m
  split at hv <;> cases hv
  rename_i hm
  refine ⟨ct_of_world rfl fun j w cargs hR hargs => ?_, rfl, rfl⟩
  obtain ⟨a, cs, e, h1, h2⟩ := hargs
  simp only [VRs] at h2
  subst h2
  simp only [VR] at h1
  subst h1
  have ec : cargs = #[.int .i64 (Int.ofNat m)] := by apply Array.ext'; rw [e]
  subst ec
  refine (Tryd.strconv_Itoa (Int.ofNat m) (by have : (0 : Int) ≤ Int.ofNat m := Int.natCast_nonneg m; omega) (by have : (Int.ofNat m) = (m : Int) := rfl; omega) w (pow_var hR)).mono ?_
  rintro e w' ⟨rfl, k, os, rfl⟩
  refine ⟨_, rfl, ?_, ⟨rfl, rfl, rfl, by simp [grow, World.drewN], fun c hc => by simp [grow, World.drewN, Array.getElem?_append_left hc]⟩⟩
  have : Lib.itoa (Int.ofNat m) = decF 20 m := by
    unfold Lib.itoa
    rw [if_neg (by have : (0 : Int) ≤ Int.ofNat m := Int.natCast_nonneg m; omega), decF_eq 20 m (by omega) (by omega)]
    rfl
  rw [this]
  rfl

end Go.Proofs.YtkeffhaldeedpaaDoor
