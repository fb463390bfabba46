/- Parts of the proof of PublishAtomic: lemmas, each with its own conditions. -/
import Derived.Test.YthafeihjlamhhaaGreatDoorY26
import Derived.Test.YthafeihjlamhhaaGreatDoorY27
import Derived.Test.YthafeihjlamhhaaGreatDoorY28
set_option maxHeartbeats 64000000
open List renaming replicate → qbZ, mem_cons → qwZ, flatten_cons → rcZ, replicate_succ → rvZ
namespace Go.Proofs.YthafeihjlamhhaaGreatDoor
set_option maxRecDepth 100000
section
open Go Go.Lib
theorem row_u16s : ∀ {n : Nat} {l : List AV}, All2 PrimA (qbZ n [Prim.int .u16]).flatten l → ∃ zs : List Int, l = numA zs ∧ zs.length = n ∧ ∀ z ∈ zs, 0 ≤ z ∧ z ≤ 65535
 | 0, [], _ => ⟨[], rfl, rfl, by simp⟩
 | n + 1, x :: l, h => by
   rw [rvZ, rcZ] at h; obtain ⟨a, rfl, ha⟩ := h.1; obtain ⟨zs, rfl, hl, hq⟩ := row_u16s (n := n) (l := l) h.2; have ba := bounds_u16 ha
   refine ⟨a :: zs, rfl, by simp [hl], fun x hx => ?_⟩
   rcases qwZ.1 hx with rfl | hx
   · exact ⟨ba.1, by omega⟩
   · exact hq x hx
 | 0, _ :: _, h => h.elim
 | n + 1, [], h => by
   rw [rvZ, rcZ] at h; exact h.elim
end
section
open Go Go.Lib
attribute [-simp] drawOk_eq adraw qrun acode aops
abbrev pd_ct : List CT := [.one (.int .u8), .one (.int .u8), .row [.int .u8], .one .bool, .one (.int .u8), .one (.int .u8), .row [.int .u8], .one .bool]
theorem row_pd {ys : List AV} {H : AHeap} (h : AbsOk pd_ct 0 ys H) : ∃ (v0 f0 v1 f1 : Int) (o0 o1 : Bool) (l0 l1 : List Nat) (x0 x1 : AV), (0 ≤ v0 ∧ v0 ≤ 255) ∧ (0 ≤ f0 ∧ f0 ≤ 255) ∧ (0 ≤ v1 ∧ v1 ≤ 255) ∧ (0 ≤ f1 ∧ f1 ≤ 255) ∧ (∀ c ∈ l0, c < 256) ∧ (∀ c ∈ l1, c < 256) ∧
   l0.length ≤ 9223372036854775807 ∧ l1.length ≤ 9223372036854775807 ∧ (l0.length = 0 ∧ x0 = .nils ∨ x0 = .slice 0 0 l0.length 1 false) ∧ (l1.length = 0 ∧ x1 = .nils ∨ x1 = .slice 1 0 l1.length 1 false) ∧
   ys = [.int .u8 v0, .int .u8 f0, x0, .bool o0, .int .u8 v1, .int .u8 f1, x1, .bool o1] ∧ H = [.cells false (l0.map aB), .cells false (l1.map aB)] := by
 obtain ⟨x1, y1, rfl, ⟨v0, rfl, hv0⟩, k1⟩ := absOk_one h; obtain ⟨x2, y2, rfl, ⟨f0, rfl, hf0⟩, k2⟩ := absOk_one k1; obtain ⟨x3, y3, r0, n0, H0, rfl, rfl, hx0, hm0, hr0, k3⟩ := absOk_row_Eo k2; obtain ⟨x4, y4, rfl, ⟨o0, rfl⟩, k4⟩ := absOk_one k3; obtain ⟨x5, y5, rfl, ⟨v1, rfl, hv1⟩, k5⟩ := absOk_one k4; obtain ⟨x6, y6, rfl, ⟨f1, rfl, hf1⟩, k6⟩ := absOk_one k5; obtain ⟨x7, y7, r1, n1, H1, rfl, rfl, hx1, hm1, hr1, k7⟩ := absOk_row_Eo k6; obtain ⟨x8, y8, rfl, ⟨o1, rfl⟩, k8⟩ := absOk_one k7; obtain ⟨rfl, rfl⟩ := absOk_nil k8; obtain ⟨l0, rfl, rfl, hl0⟩ := row_bytes hr0; obtain ⟨l1, rfl, rfl, hl1⟩ := row_bytes hr1; have b1 := bounds_u8 hv0; have b2 := bounds_u8 hf0; have b3 := bounds_u8 hv1; have b4 := bounds_u8 hf1; unfold maxLen at hm0 hm1
 exact ⟨v0, f0, v1, f1, o0, o1, l0, l1, x3, x7, by omega, by omega, by omega, by omega, hl0, hl1, by omega, by omega, hx0, hx1, rfl, rfl⟩
theorem pd_weak {l0 l1 : List Nat} {x0 x1 : AV} (h0 : l0.length = 0 ∧ x0 = .nils ∨ x0 = .slice 0 0 l0.length 1 false) (h1 : l1.length = 0 ∧ x1 = .nils ∨ x1 = .slice 1 0 l1.length 1 false) (rn : List Nat) (r0 : rn[0]? = some 0) (r1 : rn[1]? = some 1) :
   AW rn (.sl 0 0 l0.length 1 false) x0 ∧ AW rn (.sl 1 0 l1.length 1 false) x1 := by
 constructor
 · rcases h0 with ⟨h, rfl⟩ | rfl
   · simp [AW, h]
   · simp [AW, r0]
 · rcases h1 with ⟨h, rfl⟩ | rfl
   · simp [AW, h]
   · simp [AW, r1]
end
end Go.Proofs.YthafeihjlamhhaaGreatDoor
