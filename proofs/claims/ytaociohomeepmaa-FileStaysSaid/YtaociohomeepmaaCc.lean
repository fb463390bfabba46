/- A slice of no elements in a cell: it is nil, or it is not. -/
import Derived.Test.YtaociohomeepmaaCa
namespace Go.Proofs.Ytaociohomeepmaa
open Go

theorem Step.recell {n : Nat} {j : Inj} {H : AHeap} {w : World} (hR : R j H w) {b : Nat} {own : Bool} {l l' : List AV} (hb : H[b]? = some (.cells own l)) (hn : n ≤ H.length) (hc : ∀ p, j b = some p → BRel j w (.cells own l') p) :
    Step n j H w j (H.set b (.cells own l')) w := by
  have hbl : b < H.length := (List.getElem?_eq_some_iff.1 hb).1
  have hat : ∀ c x, (H.set b (.cells own l'))[c]? = some x → c = b ∧ x = .cells own l' ∨ c ≠ b ∧ H[c]? = some x := by
    intro c x hx
    by_cases hcb : c = b
    · subst hcb
      rw [List.getElem?_set_self hbl] at hx
      exact .inl ⟨rfl, (Option.some.inj hx).symm⟩
    · rw [List.getElem?_set_ne (Ne.symm hcb)] at hx
      exact .inr ⟨hcb, hx⟩
  have kin : ∀ c x p, (H.set b (.cells own l'))[c]? = some x → x ≠ .dead → j c = some p → Kin w j H j x c p := by
    intro c x p hx hd hp
    rcases hat c x hx with ⟨rfl, rfl⟩ | ⟨hcb, hx⟩
    · exact .inr ⟨c, _, p, hb, by simp, hp, rfl, id, fun h => by cases h⟩
    · exact .inr ⟨c, x, p, hx, hd, hp, rfl, id, fun _ => ⟨rfl, rfl, rfl, rfl⟩⟩
  refine Step.make hR ⟨fun c hc => hR.dom c (by simpa using hc), fun c x p hx hp => ?_, fun c c' y x p p' hy ho hx hd hne hp hp' => ?_⟩ (fun _ _ => rfl) (by simpa using hn) (Keeps0.refl _ _ _) kin
  · rcases hat c x hx with ⟨rfl, rfl⟩ | ⟨_, hx⟩
    · exact hc p hp
    · exact hR.blk c x p hx hp
  · rcases hat c y hy with ⟨rfl, rfl⟩ | ⟨h1, gy⟩ <;> rcases hat c' x hx with ⟨rfl, rfl⟩ | ⟨h2, gx⟩
    · exact absurd rfl hne
    · exact hR.inj c c' _ x p p' hb ho gx hd hne hp hp'
    · exact hR.inj c c' y _ p p' gy ho hb (by simp) hne hp hp'
    · exact hR.inj c c' y x p p' gy ho gx hd hne hp hp'

theorem Aft.splitSl {n0 : Nat} {F : List AV} {H : AHeap} {K : List AV → AHeap → Prop} {b i : Nat} {own : Bool} {l : List AV} {c off n sz : Nat} {cl : Bool} (hb : H[b]? = some (.cells own l)) (hi : l[i]? = some (.sl c off n sz cl)) (hn : n0 ≤ H.length)
    (h1 : n = 0 → Aft n0 F (H.set b (.cells own (l.set i .nils))) K) (h2 : Aft n0 F (H.set b (.cells own (l.set i (.slice c off n sz cl)))) K) : Aft n0 F H K := by
  intro j w vs hR hF
  have hil : i < l.length := (List.getElem?_eq_some_iff.1 hi).1
  have key : ∀ x', (∀ p, j b = some p → BRel j w (.cells own (l.set i x')) p) → Aft n0 F (H.set b (.cells own (l.set i x'))) K → ∃ F2 H2 j2, K F2 H2 ∧ VRs j2 F2 vs ∧ Step n0 j H w j2 H2 w := fun x' hx h => by
    have st := Step.recell hR hb hn hx
    obtain ⟨F2, H2, j2, k1, k2, k3⟩ := h j w vs st.rel hF
    exact ⟨F2, H2, j2, k1, k2, st.trans k3 (Nat.le_refl _)⟩
  cases hj : j b with
  | none => exact key (.slice c off n sz cl) (fun p hp => by rw [hj] at hp; cases hp) h2
  | some p =>
    obtain ⟨cs, T, fz, e1, e2, e3, e4, e5⟩ := hR.blk b _ p hb hj
    obtain ⟨v, hv, hvr⟩ := e4 i _ hi
    have hset : ∀ x', VR j x' v → ∀ p', j b = some p' → BRel j w (.cells own (l.set i x')) p' := by
      intro x' hx p' hp'
      cases hj.symm.trans hp'
      refine ⟨cs, T, fz, e1, e2, by simpa using e3, fun k x hk => ?_, e5⟩
      by_cases hki : k = i
      · subst hki
        rw [List.getElem?_set_self hil] at hk
        cases hk
        exact ⟨v, hv, hx⟩
      · rw [List.getElem?_set_ne (Ne.symm hki)] at hk
        exact e4 k x hk
    rcases VR_sl hvr with ⟨k0, k⟩ | k
    · exact key .nils (hset _ k) (h1 k0)
    · exact key _ (hset _ k) h2

end Go.Proofs.Ytaociohomeepmaa
