/- Objects: what stands behind a closing; frozen boxes. -/
import Derived.Test.YtjolihoakdifoaaCa
namespace Go.Proofs.Ytjolihoakdifoaa
open Go
set_option maxRecDepth 100000

theorem killAll_other : ∀ (ks : List Nat) (H : AHeap) (c : Nat), c ∉ ks → (killAll H ks)[c]? = H[c]?
  | [], _, _, _ => rfl
  | k :: ks, H, c, h => by
    simp only [List.mem_cons, not_or] at h
    rw [killAll, killAll_other ks _ c h.2, List.getElem?_set_ne (Ne.symm h.1)]

theorem closeH_self {H : AHeap} {ks : List Nat} {b : Nat} {o : Bool} {sub : AHeap} (hb : b < H.length) : (closeH H b ks o sub).getD b .dead = .obj o sub := by
  unfold closeH
  rw [List.getD_eq_getElem?_getD, List.getElem?_set_self (by rw [killAll_length]; exact hb)]
  rfl

theorem closeH_other {H : AHeap} {ks : List Nat} {b c : Nat} {o : Bool} {sub : AHeap} (hcb : c ≠ b) (hc : c ∉ ks) : (closeH H b ks o sub).getD c .dead = H.getD c .dead := by
  unfold closeH
  simp only [List.getD_eq_getElem?_getD]
  rw [List.getElem?_set_ne (Ne.symm hcb), killAll_other _ _ _ hc]

@[simp] theorem closeH_length (H : AHeap) (b : Nat) (ks : List Nat) (o : Bool) (sub : AHeap) : (closeH H b ks o sub).length = H.length := by simp [closeH, killAll_length]

/-- Behind a closing: the object at its name, and what stood elsewhere. -/
theorem AWg_closed {H : AHeap} {ks : List Nat} {b : Nat} {o : Bool} {sub : AHeap} {rn : List Nat} (hb : b < H.length) : ∀ (Hn : AHeap) (cs : List Nat), Hn.length = cs.length →
    (∀ (i c : Nat) (x : ABlk), cs[i]? = some c → Hn[i]? = some x → c = b ∧ x = .obj o sub ∨ (c ≠ b ∧ c ∉ ks) ∧ AWb rn x (H.getD c .dead)) → AWg rn (closeH H b ks o sub) Hn cs
  | [], cs, h, _ => by
    have : cs = [] := List.eq_nil_of_length_eq_zero (by simpa using h.symm)
    subst this; trivial
  | x :: Hn, [], h, _ => by simp at h
  | x :: Hn, c :: cs, h, hall => by
    refine ⟨?_, AWg_closed hb Hn cs (by simpa using h) fun i c x h1 h2 => hall (i + 1) c x (by simpa using h1) (by simpa using h2)⟩
    split
    · rcases hall 0 c x rfl rfl with ⟨rfl, rfl⟩ | ⟨⟨h1, h3⟩, h2⟩
      · rw [closeH_self hb]; exact ⟨rfl, rfl⟩
      · rw [closeH_other h1 h3]; exact h2
    · trivial

/-- A box is frozen. -/
theorem Aft.freeze {n0 : Nat} {F : List AV} {H : AHeap} {K : List AV → AHeap → Prop} (q : Nat) (y : AV) (hq : H[q]? = some (.cells true [y])) (hy : ∀ rn, AW rn y y) (hn : n0 ≤ H.length)
    (h : Aft n0 F (H.set q (.obj false [.cells true [y]])) K) : Aft n0 F H K := by
  refine Aft.close (b := q) (rs := [q]) (ks := []) (sub := [.cells true [y]]) (o := false) rfl (by simp) (List.getElem?_eq_some_iff.1 hq).1 (fun c x hc hne _ _ => absurd (by simpa using hc) hne) ⟨?_, trivial⟩ ⟨_, rfl, rfl⟩ (fun i z h _ => ?_) hn h
  · split
    · rw [List.getD_eq_getElem?_getD, hq]
      exact ⟨fun h => h, hy _, trivial⟩
    · trivial
  · match i, h with
    | 0, h => cases h; rfl

end Go.Proofs.Ytjolihoakdifoaa
