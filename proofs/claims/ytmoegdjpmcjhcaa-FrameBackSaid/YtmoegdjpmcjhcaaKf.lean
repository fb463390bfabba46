/- Contracts: frame.All and the document's All. -/
import Derived.Test.YtmoegdjpmcjhcaaKe
import Derived.Test.YtmoegdjpmcjhcaaAz
namespace Go.Proofs.Ytmoegdjpmcjhcaa
open Go
set_option maxRecDepth 100000

theorem Fr.get_way (s : List UInt8) (a : Int) (h : (Fr.get s a).2.2 = 0) : 0 ≤ a ∧ a < (Fr.get s a).2.1 ∧ (Fr.get s a).2.1 ≤ s.length := by
  by_cases hne : a < 0 ∨ (s.length : Int) < a
  · exfalso
    unfold Fr.get at h
    rw [if_pos hne] at h
    cases h
  by_cases h2 : a = s.length
  · exfalso
    unfold Fr.get at h
    rw [if_neg hne, if_pos h2] at h
    cases h
  obtain ⟨⟨n, x, e⟩, hr⟩ : ∃ r, Vy.get s a = r := ⟨_, rfl⟩
  by_cases h3 : e = 0
  rotate_left
  · exfalso
    unfold Fr.get at h
    rw [if_neg hne, if_neg h2, hr] at h
    simp [h3] at h
  subst h3
  have hok := Vy.get_ok s a n x hr
  by_cases h4 : n = 0 ∨ 300 < n
  · exfalso
    unfold Fr.get at h
    rw [if_neg hne, if_neg h2, hr] at h
    simp [h4] at h
  by_cases h5 : (s.length : Int) < x + n + 4
  · exfalso
    unfold Fr.get at h
    rw [if_neg hne, if_neg h2, hr] at h
    simp [h4, h5] at h
  have e' : (Fr.get s a).2.1 = x + n + 4 := by
    unfold Fr.get at h ⊢
    rw [if_neg hne, if_neg h2, hr] at h ⊢
    simp only [h4, h5, ne_eq, not_true_eq_false, if_false] at h ⊢
    split
    · rename_i h6
      rw [if_pos h6] at h
      cases h
    · rfl
  rw [e']
  omega

/-- All frames from a place on, with so much fuel. -/
def Fr.allF (s : List UInt8) : Nat → Int → List (List UInt8) × Int × Int
  | 0, a => ([], a, 0)
  | k + 1, a => if (Fr.get s a).2.2 = 0 then ((Fr.get s a).1 :: (Fr.allF s k (Fr.get s a).2.1).1, (Fr.allF s k (Fr.get s a).2.1).2) else ([], a, if (Fr.get s a).2.2 = 9 then 0 else (Fr.get s a).2.2)

def Fr.all (s : List UInt8) (a : Int) : List (List UInt8) × Int × Int := Fr.allF s ((s.length : Int) + 1 - a).toNat a

theorem Fr.allF_fuel (s : List UInt8) : ∀ (k m : Nat) (a : Int), (s.length : Int) < a + k → (s.length : Int) < a + m → a ≤ s.length → Fr.allF s k a = Fr.allF s m a
  | 0, _, a, h, _, h3 => by omega
  | _ + 1, 0, a, _, h, h3 => by omega
  | k + 1, m + 1, a, h1, h2, h3 => by
    unfold Fr.allF
    by_cases h : (Fr.get s a).2.2 = 0
    · obtain ⟨_, w2, w3⟩ := Fr.get_way s a h
      rw [if_pos h, if_pos h, Fr.allF_fuel s k m (Fr.get s a).2.1 (by push_cast at h1; omega) (by push_cast at h2; omega) w3]
    · rw [if_neg h, if_neg h]

theorem Fr.all_ok (s : List UInt8) (a : Int) (h : (Fr.get s a).2.2 = 0) : Fr.all s a = ((Fr.get s a).1 :: (Fr.all s (Fr.get s a).2.1).1, (Fr.all s (Fr.get s a).2.1).2) := by
  obtain ⟨w1, w2, w3⟩ := Fr.get_way s a h
  obtain ⟨k, hk⟩ : ∃ k : Nat, ((s.length : Int) + 1 - a).toNat = k + 1 := ⟨((s.length : Int) - a).toNat, by omega⟩
  have e : Fr.allF s k (Fr.get s a).2.1 = Fr.all s (Fr.get s a).2.1 := by
    unfold Fr.all
    exact Fr.allF_fuel s _ _ _ (by omega) (by omega) w3
  unfold Fr.all
  rw [hk]
  conv => lhs; unfold Fr.allF
  rw [if_pos h, e]
  rfl

theorem Fr.all_end (s : List UInt8) (a : Int) (ha : a ≤ s.length) (h : (Fr.get s a).2.2 ≠ 0) : Fr.all s a = ([], a, if (Fr.get s a).2.2 = 9 then 0 else (Fr.get s a).2.2) := by
  obtain ⟨k, hk⟩ : ∃ k : Nat, ((s.length : Int) + 1 - a).toNat = k + 1 := ⟨((s.length : Int) - a).toNat, by omega⟩
  unfold Fr.all
  rw [hk]
  conv => lhs; unfold Fr.allF
  rw [if_neg h]

theorem Fr.allF_last (s : List UInt8) : ∀ (k : Nat) (a : Int), (s.length : Int) < a + k → a ≤ s.length → (Fr.allF s k a).2.2 = if (Fr.get s (Fr.allF s k a).2.1).2.2 = 9 then 0 else (Fr.get s (Fr.allF s k a).2.1).2.2
  | 0, a, h, h2 => by omega
  | k + 1, a, h, h2 => by
    unfold Fr.allF
    by_cases e : (Fr.get s a).2.2 = 0
    · obtain ⟨w1, w2, w3⟩ := Fr.get_way s a e
      rw [if_pos e]
      exact Fr.allF_last s k _ (by push_cast at h; omega) w3
    · rw [if_neg e]

theorem Fr.all_last (s : List UInt8) (l : List (List UInt8)) (x f : Int) (h : Fr.all s 0 = (l, x, f)) : f = if (Fr.get s x).2.2 = 9 then 0 else (Fr.get s x).2.2 := by
  have := Fr.allF_last s ((s.length : Int) + 1 - 0).toNat 0 (by omega) (by omega)
  unfold Fr.all at h
  rw [h] at this
  exact this

/-- A row of texts, in block b. -/
def payV (b : Nat) (l : List (List UInt8)) : AV := if l.length = 0 then .nils else .slice b 0 l.length 1 false
def payB (l : List (List UInt8)) : AHeap := if l.length = 0 then [] else [.cells true (l.map AV.str)]

set_option maxHeartbeats 4000000 in
theorem fall_ct (s : List UInt8) (hs : s.length ≤ 1000000000) : Ct Try.prog 25 [.str s] [] (.tuple [payV 0 (Fr.all s 0).1, .int .i64 (Fr.all s 0).2.1, .int .i64 (Fr.all s 0).2.2]) (payB (Fr.all s 0).1) := by
  have hΓ := gok_run hmix goks_nil 0 [43] 1
  obtain ⟨⟨l, x, f⟩, hr⟩ : ∃ r, Fr.all s 0 = r := ⟨_, rfl⟩
  rw [hr]
  dsimp only
  refine ct_of_sim Try.func25 rfl ?_
  simp only [Try.ntmps25, List.length_cons, List.length_nil, Nat.reduceAdd, Nat.reduceSub, List.replicate]
  refine Sim.step hmix hΓ (n := 0) (by simp; exact ⟨rfl, rfl⟩) (by simp) ?_
  refine Sim.seq (Sim.step hmix hΓ (n := 0) (by simp [Try.f43]; exact ⟨rfl, rfl⟩) (by simp) ?_)
  refine Sim.block ?_
  refine Sim.rangeFuncN hmix (fun rc => [.cells true [payV 6 l], .cells true [.int .i64 x], .cells true [.int .i64 (Fr.get s x).2.2], .cells true [.str s], .cells true [.ptr 2 0], rc] ++ payB l) .ready none (.tuple []) (gf := 65) (cap := [.ptr 3 0, .ptr 4 0]) (by simp) (enter_of Try.func65 rfl (by decide)) (by decide) (by simp) (by simp) (by simp) rfl (by simp) ?_ ?_
  · generalize hrc : ABlk.loop _ _ _ LoopState.ready none _ = rc
    refine ct_of_sim Try.func65 rfl ?_
    simp only [Try.ntmps65, List.length_cons, List.length_nil, List.replicate, List.cons_append, List.nil_append]
    refine Sim.step hmix goks_nil (n := 0) (by simp; exact ⟨rfl, rfl⟩) (by simp) ?_
    refine Sim.block (Sim.loopW (fun p : List (List UInt8) × Int => 0 ≤ p.2 ∧ p.2 ≤ s.length ∧ p.1.length ≤ p.2.toNat ∧ Fr.all s 0 = (p.1 ++ (Fr.all s p.2).1, (Fr.all s p.2).2))
      (fun p => [.yld 5, .ptr 3 0, .ptr 4 0, .top, .int .i64 p.2] ++ List.replicate 23 .top)
      (fun p => [.cells true [payV 6 p.1], .cells true [.int .i64 p.2], .cells true [.int .i64 0], .cells true [.str s], .cells true [.ptr 2 0], rc] ++ payB p.1) (fun p => s.length - p.2.toNat) ([], 0) (by simp) (by simp) ?_ fun p hp => ?_)
    · subst hrc
      refine Weak.mk' [0, 1, 2, 3, 4, 5] (by decide) (by decide) (by simp) (by simp [payV, payB])
    · obtain ⟨acc, a⟩ := p
      obtain ⟨h1, h2, h3, h4⟩ := hp
      dsimp only at h1 h2 h3 h4 ⊢
      subst hrc
      have hΓ2 := gok_run hmix (goks_cons fget_sound goks_nil) 0 [] 1
      have hs2 : s.length ≤ 1000000000000 := by omega
      obtain ⟨⟨q, y, e⟩, hq⟩ : ∃ r, Fr.get s a = r := ⟨_, rfl⟩
      by_cases he : e = 0
      · subst he
        have hw := Fr.get_way s a (by rw [hq])
        have ha := Fr.all_ok s a (by rw [hq])
        rw [hq] at hw ha
        dsimp only at hw ha
        cases acc with
        | nil =>
          refine Sim.exec hmix hΓ2 (n := 0) (by simp [fgetS, hs2, hq, payV, payB]; exact ⟨rfl, rfl, rfl⟩) (by simp) ?_
          exact ⟨([q], y), ⟨by omega, by omega, by simp; omega, by rw [h4, ha]; rfl⟩, Weak.mk' [0, 1, 2, 3, 4, 5, 7] (by decide) (by decide) (by simp) (by simp [payV, payB]), by simp; omega⟩
        | cons z acc =>
          have l1 : acc.length + 1 ≤ 1000000000 := by simp at h3; omega
          have c1 : (acc.length + 1 + 1) * 16 ≤ 140737488355328 := by omega
          have c2 : acc.length ≤ 9223372036854775805 := by omega
          have hfr : frees (acc.map AV.str ++ [AV.str q]) = true := frees_iff.2 fun v hv => by
            rcases List.mem_append.1 hv with h | h
            · obtain ⟨_, _, rfl⟩ := List.mem_map.1 h; rfl
            · simp at h; subst h; rfl
          refine Sim.exec hmix hΓ2 (n := 0) (by simp [fgetS, hs2, hq, payV, payB, c1, c2]; exact ⟨rfl, rfl, rfl⟩) (by simp) ?_
          exact ⟨(z :: acc ++ [q], y), ⟨by omega, by omega, by simp at h3 ⊢; omega, by rw [h4, ha]; simp⟩, Weak.mk' [0, 1, 2, 3, 4, 5, 8] (by decide) (by decide) (by simp) (by simp [payV, payB, AWs_free hfr]), by simp; omega⟩
      · have ha := Fr.all_end s a h2 (by rw [hq]; exact he)
        rw [hq] at ha
        dsimp only at ha
        have e1 : l = acc ∧ x = a ∧ (Fr.get s x).2.2 = e := by
          rw [hr, ha] at h4
          simp at h4
          obtain ⟨k1, k2, k3⟩ := h4
          exact ⟨k1, k2, by rw [k2, hq]⟩
        obtain ⟨rfl, rfl, e2⟩ := e1
        have he2 : (e == 0) = false := by simpa using he
        have he3 : (e != 0) = true := by simpa using he
        refine Sim.exec hmix hΓ2 (n := 0) (by simp [fgetS, hs2, hq, he3]; exact ⟨rfl, rfl, rfl⟩) (by simp) ?_
        refine ⟨.inr rfl, _, by simp; rfl, ?_⟩
        rw [e2]
        cases l with
        | nil => exact Weak.mk' [0, 1, 2, 3, 4, 5] (by decide) (by decide) (by simp) (by simp [payV, payB])
        | cons z l =>
          have hfr : frees (l.map AV.str) = true := frees_map _ _ fun _ => rfl
          exact Weak.mk' [0, 1, 2, 3, 4, 5, 6] (by decide) (by decide) (by simp) (by simp [payV, payB])
  · have hf := Fr.all_last s l x f hr
    obtain ⟨e9, h9⟩ : ∃ e, (Fr.get s x).2.2 = e := ⟨_, rfl⟩
    rw [h9] at hf ⊢
    by_cases he : e9 = 9
    · subst he
      simp at hf
      subst hf
      cases l with
      | nil =>
        refine Sim.step hmix goks_nil (n := 0) (by simp [payV, payB]; exact ⟨rfl, rfl⟩) (by simp) ?_
        refine Sim.exec hmix goks_nil (n := 0) (by simp (decide := true); exact ⟨rfl, rfl, rfl⟩) (by simp) ?_
        exact ⟨.inr rfl, _, by simp; rfl, Weak.mk' [] (by decide) (by decide) (by simp [payV]) (by simp [payB])⟩
      | cons z l =>
        have hfr : frees (l.map AV.str) = true := frees_map _ _ fun _ => rfl
        refine Sim.step hmix goks_nil (n := 0) (by simp [payV, payB]; exact ⟨rfl, rfl⟩) (by simp) ?_
        refine Sim.exec hmix goks_nil (n := 0) (by simp (decide := true); exact ⟨rfl, rfl, rfl⟩) (by simp) ?_
        exact ⟨.inr rfl, _, by simp; rfl, Weak.mk' [6] (by decide) (by decide) (by simp [payV]) (by simp [payB])⟩
    · rw [if_neg he] at hf
      subst hf
      have he2 : (f == 9) = false := by simpa using he
      cases l with
      | nil =>
        refine Sim.step hmix goks_nil (n := 0) (by simp [payV, payB, he2]; exact ⟨rfl, rfl⟩) (by simp) ?_
        refine Sim.exec hmix goks_nil (n := 0) (by simp (decide := true); exact ⟨rfl, rfl, rfl⟩) (by simp) ?_
        exact ⟨.inr rfl, _, by simp; rfl, Weak.mk' [] (by decide) (by decide) (by simp [payV]) (by simp [payB])⟩
      | cons z l =>
        have hfr : frees (l.map AV.str) = true := frees_map _ _ fun _ => rfl
        refine Sim.step hmix goks_nil (n := 0) (by simp [payV, payB, he2]; exact ⟨rfl, rfl⟩) (by simp) ?_
        refine Sim.exec hmix goks_nil (n := 0) (by simp (decide := true); exact ⟨rfl, rfl, rfl⟩) (by simp) ?_
        exact ⟨.inr rfl, _, by simp; rfl, Weak.mk' [6] (by decide) (by decide) (by simp [payV]) (by simp [payB])⟩

end Go.Proofs.Ytmoegdjpmcjhcaa
