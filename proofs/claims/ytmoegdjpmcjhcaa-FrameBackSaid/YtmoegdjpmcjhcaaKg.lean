/- Contracts: frame.All's summary; the document's All and Same; cedillalaw03's helpers. -/
import Derived.Test.YtmoegdjpmcjhcaaKf
import Derived.Test.YtmoegdjpmcjhcaaBa
namespace Go.Proofs.Ytmoegdjpmcjhcaa
open Go
set_option maxRecDepth 100000

@[simp] theorem shAs_strs (k : Nat) : ∀ l : List (List UInt8), shAs k (l.map AV.str) = l.map AV.str
  | [] => rfl
  | x :: l => by simp [shAs_strs k l]

theorem shA_payV (k b : Nat) (l : List (List UInt8)) : shA k (payV b l) = payV (k + b) l := by
  unfold payV
  split <;> rfl

theorem shB_payB (k : Nat) (l : List (List UInt8)) : (payB l).map (shB k) = payB l := by
  unfold payB
  split <;> simp

theorem own_payB (l : List (List UInt8)) : allOwn (payB l) = true := by
  unfold payB
  split <;> rfl

def fallS : Summ := newS fun | [.str s] => if s.length ≤ 1000000000 then some (.tuple [payV 0 (Fr.all s 0).1, .int .i64 (Fr.all s 0).2.1, .int .i64 (Fr.all s 0).2.2], payB (Fr.all s 0).1) else none | _ => none
theorem fall_sound : Sound Try.prog 25 fallS := by
  refine sound_new (enter_of Try.func25 rfl (by decide)) fun args v H' h => ?_
  split at h <;> try cases h
  rename_i s
  split at h <;> cases h
  exact ⟨fall_ct s ‹_›, by simp, own_payB _⟩

set_option maxHeartbeats 4000000 in
theorem rfall_ct (s : List UInt8) (hs : s.length ≤ 1000000000) : Ct Try.prog 56 [.str s] [] (.tuple [payV 0 (Fr.all s 0).1, .int .i64 (Fr.all s 0).2.1, .int .i64 (Fr.all s 0).2.2]) (payB (Fr.all s 0).1) := by
  have hΓ := goks_cons rfget_sound goks_nil
  obtain ⟨⟨l, x, f⟩, hr⟩ : ∃ r, Fr.all s 0 = r := ⟨_, rfl⟩
  rw [hr]
  dsimp only
  refine ct_of_sim Try.func56 rfl ?_
  simp only [Try.ntmps56, List.length_cons, List.length_nil, Nat.reduceAdd, Nat.reduceSub, List.replicate, List.cons_append, List.nil_append]
  refine Sim.step hmix hΓ (n := 0) (by simp; exact ⟨rfl, rfl⟩) (by simp) ?_
  refine Sim.step hmix hΓ (n := 0) (by simp; exact ⟨rfl, rfl⟩) (by simp) ?_
  refine Sim.step hmix hΓ (n := 0) (by simp; exact ⟨rfl, rfl⟩) (by simp) ?_
  refine Sim.block (Sim.loopW (fun p : List (List UInt8) × Int => 0 ≤ p.2 ∧ p.2 ≤ s.length ∧ p.1.length ≤ p.2.toNat ∧ Fr.all s 0 = (p.1 ++ (Fr.all s p.2).1, (Fr.all s p.2).2))
    (fun p => [.str s, .top, .nils, .int .i64 0, .int .i64 0, payV 0 p.1, .int .i64 p.2] ++ List.replicate 24 .top)
    (fun p => payB p.1) (fun p => s.length - p.2.toNat) ([], 0) (by simp) (by simp) (Weak.mk' [] (by decide) (by decide) (by simp [payV]) (by simp [payB])) fun p hp => ?_)
  obtain ⟨acc, a⟩ := p
  obtain ⟨h1, h2, h3, h4⟩ := hp
  dsimp only at h1 h2 h3 h4 ⊢
  have hs2 : s.length ≤ 1000000000000 := by omega
  obtain ⟨⟨q, y, e⟩, hq⟩ : ∃ r, Fr.get s a = r := ⟨_, rfl⟩
  by_cases he : e = 0
  · subst he
    have hw := Fr.get_way s a (by rw [hq])
    have ha := Fr.all_ok s a (by rw [hq])
    rw [hq] at hw ha
    dsimp only at hw ha
    cases acc with
    | nil =>
      refine Sim.exec hmix hΓ (n := 0) (by simp [fgetS, hs2, hq, payV, payB]; exact ⟨rfl, rfl, rfl⟩) (by simp) ?_
      exact ⟨([q], y), ⟨by omega, by omega, by simp; omega, by rw [h4, ha]; rfl⟩, Weak.mk' [1] (by decide) (by decide) (by simp [payV]) (by simp [payB]), by simp; omega⟩
    | cons z acc =>
      have l1 : acc.length + 1 ≤ 1000000000 := by simp at h3; omega
      have c1 : (acc.length + 1 + 1) * 16 ≤ 140737488355328 := by omega
      have c2 : acc.length ≤ 9223372036854775805 := by omega
      have hfr : frees (acc.map AV.str ++ [AV.str q]) = true := frees_iff.2 fun v hv => by
        rcases List.mem_append.1 hv with h | h
        · obtain ⟨_, _, rfl⟩ := List.mem_map.1 h; rfl
        · simp at h; subst h; rfl
      refine Sim.exec hmix hΓ (n := 0) (by simp [fgetS, hs2, hq, payV, payB, c1, c2]; exact ⟨rfl, rfl, rfl⟩) (by simp) ?_
      exact ⟨(z :: acc ++ [q], y), ⟨by omega, by omega, by simp at h3 ⊢; omega, by rw [h4, ha]; simp⟩, Weak.mk' [2] (by decide) (by decide) (by simp [payV]) (by simp [payB, AWs_free hfr]), by simp; omega⟩
  · have ha := Fr.all_end s a h2 (by rw [hq]; exact he)
    rw [hq] at ha
    dsimp only at ha
    have e1 : l = acc ∧ x = a ∧ f = if e = 9 then 0 else e := by
      rw [hr, ha] at h4
      simpa using h4
    obtain ⟨rfl, rfl, hf⟩ := e1
    have he2 : (e == 0) = false := by simpa using he
    have he3 : (e != 0) = true := by simpa using he
    by_cases h9 : e = 9
    · subst h9
      simp at hf
      subst hf
      refine Sim.exec hmix hΓ (n := 0) (by simp [fgetS, hs2, hq]; exact ⟨rfl, rfl, rfl⟩) (by simp) ?_
      refine ⟨.inr rfl, _, by simp; rfl, ?_⟩
      cases l with
      | nil => exact Weak.mk' [] (by decide) (by decide) (by simp [payV]) (by simp [payB])
      | cons z l =>
        have hfr : frees (l.map AV.str) = true := frees_map _ _ fun _ => rfl
        exact Weak.mk' [0] (by decide) (by decide) (by simp [payV]) (by simp [payB])
    · rw [if_neg h9] at hf
      subst hf
      have h92 : (f == 9) = false := by simpa using h9
      refine Sim.exec hmix hΓ (n := 0) (by simp [fgetS, hs2, hq, he3, h92]; exact ⟨rfl, rfl, rfl⟩) (by simp) ?_
      refine ⟨.inr rfl, _, by simp; rfl, ?_⟩
      cases l with
      | nil => exact Weak.mk' [] (by decide) (by decide) (by simp [payV]) (by simp [payB])
      | cons z l =>
        have hfr : frees (l.map AV.str) = true := frees_map _ _ fun _ => rfl
        exact Weak.mk' [0] (by decide) (by decide) (by simp [payV]) (by simp [payB])

theorem rfall_sound : Sound Try.prog 56 fallS := by
  refine sound_new (enter_of Try.func56 rfl (by decide)) fun args v H' h => ?_
  split at h <;> try cases h
  rename_i s
  split at h <;> cases h
  exact ⟨rfall_ct s ‹_›, by simp, own_payB _⟩

end Go.Proofs.Ytmoegdjpmcjhcaa
