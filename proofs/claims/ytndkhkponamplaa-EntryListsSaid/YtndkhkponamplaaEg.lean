/- Contracts of entry.Get and the document's answer. -/
import Derived.Test.YtndkhkponamplaaEy
namespace Go.Proofs.Ytndkhkponamplaa
open Go
set_option maxRecDepth 100000
attribute [-simp] drawOk_eq adraw qrun acode aops

def noE : En := ([], 0, false)
def eget (s : List UInt8) : En × Int := match s with
  | [] => (noE, 3)
  | b :: r =>
    if b.toNat = 2 then (if okW r then ((r, 0, true), 0) else (noE, 7))
    else if b.toNat = 1 then
      (if (Vy.get s 1).2.2 = 0 then (if 4294967295 < (Vy.get s 1).1 then (noE, 17) else if okW (s.drop (Vy.get s 1).2.1.toNat) then ((s.drop (Vy.get s 1).2.1.toNat, ((Vy.get s 1).1 : Int), false), 0) else (noE, 7))
       else (noE, (Vy.get s 1).2.2))
    else (noE, 6)

def egΓ : Gam := gams [(31, wcheckS), (35, getS)]
theorem egΓ_ok : GOk Try.prog egΓ := goks_cons wcheck_sound (goks_cons get_sound goks_nil)

theorem cdW_eq (w : List UInt8) : cdW w = if okW w then 0 else 7 := rfl

set_option maxHeartbeats 16000000 in
theorem eget_ct (s : List UInt8) (hs : s.length ≤ 1000000) : Ct Try.prog 12 [.str s] [] (.tuple [.agg (enA (eget s).1), .int .i64 (eget s).2]) [] := by
  refine ct_runE hmix egΓ_ok (n := 0) Try.func12 ?_
  unfold Try.f12
  cases s with
  | nil => exact ⟨_, _, (by simp [eget, enA, noE]; exact ⟨rfl, rfl⟩), Weak.mk' [] (by decide) rfl (by simp [eget, enA, noE]) (by simp)⟩
  | cons b r =>
    have hbl := b.toNat_lt
    have hr : r.length + 1 ≤ 1000000 := by simpa using hs
    have hr2 : r.length + 1 ≤ 140737488351232 := by omega
    have e1 : (1 : Int) ≤ (r.length : Int) + 1 := by omega
    by_cases h2 : b.toNat = 2
    · have h2i : ((b.toNat : Nat) : Int) = 2 := by omega
      cases hk : okW r with
      | true => exact ⟨_, _, (by simp (decide := true) [egΓ, wcheckS, readS, h2i, e1, cdW_eq, hk]; exact ⟨rfl, rfl⟩), Weak.mk' [] (by decide) rfl (by simp [eget, enA, h2, hk]) (by simp)⟩
      | false => exact ⟨_, _, (by simp (decide := true) [egΓ, wcheckS, readS, h2i, e1, cdW_eq, hk]; exact ⟨rfl, rfl⟩), Weak.mk' [] (by decide) rfl (by simp [eget, enA, noE, h2, hk]) (by simp)⟩
    · have h2i : ¬ ((b.toNat : Nat) : Int) = 2 := by omega
      by_cases h1 : b.toNat = 1
      · have h1i : ((b.toNat : Nat) : Int) = 1 := by omega
        obtain ⟨m, x, c, hg⟩ : ∃ m x c, Vy.get (b :: r) 1 = (m, x, c) := ⟨_, _, _, rfl⟩
        by_cases hc : c = 0
        · subst hc
          obtain ⟨g0, g1, g2⟩ := Vy.get_ok _ _ _ _ hg
          have gv := (Vy.get_put _ 1 m x hg).2
          have x0 : (0 : Int) ≤ x := by omega
          have x1 : x ≤ (r.length : Int) + 1 := by simpa using g2
          by_cases hm : 4294967295 < m
          · have hmi : (4294967295 : Int) < m := by omega
            exact ⟨_, _, (by simp (decide := true) [egΓ, wcheckS, getS, readS, h2i, h1i, e1, hg, hr2, hmi, x0, x1]; exact ⟨rfl, rfl⟩), Weak.mk' [] (by decide) rfl (by simp [eget, enA, noE, h1, hg, hm]) (by simp)⟩
          · have hmi : ¬ (4294967295 : Int) < m := by omega
            have c2 : IntKind.u32.wrap (m : Int) = m := wr_u32 (by omega) (by omega)
            obtain ⟨w, hw⟩ : ∃ w, (b :: r).drop x.toNat = w := ⟨_, rfl⟩
            have ht : w.take (r.length + 1 - x.toNat) = w := by
              apply List.take_of_length_le
              rw [← hw, List.length_drop, List.length_cons]
              omega
            cases hk : okW w with
            | true => exact ⟨_, _, (by simp (decide := true) [egΓ, wcheckS, getS, readS, h2i, h1i, e1, hg, hr2, hmi, x0, x1, hw, ht, cdW_eq, hk, c2]; exact ⟨rfl, rfl⟩), Weak.mk' [] (by decide) rfl (by simp [eget, enA, noE, h1, hg, hm, hw, hk]) (by simp)⟩
            | false => exact ⟨_, _, (by simp (decide := true) [egΓ, wcheckS, getS, readS, h2i, h1i, e1, hg, hr2, hmi, x0, x1, hw, ht, cdW_eq, hk, c2]; exact ⟨rfl, rfl⟩), Weak.mk' [] (by decide) rfl (by simp [eget, enA, noE, h1, hg, hm, hw, hk]) (by simp)⟩
        · exact ⟨_, _, (by simp (decide := true) [egΓ, wcheckS, getS, readS, h2i, h1i, e1, hg, hr2, hc]; exact ⟨rfl, rfl⟩), Weak.mk' [] (by decide) rfl (by simp [eget, enA, noE, h1, hg, hc]) (by simp)⟩
      · have h1i : ¬ ((b.toNat : Nat) : Int) = 1 := by omega
        exact ⟨_, _, (by simp (decide := true) [egΓ, h2i, h1i, e1]; exact ⟨rfl, rfl⟩), Weak.mk' [] (by decide) rfl (by simp [eget, enA, noE, h1, h2]) (by simp)⟩


def rgΓ : Gam := gams [(33, rcheckS), (36, getS)]
theorem rgΓ_ok : GOk Try.prog rgΓ := goks_cons rcheck_sound (goks_cons rget_sound goks_nil)

set_option maxHeartbeats 16000000 in
theorem reget_ct (s : List UInt8) (hs : s.length ≤ 1000000) : Ct Try.prog 13 [.str s] [] (.tuple [.agg (enA (eget s).1), .int .i64 (eget s).2]) [] := by
  refine ct_runE hmix rgΓ_ok (n := 0) Try.func13 ?_
  unfold Try.f13
  cases s with
  | nil => exact ⟨_, _, (by simp [eget, enA, noE]; exact ⟨rfl, rfl⟩), Weak.mk' [] (by decide) rfl (by simp [eget, enA, noE]) (by simp)⟩
  | cons b r =>
    have hbl := b.toNat_lt
    have hr : r.length + 1 ≤ 1000000 := by simpa using hs
    have hr2 : r.length + 1 ≤ 140737488351232 := by omega
    have e1 : (1 : Int) ≤ (r.length : Int) + 1 := by omega
    have ht0 : r.take (r.length + 1 - 1) = r := List.take_of_length_le (by omega)
    by_cases h2 : b.toNat = 2
    · have h2i : ((b.toNat : Nat) : Int) = 2 := by omega
      have h1i : ¬ ((b.toNat : Nat) : Int) = 1 := by omega
      cases hk : okW r with
      | true => exact ⟨_, _, (by simp (decide := true) [rgΓ, rcheckS, h2i, h1i, e1, ht0, cdW_eq, hk]; exact ⟨rfl, rfl⟩), Weak.mk' [] (by decide) rfl (by simp [eget, enA, h2, hk]) (by simp)⟩
      | false => exact ⟨_, _, (by simp (decide := true) [rgΓ, rcheckS, h2i, h1i, e1, ht0, cdW_eq, hk]; exact ⟨rfl, rfl⟩), Weak.mk' [] (by decide) rfl (by simp [eget, enA, noE, h2, hk]) (by simp)⟩
    · have h2i : ¬ ((b.toNat : Nat) : Int) = 2 := by omega
      by_cases h1 : b.toNat = 1
      · have h1i : ((b.toNat : Nat) : Int) = 1 := by omega
        obtain ⟨m, x, c, hg⟩ : ∃ m x c, Vy.get (b :: r) 1 = (m, x, c) := ⟨_, _, _, rfl⟩
        by_cases hc : c = 0
        · subst hc
          obtain ⟨g0, g1, g2⟩ := Vy.get_ok _ _ _ _ hg
          have gv := (Vy.get_put _ 1 m x hg).2
          have x0 : (0 : Int) ≤ x := by omega
          have x1 : x ≤ (r.length : Int) + 1 := by simpa using g2
          by_cases hm : 4294967295 < m
          · have hmi : (4294967296 : Int) ≤ m := by omega
            exact ⟨_, _, (by simp (decide := true) [rgΓ, rcheckS, getS, h2i, h1i, e1, hg, hr2, hmi, x0, x1]; exact ⟨rfl, rfl⟩), Weak.mk' [] (by decide) rfl (by simp [eget, enA, noE, h1, hg, hm]) (by simp)⟩
          · have hmi : ¬ (4294967296 : Int) ≤ m := by omega
            have c2 : IntKind.u32.wrap (m : Int) = m := wr_u32 (by omega) (by omega)
            obtain ⟨w, hw⟩ : ∃ w, (b :: r).drop x.toNat = w := ⟨_, rfl⟩
            have ht : w.take (r.length + 1 - x.toNat) = w := by
              apply List.take_of_length_le
              rw [← hw, List.length_drop, List.length_cons]
              omega
            cases hk : okW w with
            | true => exact ⟨_, _, (by simp (decide := true) [rgΓ, rcheckS, getS, h2i, h1i, e1, hg, hr2, hmi, x0, x1, hw, ht, cdW_eq, hk, c2]; exact ⟨rfl, rfl⟩), Weak.mk' [] (by decide) rfl (by simp [eget, enA, noE, h1, hg, hm, hw, hk]) (by simp)⟩
            | false => exact ⟨_, _, (by simp (decide := true) [rgΓ, rcheckS, getS, h2i, h1i, e1, hg, hr2, hmi, x0, x1, hw, ht, cdW_eq, hk, c2]; exact ⟨rfl, rfl⟩), Weak.mk' [] (by decide) rfl (by simp [eget, enA, noE, h1, hg, hm, hw, hk]) (by simp)⟩
        · exact ⟨_, _, (by simp (decide := true) [rgΓ, rcheckS, getS, h2i, h1i, e1, hg, hr2, hc]; exact ⟨rfl, rfl⟩), Weak.mk' [] (by decide) rfl (by simp [eget, enA, noE, h1, hg, hc]) (by simp)⟩
      · have h1i : ¬ ((b.toNat : Nat) : Int) = 1 := by omega
        have h1b : (((b.toNat : Nat) : Int) == 1) = false := by simpa using h1i
        have h2b : (((b.toNat : Nat) : Int) == 2) = false := by simpa using h2i
        have h1n : (((b.toNat : Nat) : Int) != 1) = true := by simpa using h1i
        have h2n : (((b.toNat : Nat) : Int) != 2) = true := by simpa using h2i
        exact ⟨_, _, (by simp (decide := true) [rgΓ, h2i, h1i, h1b, h2b, h1n, h2n, e1]; exact ⟨rfl, rfl⟩), Weak.mk' [] (by decide) rfl (by simp [eget, enA, noE, h1, h2]) (by simp)⟩

def egetS : Summ := pureS fun | [.str s] => if s.length ≤ 1000000 then some (.tuple [.agg (enA (eget s).1), .int .i64 (eget s).2]) else none | _ => none
theorem eget_sound : Sound Try.prog 12 egetS := by
  refine sound_pure (enter_of Try.func12 rfl (by decide)) fun args v h => ?_
  split at h <;> try cases h
  rename_i s
  split at h <;> cases h
  rename_i hn
  exact ⟨eget_ct s hn, rfl, rfl⟩
theorem reget_sound : Sound Try.prog 13 egetS := by
  refine sound_pure (enter_of Try.func13 rfl (by decide)) fun args v h => ?_
  split at h <;> try cases h
  rename_i s
  split at h <;> cases h
  rename_i hn
  exact ⟨reget_ct s hn, rfl, rfl⟩

end Go.Proofs.Ytndkhkponamplaa
