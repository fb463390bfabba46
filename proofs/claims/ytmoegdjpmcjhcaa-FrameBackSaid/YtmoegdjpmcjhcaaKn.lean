/- Contracts: cedillalaw03's alike and made. -/
import Derived.Test.YtmoegdjpmcjhcaaKm
import Derived.Test.YtmoegdjpmcjhcaaBs
namespace Go.Proofs.Ytmoegdjpmcjhcaa
open Go
set_option maxRecDepth 100000
attribute [-simp] drawOk_eq adraw qrun acode aops

theorem cut_len (s : List UInt8) (n : Nat) (z : Int) (hz : z = n) : ∃ m : Nat, (if z < (s.length : Int) then z else (s.length : Int)) = (m : Int) ∧ m ≤ n ∧ m ≤ s.length ∧ m = min s.length n := ⟨min s.length n, by split <;> omega, by omega, by omega, rfl⟩

set_option maxHeartbeats 4000000 in
theorem alike_ct (s : List UInt8) (a : Int) (hs : s.length ≤ 1000000000) : Ct Try.prog 31 [.str s, .int .i64 a] [] (.bool true) [] := by
  have hΓ := goks_cons fget_sound (goks_cons rfget_sound (goks_cons fall_sound (goks_cons rfall_sound (goks_cons same_sound goks_nil))))
  have h2 : s.length ≤ 1000000000000 := by omega
  refine ct_val hmix hΓ (n := 0) Try.func31 ?_ (by simp)
  unfold Try.f31
  obtain ⟨⟨q, y, e⟩, hq⟩ : ∃ r, Fr.get s a = r := ⟨_, rfl⟩
  obtain ⟨⟨l, x, f⟩, hr⟩ : ∃ r, Fr.all s 0 = r := ⟨_, rfl⟩
  have hl : l.length ≤ 1000000000000 := by
    have h3 := (Fr.all_len s)
    rw [hr] at h3
    dsimp only at h3
    omega
  cases l with
  | nil => simp (maxSteps := 1000000) [fgetS, fallS, newS, sameS, textsA, hs, h2, hq, hr, payV, payB, shA]
  | cons z l =>
    have hl2 : l.length + 1 ≤ 1000000000000 := by simpa using hl
    have hst : strsOf ((l.map AV.str).take l.length) = some l := by rw [List.take_of_length_le (by simp)]; simp
    simp (maxSteps := 1000000) [fgetS, fallS, newS, sameS, textsA, hs, h2, hq, hr, payV, payB, shA, hl2, hst]

def alikeS : Summ := pureS fun | [.str s, .int .i64 _] => if s.length ≤ 1000000000 then some (.bool true) else none | _ => none
theorem alike_sound : Sound Try.prog 31 alikeS := by
  refine sound_pure (enter_of Try.func31 rfl (by decide)) fun args v h => ?_
  split at h <;> try cases h
  rename_i s a
  split at h <;> cases h
  exact ⟨alike_ct s a ‹_›, by simp, by simp⟩

/-- Frames of payloads (twenty at most, of 310 bytes at most). -/
def Fr.made (l : List (List UInt8)) : List UInt8 := Fr.cat ((l.take 20).map (List.take 310))

theorem Fr.made_le (l : List (List UInt8)) : (Fr.made l).length ≤ 6260 := by
  have := Fr.cat_le ((l.take 20).map (List.take 310))
  have h2 : ((l.take 20).map (List.take 310)).length ≤ 20 := by simp; omega
  unfold Fr.made
  omega

theorem take_min_len (s : List UInt8) (n : Nat) : s.take (min s.length n) = s.take n := by
  by_cases h : s.length ≤ n
  · rw [Nat.min_eq_left h, List.take_of_length_le (Nat.le_refl _), List.take_of_length_le h]
  · rw [Nat.min_eq_right (by omega)]

set_option maxHeartbeats 4000000 in
theorem made_ct (l : List (List UInt8)) : Ct Try.prog 30 [.slice 0 0 l.length 1 false] [.cells false (l.map .str)] (.str (Fr.made l)) [.cells false (l.map .str)] := by
  have hΓ := goks_cons rfput_sound goks_nil
  have fl : frees (l.map AV.str) = true := frees_map _ _ fun _ => rfl
  refine ct_of_sim Try.func30 rfl ?_
  simp only [Try.ntmps30, List.length_cons, List.length_nil, Nat.reduceAdd, Nat.reduceSub, List.replicate, List.cons_append, List.nil_append]
  refine Sim.step hmix hΓ (n := 0) (by simp; exact ⟨rfl, rfl⟩) (by simp) ?_
  refine Sim.step hmix hΓ (n := 0) (by simp; exact ⟨rfl, rfl⟩) (by simp) ?_
  refine Sim.seq (Sim.step hmix hΓ (n := 0) (by simp; exact ⟨rfl, rfl⟩) (by simp) ?_)
  refine Sim.block (Sim.loopW (fun k : Nat => k ≤ l.length ∧ k ≤ 20)
    (fun k => [.slice 0 0 l.length 1 false, .top, .str [], .str (Fr.cat ((l.take k).map (List.take 310))), .int .i64 k] ++ List.replicate 31 .top)
    (fun _ => [.cells false (l.map .str)]) (fun k => 20 - k) 0 (by simp) (by simp) (Weak.mk' [0] (by decide) rfl (by simp [Fr.cat]) (by simp [fl])) fun k hk => ?_)
  obtain ⟨hk, hk2⟩ := hk
  obtain ⟨acc, hacc⟩ : ∃ x, Fr.cat ((l.take k).map (List.take 310)) = x := ⟨_, rfl⟩
  have la : acc.length ≤ 6260 := by
    have := Fr.cat_le ((l.take k).map (List.take 310))
    have h2 : ((l.take k).map (List.take 310)).length ≤ 20 := by simp; omega
    rw [← hacc]
    omega
  rw [hacc]
  by_cases hlt : k < l.length
  · by_cases h20 : k < 20
    · have g1 : (l.map AV.str)[k]? = some (.str l[k]) := by rw [List.getElem?_map, List.getElem?_eq_getElem hlt]; rfl
      have hw : IntKind.i64.wrap ((k : Int) + 1) = k + 1 := wr_i64 (by omega) (by omega)
      obtain ⟨m, e1, l1, k1, k2⟩ := cut_len l[k] 310 310 rfl
      have e2 : l[k].take m = l[k].take 310 := by rw [k2, take_min_len]
      obtain ⟨⟨f, fe⟩, hf⟩ : ∃ r, Fr.put (l[k].take 310) = r := ⟨_, rfl⟩
      have lf := Fr.put_le (l[k].take 310)
      rw [hf] at lf
      dsimp only at lf
      have p1 : (l[k].take 310).length ≤ 1000000000 := by simp; omega
      have p1' : min 310 l[k].length ≤ 1000000000 := by omega
      have p2 : acc.length + f.length ≤ 9223372036854775807 := by omega
      have h20' : (k : Int) < 20 := by omega
      have hn : Fr.cat ((l.take (k + 1)).map (List.take 310)) = acc ++ f := by
        rw [List.take_succ_eq_append_getElem hlt, List.map_append, ← hacc]
        simp [Fr.cat, hf]
      refine Sim.exec hmix hΓ (n := 0) (by simp (decide := true) [hlt, h20', e1, k1, e2, fputS, p1', hf, p2, hw]; exact ⟨rfl, rfl, rfl⟩) (by simp) ?_
      have hn' : Fr.cat ((l.map (List.take 310)).take (k + 1)) = acc ++ f := by rw [← List.map_take]; exact hn
      exact ⟨k + 1, ⟨by omega, by omega⟩, Weak.mk' [0] (by decide) rfl (by simp [hn']) (by simp [fl]), by omega⟩
    · obtain rfl : k = 20 := by omega
      have hlt2 : (20 : Int) < (l.length : Int) := by omega
      have e : Fr.made l = acc := hacc
      refine Sim.exec hmix hΓ (n := 0) (by simp (decide := true) [hlt2]; exact ⟨rfl, rfl, rfl⟩) (by simp) ?_
      dsimp only
      rw [if_pos rfl]
      refine Sim.exec hmix hΓ (n := 0) (by simp; exact ⟨rfl, rfl, rfl⟩) (by simp) ?_
      exact ⟨.inr rfl, _, by simp; rfl, Weak.mk' [0] (by decide) rfl (by simp [e]) (by simp [fl])⟩
  · have hkl : k = l.length := by omega
    have e : Fr.made l = acc := by
      unfold Fr.made
      rw [← hacc, hkl, List.take_of_length_le (Nat.le_refl _), List.take_of_length_le (by omega)]
    refine Sim.exec hmix hΓ (n := 0) (by simp [hlt]; exact ⟨rfl, rfl, rfl⟩) (by simp) ?_
    dsimp only
    rw [if_pos rfl]
    refine Sim.exec hmix hΓ (n := 0) (by simp; exact ⟨rfl, rfl, rfl⟩) (by simp) ?_
    exact ⟨.inr rfl, _, by simp; rfl, Weak.mk' [0] (by decide) rfl (by simp [e]) (by simp [fl])⟩

theorem made_nil : Ct Try.prog 30 [.nils] [] (.str []) [] := by
  refine ct_val hmix goks_nil (n := 1) Try.func30 ?_ (by simp)
  unfold Try.f30
  simp (decide := true)

def madeS : Summ := readS fun args H => match args with
  | [x] => (textsA H x).map fun l => .str (Fr.made l)
  | _ => none

theorem made_sound : Sound Try.prog 30 madeS := by
  refine sound_read (enter_of Try.func30 rfl (by decide)) fun args H v h => ?_
  split at h <;> try cases h
  rename_i x
  obtain ⟨a, hx, rfl⟩ := Option.map_eq_some_iff.1 h
  have fr : ∀ l : List (List UInt8), frees (l.map AV.str) = true := fun l => frees_map _ _ fun _ => rfl
  rcases textsA_slice hx with ⟨rfl, rfl⟩ | ⟨b1, o1, c1, w1, l1, rfl, hb1, hl1, he1⟩
  · exact ct_win made_nil rfl [] (by simp) (by simp [winH])
  · exact ct_win (made_ct a) rfl [(b1, o1)] (by simp) (by simp only [winH, hb1]; exact ⟨⟨by simp; exact hl1, by rw [List.length_map]; exact he1⟩, fr _, trivial⟩)

end Go.Proofs.Ytmoegdjpmcjhcaa
