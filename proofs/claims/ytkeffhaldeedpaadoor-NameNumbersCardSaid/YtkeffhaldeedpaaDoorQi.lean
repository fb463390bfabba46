/- Names: the document's Numbers, whole; ints. -/
import Derived.Test.YtkeffhaldeedpaaDoorQh
namespace Go.Proofs.YtkeffhaldeedpaaDoor
open Go Go.Lib
set_option maxRecDepth 100000
attribute [-simp] drawOk_eq adraw qrun acode aops

theorem rparse_nonneg (s : List UInt8) : 0 ≤ (rparse s).2 := by
  unfold rparse
  split
  · simp
  split
  · simp
  split
  · simp
  split
  · simp
  split
  · simp
  split <;> simp

theorem rnumN_snoc (k : Int) (l : List (List UInt8)) (i : Nat) (s : List UInt8) (h : l[i]? = some s) : rnumN k (l.take (i + 1)) = match numOf k s with | some n => insI (rnumN k (l.take i)) n | none => rnumN k (l.take i) := by
  unfold rnumN
  rw [List.take_add_one, h, List.foldl_append]
  rfl
theorem rnumN_length (k : Int) (l : List (List UInt8)) : (rnumN k l).length ≤ l.length := by
  rw [rnumN_eq]
  have h1 := compact_le (srt (numRaw k l))
  have h2 := srt_length (numRaw k l)
  have h3 := numRaw_length k l
  unfold numN
  omega

set_option maxHeartbeats 8000000 in
theorem rnumbers_ct (k : Int) (l : List (List UInt8)) (hl : l.length ≤ 1000000) :
    Ct Tryd.prog 13 [.int .i64 k, .sl 0 0 l.length 1 false] [.cells false (l.map .str)] (.sl 1 0 (rnumN k l).length 1 false) [.cells false (l.map .str), .cells true (intsA (rnumN k l))] := by
  have hΓ := rnΓ_ok
  have fl : frees (l.map AV.str) = true := frees_map _ _ fun _ => rfl
  have hins := fun i out n h => rn_ins k l.length i (l.map .str) fl out n h
  refine ct_of_sim Tryd.func13 rfl ?_
  simp only [Tryd.ntmps13, List.length_cons, List.length_nil, Nat.reduceAdd, Nat.reduceSub, List.replicate, List.cons_append, List.nil_append]
  simp only [bodyOf, Tryd.f13, Option.getD_some, restC, fstC, inC] at hins
  refine Sim.step hmix hΓ (n := 0) (by simp; exact ⟨rfl, rfl⟩) (by simp) ?_
  refine Sim.step hmix hΓ (n := 0) (by simp; exact ⟨rfl, rfl⟩) (by simp) ?_
  refine Sim.seq (Sim.step hmix hΓ (n := 0) (by simp; exact ⟨rfl, rfl⟩) (by simp) ?_)
  refine Sim.block (Sim.loopW (fun i : Nat => i ≤ l.length)
    (fun i => rnF k l.length (rnumN k (l.take i)).length i ++ List.replicate 72 .top)
    (fun i => [.cells false (l.map .str), .cells true (intsA (rnumN k (l.take i)))]) (fun i => l.length - i) 0 (by simp) (by omega) (Weak.mk' [0, 100] (by decide) (by decide) (by simp [rnumN]) (by simp [fl])) fun i hi => ?_)
  have hol : (rnumN k (l.take i)).length ≤ 1000000 := by have h1 := rnumN_length k (l.take i); rw [List.length_take] at h1; omega
  by_cases hlt : i < l.length
  · have hlti : (i : Int) < l.length := by omega
    obtain ⟨s, hs1⟩ : ∃ s, l[i] = s := ⟨_, rfl⟩
    have hs' : l[i]? = some s := by rw [List.getElem?_eq_getElem hlt, hs1]
    have hg : ∀ h, l[i]'h = s := fun h => hs1
    have hw : IntKind.i64.wrap ((i : Int) + 1) = i + 1 := wr_i64 (by omega) (by omega)
    have hnext := rnumN_snoc k l i s hs'
    obtain ⟨out, ho⟩ : ∃ out, rnumN k (l.take i) = out := ⟨_, rfl⟩
    rw [ho] at hnext hol ⊢
    have hn0 := rparse_nonneg s
    obtain ⟨a, n, hp⟩ : ∃ a n, rparse s = (a, n) := ⟨_, _, rfl⟩
    have hp' : nparse s = (a, n) := by rw [parse_same, hp]
    rw [hp] at hn0
    dsimp only at hn0
    simp only [rnF]
    refine Sim.step hmix hΓ (n := 0) (by simp [hlti]; exact ⟨rfl, rfl⟩) (by simp) ?_
    refine Sim.seq (Sim.block ?_)
    refine Sim.step hmix hΓ (n := 0) (by simp (decide := true) [hlt, hg, rparseS, hp]; exact ⟨rfl, rfl⟩) (by simp) ?_
    by_cases ha : a = k
    · subst ha
      by_cases h0 : n = 0
      · have hq : numOf a s = none := by unfold numOf; rw [hp', if_neg]; dsimp only; omega
        rw [hq] at hnext
        dsimp only at hnext
        refine Sim.seq (Sim.exec hmix hΓ (n := 0) (by simp (decide := true) [h0]; exact ⟨rfl, rfl, rfl⟩) (by simp) ?_)
        dsimp only
        rw [if_pos rfl]
        refine Sim.exec hmix hΓ (n := 0) (by simp [hw]; exact ⟨rfl, rfl, rfl⟩) (by simp) ?_
        dsimp only
        exact ⟨i + 1, by omega, Weak.mk' [0, 1] (by decide) (by decide) (by simp [hnext]) (by simp [hnext, fl, frees_ints]), by omega⟩
      · have h0b : (n == 0) = false := by simpa using h0
        have hq : numOf a s = some n := by unfold numOf; rw [hp']; exact if_pos ⟨rfl, by dsimp only; omega⟩
        rw [hq] at hnext
        dsimp only at hnext
        refine Sim.step hmix hΓ (n := 0) (by simp (decide := true) [h0b]; exact ⟨rfl, rfl⟩) (by simp) ?_
        refine Sim.weak (Fn := rnF a l.length out.length i ++ [.top, .int .i64 n] ++ List.replicate 70 .top) (Hn := [.cells false (l.map .str), .cells true (intsA out)]) (Weak.mk' [0, 1] (by decide) (by decide) (by simp) (by simp [fl, frees_ints])) (by simp) ?_
        refine Sim.mono (hins i out n hol) ?_
        rintro e F' H' hlen ⟨rfl, hwk⟩
        dsimp only
        refine Sim.weak hwk hlen ?_
        clear hwk hlen
        refine Sim.exec hmix hΓ (n := 0) (by simp [hw]; exact ⟨rfl, rfl, rfl⟩) (by simp) ?_
        dsimp only
        exact ⟨i + 1, by omega, Weak.mk' [0, 1] (by decide) (by decide) (by simp [hnext]) (by simp [hnext, fl, frees_ints]), by omega⟩
    · have hab : (a != k) = true := by simpa using ha
      have hq : numOf k s = none := by unfold numOf; rw [hp', if_neg]; rintro ⟨h, _⟩; exact ha h
      rw [hq] at hnext
      dsimp only at hnext
      refine Sim.seq (Sim.exec hmix hΓ (n := 0) (by simp (decide := true) [hab]; exact ⟨rfl, rfl, rfl⟩) (by simp) ?_)
      dsimp only
      rw [if_pos rfl]
      refine Sim.exec hmix hΓ (n := 0) (by simp [hw]; exact ⟨rfl, rfl, rfl⟩) (by simp) ?_
      dsimp only
      exact ⟨i + 1, by omega, Weak.mk' [0, 1] (by decide) (by decide) (by simp [hnext]) (by simp [hnext, fl, frees_ints]), by omega⟩
  · have hkn : i = l.length := by omega
    have hlti : ¬ (i : Int) < l.length := by omega
    have e : l.take i = l := by rw [hkn, List.take_length]
    rw [e]
    simp only [rnF]
    refine Sim.exec hmix hΓ (n := 0) (by simp [hlti]; exact ⟨rfl, rfl, rfl⟩) (by simp) ?_
    dsimp only
    rw [if_pos rfl]
    refine Sim.exec hmix hΓ (n := 0) (by simp; exact ⟨rfl, rfl, rfl⟩) (by simp) ?_
    exact ⟨.inr rfl, _, by simp [Tryd.f13] <;> rfl, Weak.mk' [0, 1] (by decide) (by decide) (by simp) (by simp [fl, frees_ints])⟩

def rnumbersS : Summ := readNewS fun args H => match args with
  | [.int .i64 k, x] => match rowSt H x with
    | some l => if l.length ≤ 1000000 then some (.sl 0 0 (rnumN k l).length 1 false, [.cells true (intsA (rnumN k l))]) else none
    | none => none
  | _ => none

theorem rnumbers_sound : Sound Tryd.prog 13 rnumbersS := by
  refine sound_readNew (enter_of Tryd.func13 rfl (by decide)) fun args H v N h => ?_
  split at h <;> try cases h
  rename_i k x
  split at h <;> try cases h
  rename_i l hx
  split at h <;> cases h
  rename_i hc
  obtain ⟨b1, o1, w1, g1⟩ := rowSt_win hx
  refine ct_winN (H0 := [.cells false (l.map .str)]) (args0 := [.int .i64 k, .sl 0 0 l.length 1 false]) ?_ rfl [(b1, o1)] ⟨by simp [winA], w1 0 _ rfl, trivial⟩ ⟨g1, frees_map _ _ fun _ => rfl, trivial⟩
  have := rnumbers_ct k l hc
  simpa using this

end Go.Proofs.YtkeffhaldeedpaaDoor
