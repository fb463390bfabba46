/- Names: Numbers. -/
import Derived.Test.YtkeffhaldeedpaaDoorQe
namespace Go.Proofs.YtkeffhaldeedpaaDoor
open Go Go.Lib
set_option maxRecDepth 100000
attribute [-simp] drawOk_eq adraw qrun acode aops

def numOf (k : Int) (s : List UInt8) : Option Int := if (nparse s).1 = k ∧ 0 < (nparse s).2 then some (nparse s).2 else none
def numRaw (k : Int) (l : List (List UInt8)) : List Int := l.filterMap (numOf k)
def numN (k : Int) (l : List (List UInt8)) : List Int := compact (srt (numRaw k l))

theorem srt_length (zs : List Int) : (srt zs).length = zs.length := by simp [srt]
theorem numRaw_snoc (k : Int) (l : List (List UInt8)) (i : Nat) (s : List UInt8) (h : l[i]? = some s) : numRaw k (l.take (i + 1)) = numRaw k (l.take i) ++ (match numOf k s with | some n => [n] | none => []) := by
  unfold numRaw
  rw [List.take_add_one, h, List.filterMap_append]
  congr 1
  simp only [Option.toList, List.filterMap_cons, List.filterMap_nil]
  cases numOf k s <;> rfl
theorem numRaw_length (k : Int) (l : List (List UInt8)) : (numRaw k l).length ≤ l.length := List.length_filterMap_le _ _

theorem ints_append (a : List Int) (n : Int) : intsA a ++ [.int .i64 n] = intsA (a ++ [n]) := by simp [intsA]
theorem frees_ints (a : List Int) : frees (intsA a) = true := frees_map _ _ fun _ => rfl

def nuInl : List FuncId := [24]
theorem nuΓ_ok : GOk Tryd.prog (runG Tryd.prog (gams [(8, nparseS), (29, isortS), (30, icompactS)]) 0 nuInl 2) := gok_run hmix (goks_cons nparse_sound (goks_cons isort_sound (goks_cons icompact_sound goks_nil))) 0 nuInl 2

set_option maxHeartbeats 8000000 in
theorem numbers_ct (k : Int) (l : List (List UInt8)) (hl : l.length ≤ 1000000) (hs : ∀ s ∈ l, s.length ≤ 1000000) :
    Ct Tryd.prog 12 [.int .i64 k, .sl 0 0 l.length 1 false] [.cells false (l.map .str)] (.sl 1 0 (numN k l).length 1 false) [.cells false (l.map .str), .cells true (intsA (cpt (srt (numRaw k l))))] := by
  have hΓ := nuΓ_ok
  have fl : frees (l.map AV.str) = true := frees_map _ _ fun _ => rfl
  refine ct_of_sim Tryd.func12 rfl ?_
  simp only [Tryd.ntmps12, List.length_cons, List.length_nil, Nat.reduceAdd, Nat.reduceSub, List.replicate, List.cons_append, List.nil_append]
  refine Sim.step hmix hΓ (n := 0) (by simp; exact ⟨rfl, rfl⟩) (by simp) ?_
  refine Sim.seq (Sim.step hmix hΓ (n := 0) (by simp; exact ⟨rfl, rfl⟩) (by simp) ?_)
  refine Sim.block (Sim.loopW (fun i : Nat => i ≤ l.length)
    (fun i => [.int .i64 k, .top, .top, .top, .sl 1 0 (numRaw k (l.take i)).length 1 false, .top, .top, .top, .top, .sl 0 0 l.length 1 false, .int .i64 l.length, .int .i64 i] ++ List.replicate 22 .top)
    (fun i => [.cells false (l.map .str), .cells true (intsA (numRaw k (l.take i)))]) (fun i => l.length - i) 0 (by simp) (by omega) (Weak.mk' [0, 100] (by decide) (by decide) (by simp [numRaw]) (by simp [fl])) fun i hi => ?_)
  obtain ⟨out, ho⟩ : ∃ out, numRaw k (l.take i) = out := ⟨_, rfl⟩
  have hol : out.length ≤ 1000000 := by rw [← ho]; have h1 := numRaw_length k (l.take i); rw [List.length_take] at h1; omega
  rw [ho]
  by_cases hlt : i < l.length
  · have hlti : (i : Int) < l.length := by omega
    obtain ⟨s, hs1⟩ : ∃ s, l[i] = s := ⟨_, rfl⟩
    have hs' : l[i]? = some s := by rw [List.getElem?_eq_getElem hlt, hs1]
    have hsl := hs s (List.mem_of_getElem? hs')
    have hg : ∀ h, l[i]'h = s := fun h => hs1
    have hw : IntKind.i64.wrap ((i : Int) + 1) = i + 1 := wr_i64 (by omega) (by omega)
    have hnext := numRaw_snoc k l i s hs'
    rw [ho] at hnext
    obtain ⟨a, n, hp⟩ : ∃ a n, nparse s = (a, n) := ⟨_, _, rfl⟩
    have htk : List.take out.length (intsA out) = intsA out := List.take_of_length_le (by simp)
    have b1 : (out.length + 1) * 8 ≤ 140737488355328 := by omega
    have b2 : out.length + 1 ≤ 9223372036854775807 := by omega
    refine Sim.step hmix hΓ (n := 0) (by simp [hlti]; exact ⟨rfl, rfl⟩) (by simp) ?_
    refine Sim.step hmix hΓ (n := 0) (by simp; exact ⟨rfl, rfl⟩) (by simp) ?_
    refine Sim.seq (Sim.block ?_)
    refine Sim.step hmix hΓ (n := 0) (by simp (decide := true) [hlt, hg]; exact ⟨rfl, rfl⟩) (by simp) ?_
    refine Sim.step hmix hΓ (n := 0) (by simp (decide := true) [nparseS, hsl, hp]; exact ⟨rfl, rfl⟩) (by simp) ?_
    by_cases hc : a = k ∧ 0 < n
    · have hq : numOf k s = some n := by unfold numOf; rw [hp]; exact if_pos hc
      rw [hq] at hnext
      dsimp only at hnext
      obtain ⟨rfl, hn0⟩ := hc
      refine Sim.exec hmix hΓ (n := 0) (by simp (decide := true) [hn0, b1, b2]; exact ⟨rfl, rfl, rfl⟩) (by simp) ?_
      dsimp only
      refine Sim.exec hmix hΓ (n := 0) (by simp [hw]; exact ⟨rfl, rfl, rfl⟩) (by simp) ?_
      dsimp only
      exact ⟨i + 1, by omega, Weak.mk' [0, 3] (by decide) (by decide) (by simp [hnext]) (by simp [hnext, fl, htk, ints_append, frees_ints]), by omega⟩
    · have hq : numOf k s = none := by unfold numOf; rw [hp]; exact if_neg hc
      rw [hq] at hnext
      simp only [List.append_nil] at hnext
      by_cases ha : a = k
      · have hn0 : ¬ 0 < n := fun h => hc ⟨ha, h⟩
        refine Sim.exec hmix hΓ (n := 0) (by simp (decide := true) [ha, hn0]; exact ⟨rfl, rfl, rfl⟩) (by simp) ?_
        dsimp only
        refine Sim.exec hmix hΓ (n := 0) (by simp [hw]; exact ⟨rfl, rfl, rfl⟩) (by simp) ?_
        dsimp only
        exact ⟨i + 1, by omega, Weak.mk' [0, 1] (by decide) (by decide) (by simp [hnext]) (by simp [hnext, fl, frees_ints]), by omega⟩
      · have hab : (a == k) = false := by simpa using ha
        refine Sim.exec hmix hΓ (n := 0) (by simp (decide := true) [hab]; exact ⟨rfl, rfl, rfl⟩) (by simp) ?_
        dsimp only
        refine Sim.exec hmix hΓ (n := 0) (by simp [hw]; exact ⟨rfl, rfl, rfl⟩) (by simp) ?_
        dsimp only
        exact ⟨i + 1, by omega, Weak.mk' [0, 1] (by decide) (by decide) (by simp [hnext]) (by simp [hnext, fl, frees_ints]), by omega⟩
  · have hkn : i = l.length := by omega
    have hlti : ¬ (i : Int) < l.length := by omega
    rw [hkn, List.take_length] at ho
    have hsl := srt_length out
    have hb9 : out.length ≤ 1000000000 := by omega
    unfold numN
    rw [ho]
    refine Sim.step hmix hΓ (n := 0) (by simp [hlti]; exact ⟨rfl, rfl⟩) (by simp) ?_
    refine Sim.seq (Sim.exec hmix hΓ (n := 0) (by simp; exact ⟨rfl, rfl, rfl⟩) (by simp) ?_)
    dsimp only
    rw [if_pos rfl]
    refine Sim.exec hmix hΓ (n := 0) (by simp [nuInl, Tryd.f24, isortS, icompactS, hsl, hb9]; exact ⟨rfl, rfl, rfl⟩) (by simp) ?_
    exact ⟨.inr rfl, _, by simp [Tryd.f12] <;> rfl, Weak.mk' [0, 1] (by decide) (by decide) (by simp) (by simp [fl, frees_ints])⟩

/-- The texts of a row. -/
def rowSt (H : AHeap) : AV → Option (List (List UInt8))
  | .nils => some []
  | .slice b off len 1 _ => match H[b]? with
    | some (.cells _ l) => if off + len ≤ l.length then strsOf ((l.drop off).take len) else none
    | _ => none
  | .sl b off len 1 _ => match H[b]? with
    | some (.cells _ l) => if off + len ≤ l.length then strsOf ((l.drop off).take len) else none
    | _ => none
  | _ => none

theorem rowSt_win {H : AHeap} {x : AV} {a : List (List UInt8)} (h : rowSt H x = some a) : ∃ b off, (∀ (i : Nat) (wd : List (Nat × Nat)), wd[i]? = some (b, off) → winA wd (.sl i 0 a.length 1 false) x) ∧
    (match H[b]? with | some (.cells _ l) => off + (a.map AV.str).length ≤ l.length ∧ a.map AV.str = (l.drop off).take (a.map AV.str).length | none => True | _ => False) := by
  have key : ∀ (b off len : Nat) (o : Bool) (l : List AV), H[b]? = some (.cells o l) → off + len ≤ l.length → strsOf ((l.drop off).take len) = some a → len = a.length ∧ off + (a.map AV.str).length ≤ l.length ∧ a.map AV.str = (l.drop off).take (a.map AV.str).length := by
    intro b off len o l hb hle hs
    have e := strsOf_eq hs
    have hlen : len = a.length := by
      have := congrArg List.length e
      simp at this
      omega
    subst hlen
    exact ⟨rfl, by simpa using hle, by rw [List.length_map]; exact e.symm⟩
  unfold rowSt at h
  split at h
  · cases h
    exact ⟨H.length, 0, fun i wd _ => by simp [winA], by simp⟩
  · rename_i b off len c
    split at h
    rotate_left
    · cases h
    rename_i o l hb
    split at h
    rotate_left
    · cases h
    rename_i hle
    obtain ⟨rfl, h1, h2⟩ := key b off len o l hb hle h
    exact ⟨b, off, fun i wd hw => by simp [winA, hw], by rw [hb]; exact ⟨h1, h2⟩⟩
  · rename_i b off len c
    split at h
    rotate_left
    · cases h
    rename_i o l hb
    split at h
    rotate_left
    · cases h
    rename_i hle
    obtain ⟨rfl, h1, h2⟩ := key b off len o l hb hle h
    exact ⟨b, off, fun i wd hw => by simp [winA, hw], by rw [hb]; exact ⟨h1, h2⟩⟩
  · cases h

mutual
theorem shA_free (k : Nat) : ∀ x : AV, free x = true → shA k x = x
  | .top, _ | .bool _, _ | .int _ _, _ | .str _, _ | .nilp, _ | .nils, _ | .nilm, _ | .nilf, _ => rfl
  | .ptr .., h | .slice .., h | .sl .., h | .map _, h | .yld _, h => by simp [free] at h
  | .func f xs ys, h => by simp at h; simp [shAs_free k xs h.1, shAs_free k ys h.2]
  | .agg l, h => by simp at h; simp [shAs_free k l h]
  | .tuple l, h => by simp at h; simp [shAs_free k l h]
theorem shAs_free (k : Nat) : ∀ xs : List AV, frees xs = true → shAs k xs = xs
  | [], _ => rfl
  | x :: xs, h => by simp at h; simp [shA_free k x h.1, shAs_free k xs h.2]
end

@[simp] theorem shAs_ints (k : Nat) (a : List Int) : shAs k (intsA a) = intsA a := shAs_free k _ (frees_ints a)

def numbersS : Summ := readNewS fun args H => match args with
  | [.int .i64 k, x] => match rowSt H x with
    | some l => if l.length ≤ 1000000 ∧ (l.all fun s => decide (s.length ≤ 1000000)) = true then some (.sl 0 0 (numN k l).length 1 false, [.cells true (intsA (cpt (srt (numRaw k l))))]) else none
    | none => none
  | _ => none

theorem numbers_sound : Sound Tryd.prog 12 numbersS := by
  refine sound_readNew (enter_of Tryd.func12 rfl (by decide)) fun args H v N h => ?_
  split at h <;> try cases h
  rename_i k x
  split at h <;> try cases h
  rename_i l hx
  split at h <;> cases h
  rename_i hc
  obtain ⟨b1, o1, w1, g1⟩ := rowSt_win hx
  refine ct_winN (H0 := [.cells false (l.map .str)]) (args0 := [.int .i64 k, .sl 0 0 l.length 1 false]) ?_ rfl [(b1, o1)] ⟨by simp [winA], w1 0 _ rfl, trivial⟩ ⟨g1, frees_map _ _ fun _ => rfl, trivial⟩
  have := numbers_ct k l hc.1 (fun s hs => by simpa using List.all_eq_true.1 hc.2 s hs)
  simpa using this

end Go.Proofs.YtkeffhaldeedpaaDoor
