/- Rows of segments: slices.Clone, slices.Reverse. -/
import Derived.Test.YtbbgmaklmlagcaaMp
import Derived.Test.YtbbgmaklmlagcaaBw
namespace Go.Proofs.Ytbbgmaklmlagcaa
open Go
set_option maxRecDepth 100000
attribute [-simp] drawOk_eq adraw qrun acode aops

@[simp] theorem cells_sgs : ∀ l : List Sg, (sgsA l).all isCell = true
  | [] => rfl
  | s :: l => by simp [sgsA, sgA, cells_sgs l]

theorem sgs_splice (x : Sg) : ∀ (l : List Sg) (i : Nat), i < l.length → (sgsA l).take (i * 3) ++ sgA x ++ (sgsA l).drop (i * 3 + 3) = sgsA (l.set i x)
  | [], i, h => by simp at h
  | s :: l, 0, _ => by simp [sgsA, sgA]
  | s :: l, i + 1, h => by
    have := sgs_splice x l i (by simpa using h)
    rw [show (i + 1) * 3 = i * 3 + 3 by omega]
    simpa [sgsA, sgA] using this

theorem sgs_take : ∀ (l : List Sg) (n : Nat), (sgsA l).take (n * 3) = sgsA (l.take n)
  | [], n => by simp [sgsA]
  | s :: l, 0 => by simp [sgsA]
  | s :: l, n + 1 => by
    rw [show (n + 1) * 3 = n * 3 + 3 by omega]
    simp [sgsA, sgA, sgs_take l n]

theorem sgs_fst : ∀ (l : List Sg) (k : Nat) (x : Sg), l[k]? = some x → (sgsA l)[k * 3]? = some (.int .i64 x.1)
  | [], k, x, h => by simp at h
  | s :: l, 0, x, h => by simp at h; subst h; simp [sgsA, sgA]
  | s :: l, k + 1, x, h => by
    have := sgs_fst l k x (by simpa using h)
    rw [show (k + 1) * 3 = k * 3 + 3 by omega]
    simpa [sgsA, sgA] using this

theorem sgs_drop : ∀ (l : List Sg) (n : Nat), (sgsA l).drop (n * 3) = sgsA (l.drop n)
  | [], n => by simp [sgsA]
  | s :: l, 0 => by simp [sgsA]
  | s :: l, n + 1 => by
    rw [show (n + 1) * 3 = n * 3 + 3 by omega]
    simp [sgsA, sgA, sgs_drop l n]

set_option maxHeartbeats 4000000 in
theorem clone_ct (s : List Sg) (hs : s.length ≤ 1000000000) :
    Ct Try.prog 59 [.sl 0 0 s.length 3 false] [.cells false (sgsA s)] (.sl 1 0 s.length 3 false) [.cells false (sgsA s), .cells true (sgsA s)] := by
  have b1 : s.length * 24 ≤ 140737488355328 := by omega
  have b2 : s.length ≤ 9223372036854775807 := by omega
  refine ct_slN (pre := []) ?_ fun h0 => ?_
  · by_cases h0 : s = []
    · subst h0
      refine ct_runE hmix goks_nil (n := 0) Try.func59 ?_
      unfold Try.f59
      exact ⟨_, _, (by simp [sgsA]; exact ⟨rfl, rfl⟩), Weak.mk' [0, 1] (by decide) rfl (by simp) (by simp [sgsA])⟩
    · have h1 : s.length ≠ 0 := by simpa using h0
      refine ct_runE hmix goks_nil (n := 0) Try.func59 ?_
      unfold Try.f59
      exact ⟨_, _, (by simp [h0, b1, b2]; exact ⟨rfl, rfl⟩), Weak.mk' [0, 2] (by decide) rfl (by simp) (by simp)⟩
  · have h0 : s = [] := by simpa using h0
    subst h0
    refine ct_runE hmix goks_nil (n := 0) Try.func59 ?_
    unfold Try.f59
    exact ⟨_, _, (by simp [sgsA]; exact ⟨rfl, rfl⟩), Weak.mk' [0, 100] (by decide) rfl (by simp) (by simp [sgsA])⟩

/-- The row behind i exchanges. -/
def RevSt (s : List Sg) (p : Nat × List Sg) : Prop := p.2.length = s.length ∧ p.1 ≤ s.length ∧ ∀ k, k < s.length → p.2[k]? = if k < p.1 ∨ s.length ≤ k + p.1 then s[s.length - 1 - k]? else s[k]?

theorem RevSt.next {s : List Sg} {i : Nat} {l : List Sg} (h : RevSt s (i, l)) (hi : 2 * i + 1 < s.length) (a b : Sg) (ha : l[i]? = some a) (hb : l[s.length - 1 - i]? = some b) : RevSt s (i + 1, (l.set i b).set (s.length - 1 - i) a) := by
  obtain ⟨h1, h2, h3⟩ := h
  refine ⟨by simpa using h1, by dsimp only; omega, fun k hk => ?_⟩
  have ka := h3 i (by omega)
  have kb := h3 (s.length - 1 - i) (by omega)
  have kk := h3 k hk
  dsimp only at ka kb kk h1 ⊢
  rw [ha, if_neg (by omega)] at ka
  rw [hb, if_neg (by omega)] at kb
  rw [List.getElem?_set, List.getElem?_set]
  by_cases e1 : s.length - 1 - i = k
  · rw [if_pos e1, if_pos (by simp; omega), if_pos (by omega), ka]
    congr 1; omega
  · rw [if_neg e1]
    by_cases e2 : i = k
    · rw [if_pos e2, if_pos (by omega), if_pos (by omega), kb]
      congr 1; omega
    · rw [if_neg e2, kk]
      by_cases e3 : k < i ∨ s.length ≤ k + i
      · rw [if_pos e3, if_pos (by omega)]
      · rw [if_neg e3, if_neg (by omega)]

theorem RevSt.last {s : List Sg} {i : Nat} {l : List Sg} (h : RevSt s (i, l)) (hi : s.length ≤ 2 * i + 1) : l = s.reverse := by
  obtain ⟨h1, h2, h3⟩ := h
  apply List.ext_getElem?
  intro k
  dsimp only at h1 h2
  rcases Nat.lt_or_ge k s.length with hk | hk
  · rw [h3 k hk, List.getElem?_reverse hk]
    dsimp only
    split
    · rfl
    · congr 1; omega
  · rw [List.getElem?_eq_none (by omega), List.getElem?_eq_none (by simpa using hk)]

set_option maxHeartbeats 4000000 in
theorem reverse_ct (s : List Sg) (hs : s.length ≤ 1000000000) :
    Ct Try.prog 61 [.sl 0 0 s.length 3 false] [.cells true (sgsA s)] (.tuple []) [.cells true (sgsA s.reverse)] := by
  refine ct_of_sim Try.func61 rfl ?_
  simp only [Try.ntmps61, List.length_cons, List.length_nil, Nat.reduceAdd, Nat.reduceSub, List.replicate, List.cons_append, List.nil_append]
  have hw : IntKind.i64.wrap ((s.length : Int) - 1) = (s.length : Int) - 1 := wr_i64 (by omega) (by omega)
  refine Sim.step hmix goks_nil (n := 0) (by simp [hw]; exact ⟨rfl, rfl⟩) (by simp) ?_
  refine Sim.block (Sim.loopW (fun p : Nat × List Sg => RevSt s p)
    (fun p => [.sl 0 0 s.length 3 false, .top, .int .i64 p.1, .int .i64 ((s.length : Int) - 1 - p.1)] ++ List.replicate 24 .top)
    (fun p => [.cells true (sgsA p.2)]) (fun p => s.length - p.1) (0, s) (by simp) ⟨rfl, by simp, fun k hk => by simp; omega⟩ (Weak.mk' [0] (by decide) (by decide) (by simp) (by simp)) fun p hp => ?_)
  obtain ⟨i, l⟩ := p
  have hlen : l.length = s.length := hp.1
  by_cases hlt : 2 * i + 1 < s.length
  rotate_left
  · have e := hp.last (by omega)
    subst e
    have ht : ¬ ((i : Int) < (s.length : Int) - 1 - i) := by omega
    refine Sim.exec hmix goks_nil (n := 0) (by simp [ht]; exact ⟨rfl, rfl, rfl⟩) (by simp) ?_
    exact ⟨.inl rfl, _, by simp <;> rfl, Weak.mk' [0] (by decide) (by decide) (by simp) (by simp)⟩
  obtain ⟨a, ha⟩ : ∃ a, l[i]? = some a := ⟨_, List.getElem?_eq_getElem (by omega)⟩
  obtain ⟨b, hb⟩ : ∃ b, l[s.length - 1 - i]? = some b := ⟨_, List.getElem?_eq_getElem (by omega)⟩
  have hnx := hp.next hlt a b ha hb
  have g1 := sgs_get l i (by omega)
  have g2 := sgs_get l (s.length - 1 - i) (by omega)
  rw [(List.getElem?_eq_some_iff.1 ha).2] at g1
  rw [(List.getElem?_eq_some_iff.1 hb).2] at g2
  have ht : (i : Int) < (s.length : Int) - 1 - i := by omega
  have hj : (s.length : Int) - 1 - i = ((s.length - 1 - i : Nat) : Int) := by omega
  obtain ⟨j, hjj⟩ : ∃ j, s.length - 1 - i = j := ⟨_, rfl⟩
  rw [hjj] at hj g2 hb hnx
  rw [hj] at ht ⊢
  have hw1 : IntKind.i64.wrap ((i : Int) + 1) = i + 1 := wr_i64 (by omega) (by omega)
  have hw2 : IntKind.i64.wrap ((j : Int) - 1) = (j : Int) - 1 := wr_i64 (by omega) (by omega)
  have t1 : i * 3 + 3 ≤ l.length * 3 := by omega
  have t2 : j * 3 + 3 ≤ l.length * 3 := by omega
  have t3 : i < s.length := by omega
  have t4 : j < s.length := by omega
  have ht' : i < j := by omega
  have p1 := sgs_splice b l i (by omega)
  have p2 := sgs_splice a (l.set i b) j (by simp; omega)
  obtain ⟨a1, a2, a3⟩ := a
  obtain ⟨b1, b2, b3⟩ := b
  simp [sgA] at p1 p2 g1 g2
  refine Sim.step hmix goks_nil (n := 0) (by simp [ht]; exact ⟨rfl, rfl⟩) (by simp) ?_
  refine Sim.seq (Sim.block (Sim.draw hmix (by simp) ?_))
  refine SimR.many goks_nil 16 (by simp [stageOps, blankOp]; rfl) (by omega) (by kernel_rfl) (by simp (decide := true) [ht', t1, t2, t3, t4, g1, g2, p1, p2]; exact ⟨drawOkG_split (by kernel_rfl) (by simp [apartF]; omega), rfl, rfl⟩) ?_
  refine SimR.done rfl ?_
  dsimp only
  refine Sim.exec hmix goks_nil (n := 0) (by simp [hw1, hw2]; exact ⟨rfl, rfl, rfl⟩) (by simp) ?_
  exact ⟨(i + 1, (l.set i (b1, b2, b3)).set j (a1, a2, a3)), hnx, Weak.mk' [0] (by decide) (by decide) (by simp; omega) (by simp), by dsimp only; omega⟩

mutual
theorem reA_free (g : Nat → Nat) : ∀ x : AV, free x = true → reA g x = x
  | .top, _ | .bool _, _ | .int _ _, _ | .str _, _ | .nilp, _ | .nils, _ | .nilm, _ | .nilf, _ => rfl
  | .ptr .., h | .slice .., h | .sl .., h | .map _, h | .yld _, h => by simp [free] at h
  | .func f xs ys, h => by simp at h; simp [reAs_free g xs h.1, reAs_free g ys h.2]
  | .agg l, h => by simp at h; simp [reAs_free g l h]
  | .tuple l, h => by simp at h; simp [reAs_free g l h]
theorem reAs_free (g : Nat → Nat) : ∀ xs : List AV, frees xs = true → reAs g xs = xs
  | [], _ => rfl
  | x :: xs, h => by simp at h; simp [reA_free g x h.1, reAs_free g xs h.2]
end
mutual
theorem shA_free (k : Nat) : ∀ x : AV, free x = true → shA k x = x
  | .top, _ | .bool _, _ | .int _ _, _ | .str _, _ | .nilp, _ | .nils, _ | .nilm, _ | .nilf, _ => rfl
  | .ptr .., h | .slice .., h | .sl .., h | .map _, h | .yld _, h => by simp [free] at h
  | .func f xs ys, h => by simp at h; simp [shAs_free k xs h.1, shAs_free k ys h.2]
  | .agg l, h => by simp at h; simp [shAs_free k l h]
  | .tuple l, h => by simp at h; simp [shAs_free k l h]
theorem shAs_free (k : Nat) : ∀ xs : List AV, frees xs = true → shAs k xs = xs
  | [], _ => rfl
  | x :: xs, h => by simp at h; simp [shA_free k x h.1, shAs_free k xs h.2]
end

mutual
theorem below_free (n : Nat) : ∀ x : AV, free x = true → below n x = true
  | .top, _ | .bool _, _ | .int _ _, _ | .str _, _ | .nilp, _ | .nils, _ | .nilm, _ | .nilf, _ => rfl
  | .ptr .., h | .slice .., h | .sl .., h | .map _, h | .yld _, h => by simp [free] at h
  | .func f xs ys, h => by simp at h; simp [below, belows_free n xs h.1, belows_free n ys h.2]
  | .agg l, h => by simp at h; simp [below, belows_free n l h]
  | .tuple l, h => by simp at h; simp [below, belows_free n l h]
theorem belows_free (n : Nat) : ∀ xs : List AV, frees xs = true → belows n xs = true
  | [], _ => rfl
  | x :: xs, h => by simp at h; simp [belows, below_free n x h.1, belows_free n xs h.2]
end
@[simp] theorem belows_sgs (n : Nat) (l : List Sg) : belows n (sgsA l) = true := belows_free n _ (frees_sgs l)
attribute [simp] below belows belowB ownDead

@[simp] theorem reAs_sgs (g : Nat → Nat) (l : List Sg) : reAs g (sgsA l) = sgsA l := reAs_free g _ (frees_sgs l)
@[simp] theorem shAs_sgs (k : Nat) (l : List Sg) : shAs k (sgsA l) = sgsA l := shAs_free k _ (frees_sgs l)

def cloneS : Summ := readNewS fun args H => match args with
  | [x] => match rowSgs H x with
    | some a => if a.length ≤ 1000000000 then some (.sl 0 0 a.length 3 false, [.cells true (sgsA a)]) else none
    | none => none
  | _ => none

theorem clone_sound : Sound Try.prog 59 cloneS := by
  refine sound_readNew (enter_of Try.func59 rfl (by decide)) fun args H v N h => ?_
  split at h <;> try cases h
  rename_i x
  split at h <;> try cases h
  rename_i a hx
  split at h <;> cases h
  rename_i hc
  obtain ⟨b1, o1, w1, g1⟩ := rowSgs_win hx
  refine ct_winN (H0 := [.cells false (sgsA a)]) (args0 := [.sl 0 0 a.length 3 false]) ?_ rfl [(b1, o1)] ⟨w1 0 _ rfl, trivial⟩ ⟨g1, frees_sgs _, trivial⟩
  have := clone_ct a hc
  simpa using this

def reverseS : Summ := frameS fun args H => match args with
  | [.sl b 0 n 3 false] => match H[b]? with
    | some (.cells true l) => match sgsOf l with
      | some a => if n = a.length ∧ a.length ≤ 1000000000 then some ([b], [.cells true (sgsA a)], .tuple [], [.cells true (sgsA a.reverse)]) else none
      | none => none
    | _ => none
  | _ => none

theorem reverse_sound : Sound Try.prog 61 reverseS := by
  refine sound_frame (enter_of Try.func61 rfl (by decide)) fun args H em H0 v H1 h => ?_
  split at h <;> try cases h
  rename_i b n
  split at h <;> try cases h
  rename_i l hb
  split at h <;> try cases h
  rename_i a hs
  split at h <;> cases h
  rename_i hc
  obtain ⟨rfl, hc⟩ := hc
  have e := sgsOf_eq hs
  subst e
  refine ⟨_, reverse_ct a hc, by simp, by simp, ?_, by simp⟩
  simp [hb, List.getD_eq_getElem?_getD]
  exact (List.getElem?_eq_some_iff.1 hb).1

end Go.Proofs.Ytbbgmaklmlagcaa
