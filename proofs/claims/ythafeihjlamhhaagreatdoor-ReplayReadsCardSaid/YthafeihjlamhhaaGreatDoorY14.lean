/- Parts of the proof of ReplayReads: lemmas, each with its own conditions. -/
import Derived.Test.YthafeihjlamhhaaGreatDoorY9
import Derived.Test.YthafeihjlamhhaaGreatDoorY6
namespace Go.Proofs.YthafeihjlamhhaaGreatDoor
open Go
set_option maxRecDepth 100000
attribute [-simp] drawOk_eq adraw qrun acode aops
mutual
theorem shA_freeE (k : Nat) : ∀ x : AV, free x = true → shA k x = x
  | .top, _ | .bool _, _ | .int _ _, _ | .str _, _ | .nilp, _ | .nils, _ | .nilm, _ | .nilf, _ => rfl
  | .ptr .., h | .slice .., h | .sl .., h | .map _, h | .yld _, h => by simp [free] at h
  | .func f xs ys, h => by simp at h; simp [shAs_freeE k xs h.1, shAs_freeE k ys h.2]
  | .agg l, h => by simp at h; simp [shAs_freeE k l h]
  | .tuple l, h => by simp at h; simp [shAs_freeE k l h]
theorem shAs_freeE (k : Nat) : ∀ xs : List AV, frees xs = true → shAs k xs = xs
  | [], _ => rfl
  | x :: xs, h => by simp at h; simp [shA_freeE k x h.1, shAs_freeE k xs h.2]
end
@[simp] theorem shAs_ens (k : Nat) (l : List En) : shAs k (ensA l) = ensA l := shAs_freeE k _ (frees_ens l)
end Go.Proofs.YthafeihjlamhhaaGreatDoor
namespace Go.Proofs.YthafeihjlamhhaaGreatDoor
open Go
set_option maxRecDepth 100000
attribute [-simp] drawOk_eq adraw qrun acode aops
theorem en_beq (x y : En) : (x.1 == y.1 && (x.2.1 == y.2.1 && (x.2.2 == y.2.2 && true))) = decide (x = y) := by
  obtain ⟨a, b, c⟩ := x
  obtain ⟨a', b', c'⟩ := y
  rw [Bool.eq_iff_iff]
  simp
set_option maxHeartbeats 8000000 in
theorem same_ct_Ez (a b : List En) (ha : a.length ≤ 1000000000000) :
    Ct Tryz.prog 46 [.sl 0 0 a.length 3 false, .sl 1 0 b.length 3 false] [.cells false (ensA a), .cells false (ensA b)] (.bool (decide (a = b))) [.cells false (ensA a), .cells false (ensA b)] := by
  refine ct_of_sim Tryz.func46 rfl ?_
  simp only [Tryz.ntmps46, List.length_cons, List.length_nil, Nat.reduceAdd, Nat.reduceSub, List.replicate, List.cons_append, List.nil_append]
  refine Sim.step hmix goks_nil (n := 0) (by simp; exact ⟨rfl, rfl⟩) (by simp) ?_
  by_cases hl : a.length = b.length
  rotate_left
  · have e : decide (a = b) = false := by simp; rintro rfl; exact hl rfl
    rw [e]
    have hl3 : ((a.length : Int) != (b.length : Int)) = true := by simp; omega
    refine Sim.exec hmix goks_nil (n := 0) (by simp [hl3]; exact ⟨rfl, rfl, rfl⟩) (by simp) ?_
    exact ⟨.inr rfl, _, by simp; rfl, Weak.mk' [0, 1] (by decide) (by decide) (by simp) (by simp)⟩
  refine Sim.step hmix goks_nil (n := 0) (by simp [hl]; exact ⟨rfl, rfl⟩) (by simp) ?_
  refine Sim.seq (Sim.step hmix goks_nil (n := 0) (by simp; exact ⟨rfl, rfl⟩) (by simp) ?_)
  refine Sim.block (Sim.loopW (fun k : Nat => k ≤ a.length ∧ a.take k = b.take k)
    (fun k => [.sl 0 0 a.length 3 false, .sl 1 0 b.length 3 false, .top, .top, .bool false, .int .i64 k] ++ List.replicate 20 .top)
    (fun _ => [.cells false (ensA a), .cells false (ensA b)]) (fun k => a.length - k) 0 (by simp) (by simp) (Weak.mk' [0, 1] (by decide) (by decide) (by simp [hl]) (by simp)) fun k hk => ?_)
  obtain ⟨hk, hak⟩ := hk
  by_cases hlt : k < a.length
  · have hltb : k < b.length := by omega
    have hlti : (k : Int) < a.length := by omega
    have hw : IntKind.i64.wrap ((k : Int) + 1) = k + 1 := wr_i64 (by omega) (by omega)
    have g1 := ens_get a k hlt
    have g2 := ens_get b k hltb
    have k1 : k * 3 + 3 ≤ a.length * 3 := by omega
    have k2 : k * 3 + 3 ≤ b.length * 3 := by omega
    obtain ⟨x, hx⟩ : ∃ x, a[k] = x := ⟨_, rfl⟩
    obtain ⟨y, hy⟩ : ∃ y, b[k] = y := ⟨_, rfl⟩
    rw [hx] at g1
    rw [hy] at g2
    have hq := en_beq x y
    by_cases he : x = y
    · have ht : a.take (k + 1) = b.take (k + 1) := by
        rw [List.take_add_one, List.take_add_one, hak, List.getElem?_eq_getElem hlt, List.getElem?_eq_getElem hltb, hx, hy, he]
      subst he
      refine Sim.exec hmix goks_nil (n := 0) (by simp (decide := true) [hlti, hltb, g1, g2, hw, k1, k2, enA]; exact ⟨rfl, rfl, rfl⟩) (by simp) ?_
      exact ⟨k + 1, ⟨by omega, ht⟩, Weak.mk' [0, 1] (by decide) (by decide) (by simp) (by simp), by omega⟩
    · have e : decide (a = b) = false := by
        simp; rintro rfl; apply he; rw [← hx, ← hy]
      rw [e]
      have hf : decide (x = y) = false := by simpa using he
      rw [hf] at hq
      refine Sim.exec hmix goks_nil (n := 0) (by simp (decide := true) [hlti, hltb, g1, g2, k1, k2, enA, -Bool.and_true, hq]; exact ⟨rfl, rfl, rfl⟩) (by simp) ?_
      exact ⟨.inr rfl, _, by simp; rfl, Weak.mk' [0, 1] (by decide) (by decide) (by simp) (by simp)⟩
  · have e : decide (a = b) = true := by
      rw [List.take_of_length_le (by omega), List.take_of_length_le (by omega)] at hak
      simpa using hak
    have hlti : ¬ (k : Int) < a.length := by omega
    rw [e]
    refine Sim.exec hmix goks_nil (n := 0) (by simp [hlti]; exact ⟨rfl, rfl, rfl⟩) (by simp) ?_
    dsimp only
    rw [if_pos rfl]
    refine Sim.exec hmix goks_nil (n := 0) (by simp; exact ⟨rfl, rfl, rfl⟩) (by simp) ?_
    exact ⟨.inr rfl, _, by simp; rfl, Weak.mk' [0, 1] (by decide) (by decide) (by simp) (by simp)⟩
def sameS_Ez : Summ := readS fun args H => match args with
  | [x, y] => match rowEns H x, rowEns H y with
    | some a, some b => if a.length ≤ 1000000000000 then some (.bool (decide (a = b))) else none
    | _, _ => none
  | _ => none
theorem same_sound_Ez : Sound Tryz.prog 46 sameS_Ez := by
  refine sound_read (enter_of Tryz.func46 rfl (by decide)) fun args H v h => ?_
  split at h <;> try cases h
  rename_i x y
  split at h <;> try cases h
  rename_i a b hx hy
  split at h <;> cases h
  rename_i hc
  obtain ⟨b1, o1, w1, g1⟩ := rowEns_win hx
  obtain ⟨b2, o2, w2, g2⟩ := rowEns_win hy
  refine ct_win (same_ct_Ez a b hc) rfl [(b1, o1), (b2, o2)] ?_ ?_
  · exact ⟨w1 0 _ rfl, w2 1 _ rfl, trivial⟩
  · exact ⟨g1, frees_ens _, g2, frees_ens _, trivial⟩
end Go.Proofs.YthafeihjlamhhaaGreatDoor
namespace Go.Proofs.YthafeihjlamhhaaGreatDoor
open Go
end Go.Proofs.YthafeihjlamhhaaGreatDoor
namespace Go.Proofs.YthafeihjlamhhaaGreatDoor
open Go
set_option maxRecDepth 100000
attribute [-simp] drawOk_eq adraw qrun acode aops
theorem rowEns_at {H : AHeap} {b : Nat} {o : Bool} {es : List En} (h : H[b]? = some (.cells o (ensA es))) : rowEns H (.sl b 0 es.length 3 false) = some es := by
  simp [rowEns, h, ensA_length]
theorem at_tail (X T : AHeap) (k : Nat) : (X ++ T)[X.length + k]? = T[k]? := by
  rw [List.getElem?_append_right (by omega)]; simp
theorem rowEns_tail {A T : AHeap} {N : Nat} (hA : A.length = N) (k : Nat) {o : Bool} {es : List En} (h : T[k]? = some (.cells o (ensA es))) : rowEns (A ++ T) (.sl (N + k) 0 es.length 3 false) = some es :=
  rowEns_at (o := o) (by rw [← hA, at_tail, h])
theorem sameS_at {H : AHeap} {x y : AV} {a b : List En} (hx : rowEns H x = some a) (hy : rowEns H y = some b) (hl : a.length ≤ 1000000000000) : sameS_Ez [x, y] H = some (.bool (decide (a = b)), H, []) := by
  simp [sameS_Ez, readS, hx, hy, hl]
end Go.Proofs.YthafeihjlamhhaaGreatDoor
