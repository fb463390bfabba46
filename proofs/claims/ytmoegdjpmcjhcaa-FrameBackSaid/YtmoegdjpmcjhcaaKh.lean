/- Contracts: the document's Same. -/
import Derived.Test.YtmoegdjpmcjhcaaKg
namespace Go.Proofs.Ytmoegdjpmcjhcaa
open Go
set_option maxRecDepth 100000

set_option maxHeartbeats 4000000 in
theorem same_ct (a b : List (List UInt8)) (ha : a.length ≤ 1000000000000) :
    Ct Try.prog 32 [.slice 0 0 a.length 1 false, .slice 1 0 b.length 1 false] [.cells false (a.map .str), .cells false (b.map .str)] (.bool (decide (a = b))) [.cells false (a.map .str), .cells false (b.map .str)] := by
  have fa : frees (a.map AV.str) = true := frees_map _ _ fun _ => rfl
  have fb : frees (b.map AV.str) = true := frees_map _ _ fun _ => rfl
  refine ct_of_sim Try.func32 rfl ?_
  simp only [Try.ntmps32, List.length_cons, List.length_nil, Nat.reduceAdd, Nat.reduceSub, List.replicate, List.cons_append, List.nil_append]
  refine Sim.step hmix goks_nil (n := 0) (by simp; exact ⟨rfl, rfl⟩) (by simp) ?_
  by_cases hl : a.length = b.length
  rotate_left
  · have e : decide (a = b) = false := by simp; rintro rfl; exact hl rfl
    rw [e]
    have hl2 : ((a.length : Int) == (b.length : Int)) = false := by simp; omega
    have hl3 : ((a.length : Int) != (b.length : Int)) = true := by simp; omega
    refine Sim.exec hmix goks_nil (n := 0) (by simp [hl3]; exact ⟨rfl, rfl, rfl⟩) (by simp) ?_
    exact ⟨.inr rfl, _, by simp; rfl, Weak.mk' [0, 1] (by decide) (by decide) (by simp) (by simp [fa, fb])⟩
  have hl3 : ((a.length : Int) != (b.length : Int)) = false := by simp; omega
  refine Sim.step hmix goks_nil (n := 0) (by simp [hl]; exact ⟨rfl, rfl⟩) (by simp) ?_
  have hwr : ∀ k : Nat, k < a.length → IntKind.i64.wrap ((k : Int) + 1) = k + 1 := fun k hk => wr_i64 (by omega) (by omega)
  refine Sim.seq (Sim.step hmix goks_nil (n := 0) (by simp; exact ⟨rfl, rfl⟩) (by simp) ?_)
  refine Sim.block (Sim.loopW (fun k : Nat => k ≤ a.length ∧ a.take k = b.take k)
    (fun k => [.slice 0 0 a.length 1 false, .slice 1 0 b.length 1 false, .top, .top, .bool false, .int .i64 k] ++ List.replicate 20 .top)
    (fun _ => [.cells false (a.map .str), .cells false (b.map .str)]) (fun k => a.length - k) 0 (by simp) (by simp) (Weak.mk' [0, 1] (by decide) (by decide) (by simp [hl]) (by simp [fa, fb])) fun k hk => ?_)
  obtain ⟨hk, hak⟩ := hk
  by_cases hlt : k < a.length
  · have hltb : k < b.length := by omega
    have g1 : (a.map AV.str)[k]? = some (.str a[k]) := by rw [List.getElem?_map, List.getElem?_eq_getElem hlt]; rfl
    have g2 : (b.map AV.str)[k]? = some (.str b[k]) := by rw [List.getElem?_map, List.getElem?_eq_getElem hltb]; rfl
    have hw := hwr k hlt
    by_cases he : a[k] = b[k]
    · have ht : a.take (k + 1) = b.take (k + 1) := by
        rw [List.take_add_one, List.take_add_one, hak, List.getElem?_eq_getElem hlt, List.getElem?_eq_getElem hltb, he]
      refine Sim.exec hmix goks_nil (n := 0) (by simp (decide := true) [hlt, hltb, he, hw]; exact ⟨rfl, rfl, rfl⟩) (by simp) ?_
      exact ⟨k + 1, ⟨by omega, ht⟩, Weak.mk' [0, 1] (by decide) (by decide) (by simp) (by simp [fa, fb]), by omega⟩
    · have e : decide (a = b) = false := by simp; rintro rfl; exact he rfl
      rw [e]
      refine Sim.exec hmix goks_nil (n := 0) (by simp (decide := true) [hlt, hltb, he]; exact ⟨rfl, rfl, rfl⟩) (by simp) ?_
      exact ⟨.inr rfl, _, by simp; rfl, Weak.mk' [0, 1] (by decide) (by decide) (by simp) (by simp [fa, fb])⟩
  · have e : decide (a = b) = true := by
      rw [List.take_of_length_le (by omega), List.take_of_length_le (by omega)] at hak
      simpa using hak
    rw [e]
    refine Sim.exec hmix goks_nil (n := 0) (by simp [hlt]; exact ⟨rfl, rfl, rfl⟩) (by simp) ?_
    dsimp only
    rw [if_pos rfl]
    refine Sim.exec hmix goks_nil (n := 0) (by simp; exact ⟨rfl, rfl, rfl⟩) (by simp) ?_
    exact ⟨.inr rfl, _, by simp; rfl, Weak.mk' [0, 1] (by decide) (by decide) (by simp) (by simp [fa, fb])⟩

theorem same_nn : Ct Try.prog 32 [.nils, .nils] [] (.bool true) [] := by
  refine ct_val hmix goks_nil (n := 1) Try.func32 ?_ (by simp)
  unfold Try.f32
  simp (decide := true)

theorem same_nl (b : List (List UInt8)) : Ct Try.prog 32 [.nils, .slice 0 0 b.length 1 false] [.cells false (b.map .str)] (.bool (decide ([] = b))) [.cells false (b.map .str)] := by
  have fb : frees (b.map AV.str) = true := frees_map _ _ fun _ => rfl
  refine ct_run hmix goks_nil (n := 1) Try.func32 (v1 := .bool (decide ([] = b))) (H1 := [.cells false (b.map .str)]) ?_ (Weak.mk' [0] (by decide) rfl (by simp) (by simp [fb]))
  unfold Try.f32
  cases b with
  | nil => simp (decide := true)
  | cons z b =>
    have h1 : ((0 : Int) == (b.length : Int) + 1) = false := by simp; omega
    have h2 : ((0 : Int) != (b.length : Int) + 1) = true := by simp; omega
    have h3 : ¬ (0 : Int) = (b.length : Int) + 1 := by omega
    simp [h2]

theorem same_ln (a : List (List UInt8)) : Ct Try.prog 32 [.slice 0 0 a.length 1 false, .nils] [.cells false (a.map .str)] (.bool (decide (a = []))) [.cells false (a.map .str)] := by
  have fb : frees (a.map AV.str) = true := frees_map _ _ fun _ => rfl
  refine ct_run hmix goks_nil (n := 1) Try.func32 (v1 := .bool (decide (a = []))) (H1 := [.cells false (a.map .str)]) ?_ (Weak.mk' [0] (by decide) rfl (by simp) (by simp [fb]))
  unfold Try.f32
  cases a with
  | nil => simp (decide := true)
  | cons z b =>
    have h1 : ((b.length : Int) + 1 == 0) = false := by simp; omega
    have h2 : ((b.length : Int) + 1 != 0) = true := by simp; omega
    have h3 : ¬ (b.length : Int) + 1 = 0 := by omega
    simp [h2]

/-- The texts of a row. -/
def textsA (H : AHeap) : AV → Option (List (List UInt8))
  | .nils => some []
  | .slice b off len 1 _ => match H[b]? with
    | some (.cells _ l) => if off + len ≤ l.length then strsOf ((l.drop off).take len) else none
    | _ => none
  | _ => none

def sameS : Summ := readS fun args H => match args with
  | [x, y] => match textsA H x, textsA H y with
    | some a, some b => if a.length ≤ 1000000000000 then some (.bool (decide (a = b))) else none
    | _, _ => none
  | _ => none

theorem textsA_slice {H : AHeap} {x : AV} {a : List (List UInt8)} (h : textsA H x = some a) : (x = .nils ∧ a = []) ∨ ∃ b off c o l, x = .slice b off a.length 1 c ∧ H[b]? = some (.cells o l) ∧ off + a.length ≤ l.length ∧ a.map AV.str = (l.drop off).take a.length := by
  unfold textsA at h
  split at h
  · cases h; exact .inl ⟨rfl, rfl⟩
  · rename_i b off len c
    split at h
    · rename_i o l hb
      split at h
      · rename_i hle
        have e := strsOf_eq h
        have hlen : a.length = len := by have := congrArg List.length e; simp at this; omega
        subst hlen
        exact .inr ⟨b, off, c, o, l, rfl, hb, hle, e.symm⟩
      · cases h
    · cases h
  · cases h

theorem same_sound : Sound Try.prog 32 sameS := by
  refine sound_read (enter_of Try.func32 rfl (by decide)) fun args H v h => ?_
  split at h <;> try cases h
  rename_i x y
  split at h <;> try cases h
  rename_i a b hx hy
  split at h <;> cases h
  rename_i hc
  have fr : ∀ l : List (List UInt8), frees (l.map AV.str) = true := fun l => frees_map _ _ fun _ => rfl
  rcases textsA_slice hx with ⟨rfl, rfl⟩ | ⟨b1, o1, c1, w1, l1, rfl, hb1, hl1, he1⟩ <;> rcases textsA_slice hy with ⟨rfl, rfl⟩ | ⟨b2, o2, c2, w2, l2, rfl, hb2, hl2, he2⟩
  · exact ct_win same_nn rfl [] (by simp) (by simp [winH])
  · exact ct_win (same_nl b) rfl [(b2, o2)] (by simp) (by simp only [winH, hb2]; exact ⟨⟨by simp; exact hl2, by rw [List.length_map]; exact he2⟩, fr _, trivial⟩)
  · exact ct_win (same_ln a) rfl [(b1, o1)] (by simp) (by simp only [winH, hb1]; exact ⟨⟨by simp; exact hl1, by rw [List.length_map]; exact he1⟩, fr _, trivial⟩)
  · exact ct_win (same_ct a b hc) rfl [(b1, o1), (b2, o2)] (by simp) (by simp only [winH, hb1, hb2]; exact ⟨⟨by simp; exact hl1, by rw [List.length_map]; exact he1⟩, fr _, ⟨by simp; exact hl2, by rw [List.length_map]; exact he2⟩, fr _, trivial⟩)

end Go.Proofs.Ytmoegdjpmcjhcaa
