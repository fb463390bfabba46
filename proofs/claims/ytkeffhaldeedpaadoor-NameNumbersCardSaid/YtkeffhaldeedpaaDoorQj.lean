/- Names: are two rows of numbers alike? -/
import Derived.Test.YtkeffhaldeedpaaDoorQi
namespace Go.Proofs.YtkeffhaldeedpaaDoor
open Go Go.Lib
set_option maxRecDepth 100000
attribute [-simp] drawOk_eq adraw qrun acode aops

set_option maxHeartbeats 8000000 in
theorem ints_ct (a b : List Int) (ha : a.length ≤ 1000000000000) :
    Ct Tryd.prog 11 [.sl 0 0 a.length 1 false, .sl 1 0 b.length 1 false] [.cells false (intsA a), .cells false (intsA b)] (.bool (decide (a = b))) [.cells false (intsA a), .cells false (intsA b)] := by
  refine ct_of_sim Tryd.func11 rfl ?_
  simp only [Tryd.ntmps11, List.length_cons, List.length_nil, Nat.reduceAdd, Nat.reduceSub, List.replicate, List.cons_append, List.nil_append]
  refine Sim.step hmix goks_nil (n := 0) (by simp; exact ⟨rfl, rfl⟩) (by simp) ?_
  by_cases hl : a.length = b.length
  rotate_left
  · have e : decide (a = b) = false := by simp; rintro rfl; exact hl rfl
    rw [e]
    have hl3 : ((a.length : Int) != (b.length : Int)) = true := by simp; omega
    refine Sim.exec hmix goks_nil (n := 0) (by simp [hl3]; exact ⟨rfl, rfl, rfl⟩) (by simp) ?_
    exact ⟨.inr rfl, _, by simp; rfl, Weak.mk' [0, 1] (by decide) (by decide) (by simp) (by simp [frees_ints])⟩
  refine Sim.step hmix goks_nil (n := 0) (by simp [hl]; exact ⟨rfl, rfl⟩) (by simp) ?_
  refine Sim.seq (Sim.step hmix goks_nil (n := 0) (by simp; exact ⟨rfl, rfl⟩) (by simp) ?_)
  refine Sim.block (Sim.loopW (fun k : Nat => k ≤ a.length ∧ a.take k = b.take k)
    (fun k => [.sl 0 0 a.length 1 false, .sl 1 0 b.length 1 false, .top, .top, .bool false, .int .i64 k] ++ List.replicate 20 .top)
    (fun _ => [.cells false (intsA a), .cells false (intsA b)]) (fun k => a.length - k) 0 (by simp) (by simp) (Weak.mk' [0, 1] (by decide) (by decide) (by simp [hl]) (by simp [frees_ints])) fun k hk => ?_)
  obtain ⟨hk, hak⟩ := hk
  by_cases hlt : k < a.length
  · have hltb : k < b.length := by omega
    have hlti : (k : Int) < a.length := by omega
    have hw : IntKind.i64.wrap ((k : Int) + 1) = k + 1 := wr_i64 (by omega) (by omega)
    obtain ⟨x, hx⟩ : ∃ x, a[k] = x := ⟨_, rfl⟩
    obtain ⟨y, hy⟩ : ∃ y, b[k] = y := ⟨_, rfl⟩
    obtain ⟨g1, g2⟩ := ints_get (show a[k]? = some x by rw [List.getElem?_eq_getElem hlt, hx])
    obtain ⟨g3, g4⟩ := ints_get (show b[k]? = some y by rw [List.getElem?_eq_getElem hltb, hy])
    by_cases he : x = y
    · have ht : a.take (k + 1) = b.take (k + 1) := by
        rw [List.take_add_one, List.take_add_one, hak, List.getElem?_eq_getElem hlt, List.getElem?_eq_getElem hltb, hx, hy, he]
      subst he
      refine Sim.exec hmix goks_nil (n := 0) (by simp (decide := true) [hlt, hlti, hltb, g1, g3, hw]; exact ⟨rfl, rfl, rfl⟩) (by simp) ?_
      exact ⟨k + 1, ⟨by omega, ht⟩, Weak.mk' [0, 1] (by decide) (by decide) (by simp) (by simp [frees_ints]), by omega⟩
    · have e : decide (a = b) = false := by
        simp; rintro rfl; apply he; rw [← hx, ← hy]
      rw [e]
      have hf : (x != y) = true := by simpa using he
      refine Sim.exec hmix goks_nil (n := 0) (by simp (decide := true) [hlt, hlti, hltb, g1, g3, hf]; exact ⟨rfl, rfl, rfl⟩) (by simp) ?_
      exact ⟨.inr rfl, _, by simp; rfl, Weak.mk' [0, 1] (by decide) (by decide) (by simp) (by simp [frees_ints])⟩
  · have e : decide (a = b) = true := by
      rw [List.take_of_length_le (by omega), List.take_of_length_le (by omega)] at hak
      simpa using hak
    have hlti : ¬ (k : Int) < a.length := by omega
    rw [e]
    refine Sim.exec hmix goks_nil (n := 0) (by simp [hlti]; exact ⟨rfl, rfl, rfl⟩) (by simp) ?_
    dsimp only
    rw [if_pos rfl]
    refine Sim.exec hmix goks_nil (n := 0) (by simp; exact ⟨rfl, rfl, rfl⟩) (by simp) ?_
    exact ⟨.inr rfl, _, by simp; rfl, Weak.mk' [0, 1] (by decide) (by decide) (by simp) (by simp [frees_ints])⟩

/-- The numbers of a row. -/
def rowI (H : AHeap) : AV → Option (List Int)
  | .nils => some []
  | .slice b off len 1 _ => match H[b]? with
    | some (.cells _ l) => if off + len ≤ l.length then intsOf ((l.drop off).take len) else none
    | _ => none
  | .sl b off len 1 _ => match H[b]? with
    | some (.cells _ l) => if off + len ≤ l.length then intsOf ((l.drop off).take len) else none
    | _ => none
  | _ => none

theorem rowI_win {H : AHeap} {x : AV} {a : List Int} (h : rowI H x = some a) : ∃ b off, (∀ (i : Nat) (wd : List (Nat × Nat)), wd[i]? = some (b, off) → winA wd (.sl i 0 a.length 1 false) x) ∧
    (match H[b]? with | some (.cells _ l) => off + (intsA a).length ≤ l.length ∧ intsA a = (l.drop off).take (intsA a).length | none => True | _ => False) := by
  have key : ∀ (b off len : Nat) (o : Bool) (l : List AV), H[b]? = some (.cells o l) → off + len ≤ l.length → intsOf ((l.drop off).take len) = some a → len = a.length ∧ off + (intsA a).length ≤ l.length ∧ intsA a = (l.drop off).take (intsA a).length := by
    intro b off len o l hb hle hs
    have e := intsOf_eq hs
    have hlen : len = a.length := by
      have := congrArg List.length e
      simp at this
      omega
    subst hlen
    exact ⟨rfl, by simpa using hle, by rw [intsA_length]; exact e.symm⟩
  unfold rowI at h
  split at h
  · cases h
    exact ⟨H.length, 0, fun i wd _ => by simp [winA], by simp⟩
  · rename_i b off len c
    split at h
    rotate_left
    · cases h
    rename_i o l hb
    split at h
    rotate_left
    · cases h
    rename_i hle
    obtain ⟨rfl, h1, h2⟩ := key b off len o l hb hle h
    exact ⟨b, off, fun i wd hw => by simp [winA, hw], by rw [hb]; exact ⟨h1, h2⟩⟩
  · rename_i b off len c
    split at h
    rotate_left
    · cases h
    rename_i o l hb
    split at h
    rotate_left
    · cases h
    rename_i hle
    obtain ⟨rfl, h1, h2⟩ := key b off len o l hb hle h
    exact ⟨b, off, fun i wd hw => by simp [winA, hw], by rw [hb]; exact ⟨h1, h2⟩⟩
  · cases h

def intsS : Summ := readS fun args H => match args with
  | [x, y] => match rowI H x, rowI H y with
    | some a, some b => if a.length ≤ 1000000000000 then some (.bool (decide (a = b))) else none
    | _, _ => none
  | _ => none

theorem ints_sound : Sound Tryd.prog 11 intsS := by
  refine sound_read (enter_of Tryd.func11 rfl (by decide)) fun args H v h => ?_
  split at h <;> try cases h
  rename_i x y
  split at h <;> try cases h
  rename_i a b hx hy
  split at h <;> cases h
  rename_i hc
  obtain ⟨b1, o1, w1, g1⟩ := rowI_win hx
  obtain ⟨b2, o2, w2, g2⟩ := rowI_win hy
  refine ct_win (ints_ct a b hc) rfl [(b1, o1), (b2, o2)] ?_ ?_
  · exact ⟨w1 0 _ rfl, w2 1 _ rfl, trivial⟩
  · exact ⟨g1, frees_ints _, g2, frees_ints _, trivial⟩

end Go.Proofs.YtkeffhaldeedpaaDoor
