/- Rows of segments, and contracts on them: slices.Equal. -/
import Derived.Test.YtbbgmaklmlagcaaLa
import Derived.Test.YtbbgmaklmlagcaaLf
namespace Go.Proofs.Ytbbgmaklmlagcaa
open Go
set_option maxRecDepth 100000
attribute [-simp] drawOk_eq adraw qrun acode aops

/-- A segment: its number, entries, bytes. -/
abbrev Sg := Int × Int × Int

def sgA (s : Sg) : List AV := [.int .i64 s.1, .int .i64 s.2.1, .int .i64 s.2.2]
def sgsA : List Sg → List AV
  | [] => []
  | s :: l => sgA s ++ sgsA l

@[simp] theorem sgsA_length : ∀ l : List Sg, (sgsA l).length = l.length * 3
  | [] => rfl
  | s :: l => by simp [sgsA, sgA, sgsA_length l]; omega

@[simp] theorem frees_sgs : ∀ l : List Sg, frees (sgsA l) = true
  | [] => rfl
  | s :: l => by simp [sgsA, sgA, frees_sgs l]

theorem sgs_get : ∀ (l : List Sg) (k : Nat) (h : k < l.length), ((sgsA l).drop (k * 3)).take 3 = sgA l[k]
  | s :: l, 0, _ => by simp [sgsA, sgA]
  | s :: l, k + 1, h => by
    have := sgs_get l k (by simpa using h)
    rw [show (k + 1) * 3 = k * 3 + 3 by omega]
    simpa [sgsA, sgA] using this

set_option maxHeartbeats 4000000 in
theorem equal_ct (a b : List Sg) (ha : a.length ≤ 1000000000000) :
    Ct Try.prog 65 [.sl 0 0 a.length 3 false, .sl 1 0 b.length 3 false] [.cells false (sgsA a), .cells false (sgsA b)] (.bool (decide (a = b))) [.cells false (sgsA a), .cells false (sgsA b)] := by
  refine ct_of_sim Try.func65 rfl ?_
  simp only [Try.ntmps65, List.length_cons, List.length_nil, Nat.reduceAdd, Nat.reduceSub, List.replicate, List.cons_append, List.nil_append]
  refine Sim.step hmix goks_nil (n := 0) (by simp; exact ⟨rfl, rfl⟩) (by simp) ?_
  by_cases hl : a.length = b.length
  rotate_left
  · have e : decide (a = b) = false := by simp; rintro rfl; exact hl rfl
    rw [e]
    have hl3 : ((a.length : Int) != (b.length : Int)) = true := by simp; omega
    refine Sim.exec hmix goks_nil (n := 0) (by simp [hl3]; exact ⟨rfl, rfl, rfl⟩) (by simp) ?_
    exact ⟨.inr rfl, _, by simp; rfl, Weak.mk' [0, 1] (by decide) (by decide) (by simp) (by simp)⟩
  refine Sim.step hmix goks_nil (n := 0) (by simp [hl]; exact ⟨rfl, rfl⟩) (by simp) ?_
  refine Sim.seq (Sim.step hmix goks_nil (n := 0) (by simp; exact ⟨rfl, rfl⟩) (by simp) ?_)
  refine Sim.block (Sim.loopW (fun k : Nat => k ≤ a.length ∧ a.take k = b.take k)
    (fun k => [.sl 0 0 a.length 3 false, .sl 1 0 b.length 3 false, .top, .top, .bool false, .top, .top, .top, .top, .top, .top, .top, .int .i64 a.length, .int .i64 k] ++ List.replicate 12 .top)
    (fun _ => [.cells false (sgsA a), .cells false (sgsA b)]) (fun k => a.length - k) 0 (by simp) (by simp) (Weak.mk' [0, 1] (by decide) (by decide) (by simp [hl]) (by simp)) fun k hk => ?_)
  obtain ⟨hk, hak⟩ := hk
  by_cases hlt : k < a.length
  · have hltb : k < b.length := by omega
    have hw : IntKind.i64.wrap ((k : Int) + 1) = k + 1 := wr_i64 (by omega) (by omega)
    have g1 := sgs_get a k hlt
    have g2 := sgs_get b k hltb
    have k1 : k * 3 + 3 ≤ a.length * 3 := by omega
    have k2 : k * 3 + 3 ≤ b.length * 3 := by omega
    by_cases he : a[k] = b[k]
    · have ht : a.take (k + 1) = b.take (k + 1) := by
        rw [List.take_add_one, List.take_add_one, hak, List.getElem?_eq_getElem hlt, List.getElem?_eq_getElem hltb, he]
      refine Sim.exec hmix goks_nil (n := 0) (by simp (decide := true) [hlt, hltb, g1, g2, he, hw, k1, k2, sgA]; exact ⟨rfl, rfl, rfl⟩) (by simp) ?_
      exact ⟨k + 1, ⟨by omega, ht⟩, Weak.mk' [0, 1] (by decide) (by decide) (by simp) (by simp), by omega⟩
    · have e : decide (a = b) = false := by simp; rintro rfl; exact he rfl
      rw [e]
      obtain ⟨x, hx⟩ : ∃ x, a[k] = x := ⟨_, rfl⟩
      obtain ⟨y, hy⟩ : ∃ y, b[k] = y := ⟨_, rfl⟩
      rw [hx] at g1 he
      rw [hy] at g2 he
      have hne : (x.1 == y.1 && (x.2.1 == y.2.1 && (x.2.2 == y.2.2 && true))) = false := by
        obtain ⟨x1, x2, x3⟩ := x
        obtain ⟨y1, y2, y3⟩ := y
        simp at he ⊢
        exact he
      refine Sim.exec hmix goks_nil (n := 0) (by simp (decide := true) [hlt, hltb, g1, g2, k1, k2, sgA, -Bool.and_true, hne]; exact ⟨rfl, rfl, rfl⟩) (by simp) ?_
      exact ⟨.inr rfl, _, by simp; rfl, Weak.mk' [0, 1] (by decide) (by decide) (by simp) (by simp)⟩
  · have e : decide (a = b) = true := by
      rw [List.take_of_length_le (by omega), List.take_of_length_le (by omega)] at hak
      simpa using hak
    rw [e]
    refine Sim.exec hmix goks_nil (n := 0) (by simp [hlt]; exact ⟨rfl, rfl, rfl⟩) (by simp) ?_
    dsimp only
    rw [if_pos rfl]
    refine Sim.exec hmix goks_nil (n := 0) (by simp; exact ⟨rfl, rfl, rfl⟩) (by simp) ?_
    exact ⟨.inr rfl, _, by simp; rfl, Weak.mk' [0, 1] (by decide) (by decide) (by simp) (by simp)⟩

end Go.Proofs.Ytbbgmaklmlagcaa
