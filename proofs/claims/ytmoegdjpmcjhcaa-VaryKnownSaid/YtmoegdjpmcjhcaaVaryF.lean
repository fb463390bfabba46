/- Walks: vary.row, its iterator. -/
import Derived.Test.YtmoegdjpmcjhcaaVaryC
import Derived.Test.YtmoegdjpmcjhcaaRange
namespace Go.Proofs.Ytmoegdjpmcjhcaa
open Go.RowKit Go.Shelf
attribute [local go_sem] Oper.semAt_some

set_option maxRecDepth 100000 in
set_option maxHeartbeats 400000 in
theorem row_any (s : ByteArray) (at_ : Int) (w : World) :
    Calls Try.prog 40 #[.string s, .int .i64 at_] w fun e w' => e = .returned (.func (.func 63) #[] #[.pointer (some ⟨w.heap.size, 0, none⟩), .pointer (some ⟨w.heap.size + 1, 0, none⟩)]) ∧
      (w.alloc (.cells #[.string s] 9)).alloc (.cells #[.int .i64 at_] 3) = w' := by
  go_enter Try.func40, Try.ntmps40
  go_wp2_with fail
  go_ret
  exact ⟨rfl, rfl⟩

/-- What the iterator hands over. -/
def hadV (r : Nat × Int × Int) : Value := .agg #[.int .u64 r.1, .int .i64 r.2.1, .int .i64 r.2.2]

def intAt (w : World) (b : Nat) : Int := intOf ((w.cell? ⟨b, 0, none⟩).getD undef)

set_option maxRecDepth 100000 in
set_option maxHeartbeats 1000000 in
theorem row1_any (s : ByteArray) (hm : s.size ≤ 140737488351232) (l bs bat : Nat) (J : Nat → Int → World → Prop) (Jx : World → Prop)
    (hJ : ∀ k a W, J k a W → W.cell? ⟨bs, 0, none⟩ = some (.string s) ∧ W.cell? ⟨bat, 0, none⟩ = some (.int .i64 a) ∧ W.frozen? ⟨bat, 0, none⟩ = false)
    (hget : ∀ k a W W1, J k a W → Below W.heap.size W W1 → J k a W1)
    (hround : ∀ k a W, J k a W → YieldAt Fence.wide 5 Try.prog l #[hadV (Vy.get s.data.toList a)] W fun e W' =>
      (e = .returned (.bool true) ∧ ((Vy.get s.data.toList a).2.2 = 0 → (∃ x, W'.cell? ⟨bat, 0, none⟩ = some x) ∧ W'.frozen? ⟨bat, 0, none⟩ = false ∧ J (k + 1) (Vy.get s.data.toList a).2.1 (W'.setCell ⟨bat, 0, none⟩ (.int .i64 (Vy.get s.data.toList a).2.1))) ∧
        ((Vy.get s.data.toList a).2.2 ≠ 0 → Jx W')) ∨ (e = .returned (.bool false) ∧ Jx W'))
    (W : World) (a0 : Int) (h0 : J 0 a0 W) :
    Calls Try.prog 63 #[.func (.yield l) #[] #[], .pointer (some ⟨bs, 0, none⟩), .pointer (some ⟨bat, 0, none⟩)] W fun e W' => (∃ v, e = .returned v) ∧ Jx W' := by
  refine (callsIn_wide (n := 6)).1 ?_
  refine callsIn_of_wp Try.func63 rfl trivial ?_ rfl
  simp only [Try.ntmps63, List.size_toArray, List.length_cons, List.length_nil, Nat.reduceAdd, Nat.reduceSub, Array.replicate_succ, Array.replicate_zero, List.push_toArray, List.append_toArray, List.nil_append, List.cons_append]
  gi_wp2
  gi_loopw [5] (fun _ wr => ∃ (k : Nat) (a : Int), J k a wr) (fun _ wr => ((s.size : Int) + 1 - intAt wr bat).toNat)
  case atStart => exact ⟨0, a0, h0⟩
  case round =>
    obtain ⟨k, a, hj⟩ := hrel
    obtain ⟨c1, c2, f2⟩ := hJ k a wr hj
    gi_wp2_with fail
    refine ⟨trivial, callsIn_wide.2 ((get_any s a wr hm).mono ?_)⟩
    rintro e W1 ⟨rfl, hb1⟩
    have hj1 := hget k a wr W1 hj hb1
    obtain ⟨d1, d2, g2⟩ := hJ k a W1 hj1
    obtain ⟨fn, tmps, assign, body, hy, hR⟩ := hround k a W1 hj1
    obtain ⟨⟨n, x, e⟩, hr⟩ : ∃ r, Vy.get s.data.toList a = r := ⟨_, rfl⟩
    rw [hr] at hy hR ⊢
    have Hr := Lib.hid hr; clear hr
    unfold getR
    unfold hadV at hy
    dsimp only at hy hR ⊢
    have hlb : bat < wr.heap.size := World.block_lt_of_cell? wr _ c2
    clear hj hj1 c1 c2 f2 hround
    gi_wp2_with fail
    refine hR.mono ?_
    rintro e1 W2 (⟨rfl, ho, hx⟩ | ⟨rfl, hx⟩)
    · by_cases he : e = 0
      · subst he
        obtain ⟨⟨y, hy1⟩, hf1, hj2⟩ := ho rfl
        have hok := Vy.get_ok _ _ _ _ Hr.out
        obtain ⟨hok1, hok2, hok3⟩ := hok
        clear ho hx hR hy
        gi_wp2_with fail
        go_roundw
        case rel => exact ⟨k + 1, x, hj2⟩
        case measure =>
          have e2 : intAt wr bat = a := by unfold intAt; rw [← hb1.cell (p := ⟨bat, 0, none⟩) hlb, d2]; rfl
          have e3 : intAt (W2.setCell ⟨bat, 0, none⟩ (.int .i64 x)) bat = x := by
            unfold intAt
            rw [World.cell?_setCell_same' _ _ _ (by rw [hy1]; rfl)]
            rfl
          rw [e2, e3]
          simp at hok3
          omega
      · have hne : (e != 0) = true := by simp [he]
        clear ho hR hy
        gi_wp2_with fail
        refine bodyPost_ret (results_none rfl _ _ _) rfl ?_
        exact ⟨⟨_, rfl⟩, hx he⟩
    · clear hR hy
      gi_wp2_with fail
      refine bodyPost_ret (results_none rfl _ _ _) rfl ?_
      exact ⟨⟨_, rfl⟩, hx⟩
end Go.Proofs.Ytmoegdjpmcjhcaa
