/- Walk: cedillalaw03.FrameReads. -/
import Derived.Test.YtmoegdjpmcjhcaaKn
import Derived.Test.YtmoegdjpmcjhcaaBr
namespace Go.Proofs.Ytmoegdjpmcjhcaa
open Go
set_option maxRecDepth 100000
attribute [-simp] drawOk_eq adraw qrun acode aops

@[simp] theorem take_bytesA (s : List UInt8) (n : Nat) : (bytesA s).take n = bytesA (s.take n) := by simp [bytesA, List.map_take]
@[simp] theorem drop_bytesA (s : List UInt8) (n : Nat) : (bytesA s).drop n = bytesA (s.drop n) := by simp [bytesA, List.map_drop]
theorem get_bytesA (s : List UInt8) (i : Nat) (h : i < s.length) : (bytesA s)[i]? = some (.int .u8 (s[i].toNat : Int)) := by
  unfold bytesA
  rw [List.getElem?_map, List.getElem?_eq_getElem h]
  rfl

@[simp] theorem getElem_bytesA (s : List UInt8) (i : Nat) (h : i < (bytesA s).length) : (bytesA s)[i] = .int .u8 ((s[i]'(by simpa using h)).toNat : Int) := by simp [bytesA]

/-- A remainder. -/
theorem rem_nat (a : Int) (n : Nat) (h0 : 0 ≤ a) (hn : 0 < n) (z : Int) (hz : z = n) : ∃ i : Nat, a.tmod z = i ∧ i < n := by
  subst hz
  refine ⟨(a % (n : Int)).toNat, ?_, ?_⟩
  · rw [tmod_nn h0]
    have := Int.emod_nonneg a (show (n : Int) ≠ 0 by omega)
    omega
  · have := Int.emod_lt_of_pos a (show 0 < (n : Int) by omega)
    have := Int.emod_nonneg a (show (n : Int) ≠ 0 by omega)
    omega

set_option maxHeartbeats 8000000 in
theorem reads_law (raw : List UInt8) (ss : List (List UInt8)) (x : AV) (hx : ∀ H', textsA (.cells false (ss.map AV.str) :: H') x = some ss) (at_ cut by_ place : Int) (h0 : 0 ≤ at_) (h1 : at_ ≤ 65535) (c0 : 0 ≤ cut) (c1 : cut ≤ 65535) :
    ∃ H', Ct Try.prog 8 [.str raw, x, .agg [.int .u16 at_, .int .u16 cut, .int .u8 by_, .int .i64 place]] [.cells false (ss.map AV.str)] (.bool true) H' := by
  have hΓ := goks_cons works_sound (goks_cons fput_sound (goks_cons rfput_sound (goks_cons fsize_sound (goks_cons made_sound (goks_cons alike_sound goks_nil)))))
  refine ⟨[.cells false (ss.map AV.str)], ?_⟩
  have fl : frees (ss.map AV.str) = true := frees_map _ _ fun _ => rfl
  refine ct_of_sim Try.func8 rfl ?_
  simp only [Try.ntmps8, List.length_cons, List.length_nil, Nat.reduceAdd, Nat.reduceSub, List.replicate, List.cons_append, List.nil_append]
  obtain ⟨m1, e1, l1, k1, _⟩ := cut_len raw 310 310 rfl
  refine Sim.step hmix hΓ (n := 0) (by simp; exact ⟨rfl, rfl⟩) (by simp) ?_
  obtain ⟨r, hr⟩ : ∃ x, raw.take m1 = x := ⟨_, rfl⟩
  have lr : r.length ≤ 310 := by rw [← hr]; simp; omega
  refine Sim.step hmix hΓ (n := 0) (by simp [e1, k1, hr]; exact ⟨rfl, rfl⟩) (by simp) ?_
  have p1 : r.length ≤ 1000000000 := by omega
  have lf := Fr.put_le r
  obtain ⟨⟨f, fe⟩, hf⟩ : ∃ x, Fr.put r = x := ⟨_, rfl⟩
  rw [hf] at lf
  dsimp only at lf
  refine Sim.step hmix hΓ (n := 0) (by simp [fputS, p1, hf]; exact ⟨rfl, rfl⟩) (by simp) ?_
  refine Sim.step hmix hΓ (n := 0) (by simp [fputS, p1, hf]; exact ⟨rfl, rfl⟩) (by simp) ?_
  refine Sim.step hmix hΓ (n := 0) (by simp (maxSteps := 1000000) [fsizeS, p1, hf]; exact ⟨rfl, rfl⟩) (by simp) ?_
  have ls := Fr.made_le ss
  refine Sim.step hmix hΓ (n := 0) (by simp [madeS, hx]; exact ⟨rfl, rfl⟩) (by simp) ?_
  obtain ⟨s, hs⟩ : ∃ x, Fr.made ss = x := ⟨_, rfl⟩
  rw [hs] at ls ⊢
  have p2 : s.length ≤ 9223372036854775807 := by omega
  refine Sim.step hmix hΓ (n := 0) (by simp [p2]; exact ⟨rfl, rfl⟩) (by simp) ?_
  have w0 : IntKind.i64.wrap at_ = at_ := wr_i64 (by omega) (by omega)
  have w0c : IntKind.i64.wrap cut = cut := wr_i64 (by omega) (by omega)
  obtain ⟨m, hm, lm⟩ := rem_nat at_ (s.length + 3) h0 (by omega) ((s.length : Int) + 3) (by omega)
  obtain ⟨c, hc, lc⟩ := rem_nat cut (s.length + 1) c0 (by omega) ((s.length : Int) + 1) (by omega)
  obtain ⟨k5, hk5, lk5⟩ := rem_nat at_ 5 h0 (by omega) 5 rfl
  have w1 : IntKind.i64.wrap ((s.length : Int) + 3) = (s.length : Int) + 3 := wr_i64 (by omega) (by omega)
  have w2 : IntKind.i64.wrap ((s.length : Int) + 1) = (s.length : Int) + 1 := wr_i64 (by omega) (by omega)
  have w3 : IntKind.i64.wrap (m : Int) = m := wr_i64 (by omega) (by omega)
  have w4 : IntKind.i64.wrap ((m : Int) - 1) = (m : Int) - 1 := wr_i64 (by omega) (by omega)
  have w5 : IntKind.i64.wrap (c : Int) = c := wr_i64 (by omega) (by omega)
  have w6 : IntKind.i64.wrap (k5 : Int) = k5 := wr_i64 (by omega) (by omega)
  have z1 : ¬ ((s.length : Int) + 3 = 0) := by omega
  have z2 : ¬ ((s.length : Int) + 1 = 0) := by omega
  have c2 : c ≤ s.length := by omega
  have c3 : (c : Int) ≤ (s.length : Int) := by omega
  have p3 : s.length ≤ 1000000000 := by omega
  have p4 : c ≤ 1000000000 := by omega
  have p4' : min c s.length ≤ 1000000000 := by omega
  have p5 : s.length + r.length ≤ 1000000000 := by omega
  have p6 : s.length + r.length ≤ 9223372036854775807 := by omega
  by_cases hz : s.length = 0
  · have hz2 : ¬ 0 < s.length := by omega
    have hsn : s = [] := List.eq_nil_of_length_eq_zero hz
    refine Sim.step hmix hΓ (n := 0) (by simp [hz2]; exact ⟨rfl, rfl⟩) (by simp) ?_
    refine Sim.step hmix hΓ (n := 0) (by simp [w0, w1, hm, w4, z1]; exact ⟨rfl, rfl⟩) (by simp) ?_
    refine Sim.exec hmix hΓ (n := 0) (by simp (maxSteps := 400000) [alikeS, worksS, p1, p3, p4, p5, p6, w0, w0c, w2, hc, hk5, z2, c2, c3]; exact ⟨rfl, rfl, rfl⟩) (by simp) ?_
    exact ⟨.inr rfl, _, by simp; rfl, Weak.mk' [0] (by decide) rfl (by simp) (by simp [fl])⟩
  · have hz2 : 0 < s.length := by omega
    obtain ⟨i, hi, li⟩ := rem_nat at_ s.length h0 hz2 (s.length : Int) rfl
    have w7 : IntKind.i64.wrap (i : Int) = i := wr_i64 (by omega) (by omega)
    have z3 : ¬ ((s.length : Int) = 0) := by omega
    have z4 : ¬ s = [] := fun h => by rw [h] at hz; exact hz rfl
    have g1 := get_bytesA s i li
    have li2 : i + 1 ≤ s.length := by omega
    refine Sim.step hmix hΓ (n := 4) (by simp (decide := true) [hz2, w0, hi, z4, li, li2]; exact ⟨by kernel_rfl, rfl, rfl⟩) (by simp) ?_
    obtain ⟨v, hv⟩ : ∃ v, bitsA BinOp.xor IntKind.u8 (s[i].toNat : Int) by_ = v := ⟨_, rfl⟩
    rw [hv]
    obtain ⟨BS, hBS⟩ : ∃ B, bytesA (s.take i) ++ AV.int .u8 v :: bytesA (s.drop (i + 1)) = B := ⟨_, rfl⟩
    have hb1 : BS.length = s.length := by rw [← hBS]; simp; omega
    have hb2 : bytesOf BS = some (s.take i ++ UInt8.ofNat v.toNat :: s.drop (i + 1)) := by rw [← hBS]; simp
    obtain ⟨U, hU⟩ : ∃ U, s.take i ++ UInt8.ofNat v.toNat :: s.drop (i + 1) = U := ⟨_, rfl⟩
    have hUl : U.length ≤ 1000000000 := by rw [← hU]; simp; omega
    rw [hU] at hb2
    have hb3 : BS.take s.length = BS := by rw [← hb1, List.take_length]
    rw [hBS]
    refine Sim.step hmix hΓ (n := 0) (by simp [w0, w1, hm, w4, z1]; exact ⟨rfl, rfl⟩) (by simp) ?_
    refine Sim.exec hmix hΓ (n := 0) (by simp (maxSteps := 400000) [alikeS, worksS, p1, p3, p4, p5, p6, hb1, hb2, hb3, hUl, w0, w0c, w2, hc, hk5, z2, c2, c3]; exact ⟨rfl, rfl, rfl⟩) (by simp) ?_
    exact ⟨.inr rfl, _, by simp; rfl, Weak.mk' [0] (by decide) rfl (by simp) (by simp [fl])⟩

def frameReads_shape : List (Bool × List CT) := [(false, [.one .str]), (false, [.row [.str]]), (true, [.one (.int .u16), .one (.int .u16), .one (.int .u8), .one (.int .i64)])]

theorem texts_row {x : AV} {n : Nat} {ss : List (List UInt8)} (h : n = 0 ∧ x = .nils ∨ x = .slice 0 0 n [Prim.str].length false) (hl : ss.length = n) : ∀ H', textsA (.cells false (ss.map AV.str) :: H') x = some ss := by
  intro H'
  subst hl
  rcases h with ⟨h0, rfl⟩ | rfl
  · have : ss = [] := List.eq_nil_of_length_eq_zero h0
    subst this
    rfl
  · have e : (ss.map AV.str).take ss.length = ss.map AV.str := List.take_of_length_le (by simp)
    simp [textsA, e]

theorem frameReads_law : ∀ xs H, AbsArgs frameReads_shape 0 xs H → ∃ H', Ct Try.prog 8 xs H (.bool true) H' := by
  intro xs H h0
  obtain ⟨x1, y1, rfl, ⟨s, rfl, _⟩, h1⟩ := absArgs_one h0
  obtain ⟨x2, y2, l, n, H2, rfl, rfl, hx, _, hl, h2⟩ := absArgs_row h1
  obtain ⟨ss, rfl, hn, _⟩ := row_strs hl
  obtain ⟨z2, y3, H3, H4, rfl, k0, rfl, h3⟩ := absArgs_agg h2
  obtain ⟨x4, z4, rfl, ⟨a, rfl, ha⟩, k1⟩ := absOk_one k0
  obtain ⟨x5, z5, rfl, ⟨b, rfl, hb⟩, k2⟩ := absOk_one k1
  obtain ⟨x6, z6, rfl, ⟨c, rfl, hc⟩, k3⟩ := absOk_one k2
  obtain ⟨x7, z7, rfl, ⟨d, rfl, hd⟩, k4⟩ := absOk_one k3
  obtain ⟨rfl, rfl⟩ := absOk_nil k4
  obtain ⟨rfl, rfl⟩ := absArgs_nil h3
  have ba := bounds_u16 ha
  have bb := bounds_u16 hb
  exact reads_law s ss x2 (texts_row hx hn) a b c d ba.1 (by omega) bb.1 (by omega)

end Go.Proofs.Ytmoegdjpmcjhcaa
