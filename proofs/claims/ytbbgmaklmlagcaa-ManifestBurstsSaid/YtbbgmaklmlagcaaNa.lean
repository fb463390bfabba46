/- Walk: cedillalaw23.ManifestLays. -/
import Derived.Test.YtbbgmaklmlagcaaGn
import Derived.Test.YtbbgmaklmlagcaaMj
namespace Go.Proofs.Ytbbgmaklmlagcaa
open Go
set_option maxRecDepth 100000
attribute [-simp] drawOk_eq adraw qrun acode aops

def laInl : List FuncId := [19, 22]
theorem laΓ_ok : GOk Try.prog (runG Try.prog (gams [(20, madeS), (27, mputS), (40, mputS), (18, mrightS), (41, mrightS), (26, msameS), (42, ropenS), (44, rsealS), (43, alikeS), (14, trueS)]) 0 laInl 2) :=
  gok_run hmix (goks_cons made_sound (goks_cons mput_sound (goks_cons rmput_sound (goks_cons mright_sound (goks_cons rright_sound (goks_cons msame_sound (goks_cons ropen_sound (goks_cons rseal_sound (goks_cons alike_sound (goks_cons (true_sound Try.func14 rfl (by decide) mworks_ct) goks_nil)))))))))) 0 laInl 2

@[simp] theorem take_bytesA (s : List UInt8) (n : Nat) : (bytesA s).take n = bytesA (s.take n) := by simp [bytesA, List.map_take]
@[simp] theorem drop_bytesA (s : List UInt8) (n : Nat) : (bytesA s).drop n = bytesA (s.drop n) := by simp [bytesA, List.map_drop]
@[simp] theorem getElem_bytesA (s : List UInt8) (i : Nat) (h : i < (bytesA s).length) : (bytesA s)[i] = .int .u8 ((s[i]'(by simpa using h)).toNat : Int) := by simp [bytesA]

/-- A remainder. -/
theorem rem_nat (a : Int) (n : Nat) (h0 : 0 ≤ a) (hn : 0 < n) (z : Int) (hz : z = n) : ∃ i : Nat, a.tmod z = i ∧ i < n := by
  subst hz
  refine ⟨(a % (n : Int)).toNat, ?_, ?_⟩
  · rw [tmod_nn h0]
    have := Int.emod_nonneg a (show (n : Int) ≠ 0 by omega)
    omega
  · have := Int.emod_lt_of_pos a (show 0 < (n : Int) by omega)
    have := Int.emod_nonneg a (show (n : Int) ≠ 0 by omega)
    omega

theorem Mf.put_le (m : Mf) : m.put.1.length ≤ 30000 := by
  unfold Mf.put
  split
  · rename_i h
    have := Mf.put_len h
    simp only [Mf.bytes, Cr.seal_length, List.length_append, List.length_cons, List.length_nil]
    omega
  · simp

set_option maxHeartbeats 8000000 in
theorem lays_ct (v f n ta tc tb x y : Int) (l tl : List Sg) (s : List UInt8) (ha0 : 0 ≤ ta) (ha1 : ta ≤ 65535) (hc0 : 0 ≤ tc) (hc1 : tc ≤ 65535) :
    ∃ H', Ct Try.prog 8 [mfA 0 ⟨v, f, n, l⟩, .str s, .agg [.int .u16 ta, .int .u16 tc, .int .u8 tb, .int .i64 x, .int .i64 y, .sl 1 0 tl.length 3 false]] [.cells false (sgsA l), .cells false (sgsA tl)] (.bool true) H' := by
  have hΓ := laΓ_ok
  refine ⟨[.cells false (sgsA l), .cells false (sgsA tl)], ?_⟩
  refine ct_of_sim Try.func8 rfl ?_
  simp only [Try.ntmps8, List.length_cons, List.length_nil, Nat.reduceAdd, Nat.reduceSub, List.replicate, List.cons_append, List.nil_append, mfA]
  refine Sim.step hmix hΓ (n := 0) (by simp; exact ⟨rfl, rfl⟩) (by simp) ?_
  obtain ⟨d, hd, hd1, hd2, hd3⟩ := min_cut s.length 200 (by omega)
  have hd4 : (d : Int) ≤ (s.length : Int) := by omega
  obtain ⟨u, hu⟩ : ∃ u, s.take d = u := ⟨_, rfl⟩
  have lu : u.length ≤ 200 := by rw [← hu]; simp; omega
  refine Sim.step hmix hΓ (n := 0) (by simp [-minA, minA_min, hd, hd1, hd4, hu]; exact ⟨rfl, rfl⟩) (by simp) ?_
  obtain ⟨c, hc, hc1, hc2, hc3⟩ := min_cut l.length 20 (by omega)
  obtain ⟨M, eM⟩ : ∃ M, Mf.made ⟨v, f, n, l⟩ = M := ⟨_, rfl⟩
  have bM : M.segs.length ≤ 20 := by rw [← eM]; unfold Mf.made; simp; omega
  refine Sim.seq (Sim.seq (Sim.draw hmix (by simp) ?_))
  refine SimR.many hΓ 6 (by simp [stageOps, blankOp]; rfl) (by omega) (by kernel_rfl) (by simp (decide := true) [-minA, minA_min, laInl, Try.f19, hc, hc1, madeS, rowSgs, eM, mfA, scA]; first | exact ⟨rfl, rfl⟩ | exact ⟨by kernel_rfl, rfl, rfl⟩) ?_
  refine SimR.done rfl ?_
  dsimp only
  refine Sim.block (Sim.loopW (fun i : Nat => i ≤ 2)
    (fun i => [.top, .str u, .top, .ptr 2 0, .top, .ptr 3 0, .bool false] ++ List.replicate 22 .top ++ [.agg [.int .i64 v, .int .i64 f, .int .i64 n, .sl 0 0 c 3 false, .int .i64 M.v, .int .i64 M.f, .int .i64 M.n, .sl 4 0 M.segs.length 3 false], .int .i64 (i : Nat)] ++ List.replicate 102 .top) (fun _ => [.cells false (sgsA l), .cells false (sgsA tl), .cells true [.int .i64 v, .int .i64 f, .int .i64 n, .sl 0 0 l.length 3 false], .cells true [.int .u16 ta, .int .u16 tc, .int .u8 tb, .int .i64 x, .int .i64 y, .sl 1 0 tl.length 3 false], .cells true (sgsA M.segs)]) (fun i => 2 - i) 0 (by simp) (by simp) ?_ fun i hi => ?_)
  · exact Weak.mk' [0, 1, 2, 3, 6] (by decide) (by decide) (by simp) (by simp)
  have lc : c ≤ 1000000000000 := by omega
  have hc9 : c * 3 ≤ l.length * 3 := by omega
  by_cases hi2 : i < 2
  · match i, hi2 with
    | 0, _ =>
      obtain ⟨A, eA⟩ : ∃ A, l.take c = A := ⟨_, rfl⟩
      have lA : A.length = c := by rw [← eA]; simp; omega
      have tA : (sgsA l).take (c * 3) = sgsA A := by rw [← eA]; exact sgs_take l c
      obtain ⟨⟨p, e⟩, hp⟩ : ∃ r, Mf.put ⟨v, f, n, A⟩ = r := ⟨_, rfl⟩
      refine Sim.step hmix hΓ (n := 0) (by simp; exact ⟨rfl, rfl⟩) (by simp) ?_
      refine Sim.step hmix hΓ (n := 0) (by simp; exact ⟨rfl, rfl⟩) (by simp) ?_
      refine Sim.seq (Sim.block ?_)
      refine Sim.step hmix hΓ (n := 0) (by simp; exact ⟨rfl, rfl⟩) (by simp) ?_
      refine Sim.step hmix hΓ (n := 0) (by simp [laInl, mputS, rowSgs, hc9, tA, lA, lc, hp]; exact ⟨rfl, rfl⟩) (by simp) ?_
      refine Sim.step hmix hΓ (n := 0) (by simp [laInl, Try.f22, mputS, rowSgs, hc9, tA, lA, lc, hp]; exact ⟨rfl, rfl⟩) (by simp) ?_
      refine Sim.exec hmix hΓ (n := 0) (by simp (decide := true) [laInl, Try.f22, mrightS, msameS, rowSgs, hc9, tA, lA, lc, hp, free, scA]; exact ⟨rfl, rfl, rfl⟩) (by simp) ?_
      dsimp only
      refine Sim.exec hmix hΓ (n := 0) (by simp; exact ⟨rfl, rfl, rfl⟩) (by simp) ?_
      exact ⟨1, by omega, Weak.mk' [0, 1, 2, 3, 4] (by decide) (by decide) (by simp) (by simp), by omega⟩
    | 1, _ =>
      have lM : M.segs.length ≤ 1000000000000 := by omega
      obtain ⟨mv, mf, mn, A⟩ := M
      simp only at bM lM
      obtain ⟨⟨p, e⟩, hp⟩ : ∃ r, Mf.put ⟨mv, mf, mn, A⟩ = r := ⟨_, rfl⟩
      refine Sim.step hmix hΓ (n := 0) (by simp; exact ⟨rfl, rfl⟩) (by simp) ?_
      refine Sim.step hmix hΓ (n := 0) (by simp; exact ⟨rfl, rfl⟩) (by simp) ?_
      refine Sim.seq (Sim.block ?_)
      refine Sim.step hmix hΓ (n := 0) (by simp; exact ⟨rfl, rfl⟩) (by simp) ?_
      refine Sim.step hmix hΓ (n := 0) (by simp [laInl, mputS, rowSgs, lM, hp]; exact ⟨rfl, rfl⟩) (by simp) ?_
      refine Sim.step hmix hΓ (n := 0) (by simp [laInl, Try.f22, mputS, rowSgs, lM, hp]; exact ⟨rfl, rfl⟩) (by simp) ?_
      refine Sim.exec hmix hΓ (n := 0) (by simp (decide := true) [laInl, Try.f22, mrightS, msameS, rowSgs, lM, hp, free, scA]; exact ⟨rfl, rfl, rfl⟩) (by simp) ?_
      dsimp only
      refine Sim.exec hmix hΓ (n := 0) (by simp; exact ⟨rfl, rfl, rfl⟩) (by simp) ?_
      exact ⟨2, by omega, Weak.mk' [0, 1, 2, 3, 4] (by decide) (by decide) (by simp) (by simp), by omega⟩
  have : i = 2 := by omega
  subst this
  refine Sim.exec hmix hΓ (n := 0) (by simp; exact ⟨rfl, rfl, rfl⟩) (by simp) ?_
  dsimp only
  rw [if_pos rfl]
  have lM : M.segs.length ≤ 1000000000000 := by omega
  have lp := Mf.put_le M
  obtain ⟨⟨p, e⟩, hp⟩ : ∃ r, M.put = r := ⟨_, rfl⟩
  rw [hp] at lp
  simp only at lp
  have hpM : Mf.put ⟨M.v, M.f, M.n, M.segs⟩ = (p, e) := hp
  refine Sim.step hmix hΓ (n := 0) (by simp [laInl, Try.f22, madeS, mputS, rowSgs, eM, mfA, lM, hpM]; exact ⟨rfl, rfl⟩) (by simp) ?_
  have lp2 : p.length ≤ 1000000000000 := by omega
  obtain ⟨q, hq⟩ : ∃ q, (if Cr.openOk p = true then p.take (p.length - 4) else []) = q := ⟨_, rfl⟩
  have lq : q.length ≤ 30000 := by rw [← hq]; split <;> simp; omega
  refine Sim.step hmix hΓ (n := 0) (by simp [laInl, ropenS, lp2, hq]; exact ⟨rfl, rfl⟩) (by simp) ?_
  have p2 : q.length ≤ 9223372036854775807 := by omega
  refine Sim.step hmix hΓ (n := 0) (by simp [p2]; exact ⟨rfl, rfl⟩) (by simp) ?_
  have w0 : IntKind.i64.wrap ta = ta := wr_i64 (by omega) (by omega)
  have w0c : IntKind.i64.wrap tc = tc := wr_i64 (by omega) (by omega)
  obtain ⟨r, hr, lr⟩ := rem_nat tc (q.length + 1) hc0 (by omega) ((q.length : Int) + 1) (by omega)
  have w2 : IntKind.i64.wrap ((q.length : Int) + 1) = (q.length : Int) + 1 := wr_i64 (by omega) (by omega)
  have w5 : IntKind.i64.wrap (r : Int) = r := wr_i64 (by omega) (by omega)
  have z2 : ¬ ((q.length : Int) + 1 = 0) := by omega
  have r2 : r ≤ q.length := by omega
  have r3 : (r : Int) ≤ (q.length : Int) := by omega
  obtain ⟨V, hV⟩ : ∃ V, q.take r = V := ⟨_, rfl⟩
  have lV : V.length ≤ 30000 := by rw [← hV]; simp; omega
  have lP : p.length ≤ 1000000000000 := by omega
  by_cases hz : q.length = 0
  · have hz2 : ¬ 0 < q.length := by omega
    have hqn : q = [] := List.eq_nil_of_length_eq_zero hz
    refine Sim.step hmix hΓ (n := 0) (by simp [hz2]; exact ⟨rfl, rfl⟩) (by simp) ?_
    have f1 : 3 + u.length ≤ 9223372036854775807 := by omega
    have f2 : q.length + u.length ≤ 9223372036854775807 := by omega
    refine Sim.seq (Sim.step hmix hΓ (n := 0) (by simp (decide := true) [f1, f2, p2, w0c, w2, hr, w5, z2, r2, r3, hV]; first | exact ⟨rfl, rfl⟩ | exact ⟨by kernel_rfl, rfl, rfl⟩) (by simp) ?_)
    obtain ⟨W, hW⟩ : ∃ W, (67 :: 77 :: 1 :: u : List UInt8) = W := ⟨_, rfl⟩
    obtain ⟨Y, hY⟩ : ∃ Y, q ++ u = Y := ⟨_, rfl⟩
    have lW : W.length ≤ 30000 := by rw [← hW]; simp; omega
    have lY : Y.length ≤ 40000 := by rw [← hY]; simp; omega
    rw [hW, hY]
    have j1 : u.length ≤ 1000000000000 ∧ u.length + 4 ≤ 1000000000000 := by omega
    have j2 : W.length ≤ 1000000000000 ∧ W.length + 4 ≤ 1000000000000 := by omega
    have j4 : V.length ≤ 1000000000000 ∧ V.length + 4 ≤ 1000000000000 := by omega
    have j5 : Y.length ≤ 1000000000000 ∧ Y.length + 4 ≤ 1000000000000 := by omega
    have j6 : q.length ≤ 1000000000000 ∧ q.length + 4 ≤ 1000000000000 := by omega
    refine Sim.exec hmix hΓ (n := 8) (by simp [laInl, alikeS, rsealS, Cr.seal_length, j1, j2, j4, j5, j6]; exact ⟨rfl, rfl, rfl⟩) (by simp) ?_
    dsimp only
    refine Sim.exec hmix hΓ (n := 0) (by simp (decide := true) [laInl, alikeS, trueS, j1, lP]; exact ⟨rfl, rfl, rfl⟩) (by simp) ?_
    exact ⟨.inr rfl, _, by simp [Try.f8] <;> rfl, Weak.mk' [0, 1] (by decide) (by decide) (by simp) (by simp)⟩
  have hz2 : 0 < q.length := by omega
  obtain ⟨i, hi, li⟩ := rem_nat ta q.length ha0 hz2 (q.length : Int) rfl
  have w7 : IntKind.i64.wrap (i : Int) = i := wr_i64 (by omega) (by omega)
  have z3 : ¬ ((q.length : Int) = 0) := by omega
  have z4 : ¬ q = [] := fun h => by rw [h] at hz; exact hz rfl
  have li2 : i + 1 ≤ q.length := by omega
  refine Sim.step hmix hΓ (n := 4) (by simp (decide := true) [hz2, w0, hi, z4, li, li2]; exact ⟨by kernel_rfl, rfl, rfl⟩) (by simp) ?_
  obtain ⟨w, hw⟩ : ∃ v, bitsA BinOp.xor IntKind.u8 (q[i].toNat : Int) tb = v := ⟨_, rfl⟩
  rw [hw]
  obtain ⟨BS, hBS⟩ : ∃ B, bytesA (q.take i) ++ AV.int .u8 w :: bytesA (q.drop (i + 1)) = B := ⟨_, rfl⟩
  have hb1 : BS.length = q.length := by rw [← hBS]; simp; omega
  have hb2 : bytesOf BS = some (q.take i ++ UInt8.ofNat w.toNat :: q.drop (i + 1)) := by rw [← hBS]; simp
  obtain ⟨U, hU⟩ : ∃ U, q.take i ++ UInt8.ofNat w.toNat :: q.drop (i + 1) = U := ⟨_, rfl⟩
  have hUl : U.length ≤ 30000 := by rw [← hU]; simp; omega
  rw [hU] at hb2
  have hb3 : BS.take q.length = BS := by rw [← hb1, List.take_length]
  rw [hBS]
  have f1 : 3 + u.length ≤ 9223372036854775807 := by omega
  have f2 : q.length + u.length ≤ 9223372036854775807 := by omega
  have f3 : U.length ≤ 9223372036854775807 := by omega
  refine Sim.seq (Sim.step hmix hΓ (n := 0) (by simp (decide := true) [f1, f2, f3, hb1, hb2, hb3, hUl, w0c, w2, hr, w5, z2, r2, r3, hV]; first | exact ⟨rfl, rfl⟩ | exact ⟨by kernel_rfl, rfl, rfl⟩) (by simp) ?_)
  obtain ⟨W, hW⟩ : ∃ W, (67 :: 77 :: 1 :: u : List UInt8) = W := ⟨_, rfl⟩
  obtain ⟨Y, hY⟩ : ∃ Y, q ++ u = Y := ⟨_, rfl⟩
  have lW : W.length ≤ 30000 := by rw [← hW]; simp; omega
  have lY : Y.length ≤ 40000 := by rw [← hY]; simp; omega
  rw [hW, hY]
  have j1 : u.length ≤ 1000000000000 ∧ u.length + 4 ≤ 1000000000000 := by omega
  have j2 : W.length ≤ 1000000000000 ∧ W.length + 4 ≤ 1000000000000 := by omega
  have j3 : U.length ≤ 1000000000000 ∧ U.length + 4 ≤ 1000000000000 := by omega
  have j4 : V.length ≤ 1000000000000 ∧ V.length + 4 ≤ 1000000000000 := by omega
  have j5 : Y.length ≤ 1000000000000 ∧ Y.length + 4 ≤ 1000000000000 := by omega
  have j6 : q.length ≤ 1000000000000 ∧ q.length + 4 ≤ 1000000000000 := by omega
  refine Sim.exec hmix hΓ (n := 8) (by simp [laInl, alikeS, rsealS, Cr.seal_length, j1, j2, j3, j4, j5, j6]; exact ⟨rfl, rfl, rfl⟩) (by simp) ?_
  dsimp only
  refine Sim.exec hmix hΓ (n := 0) (by simp (decide := true) [laInl, alikeS, trueS, j1, lP]; exact ⟨rfl, rfl, rfl⟩) (by simp) ?_
  exact ⟨.inr rfl, _, by simp [Try.f8] <;> rfl, Weak.mk' [0, 1] (by decide) (by decide) (by simp) (by simp)⟩

end Go.Proofs.Ytbbgmaklmlagcaa
