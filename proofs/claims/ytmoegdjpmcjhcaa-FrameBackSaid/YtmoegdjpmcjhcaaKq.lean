/- Walk: cedillalaw03.FrameLaid. -/
import Derived.Test.YtmoegdjpmcjhcaaKo
namespace Go.Proofs.Ytmoegdjpmcjhcaa
open Go
set_option maxRecDepth 100000
attribute [-simp] drawOk_eq adraw qrun acode aops

theorem len_payV (t : TypeId) (b : Nat) (l : List (List UInt8)) (ht : Try.prog.underlying t = some (.slice 9)) : lenA Try.prog t (payV b l) = some (.int .i64 l.length) := by
  unfold payV
  split
  · rename_i h
    simp [lenA, ht, h]
  · simp [lenA, ht]

set_option maxHeartbeats 8000000 in
theorem laid_ct (s0 p0 : List UInt8) (at_ cut by_ place : Int) (h0 : 0 ≤ at_) (h1 : at_ ≤ 65535) (b0 : 0 ≤ by_) (b1 : by_ ≤ 255) :
    ∃ H', Ct Try.prog 6 [.str s0, .str p0, .agg [.int .u16 at_, .int .u16 cut, .int .u8 by_, .int .i64 place]] [] (.bool true) H' := by
  have hΓ := goks_cons works_sound (goks_cons fput_sound (goks_cons fall_sound (goks_cons reads_sound goks_nil)))
  refine ⟨[], ?_⟩
  refine ct_of_sim Try.func6 rfl ?_
  simp only [Try.ntmps6, List.length_cons, List.length_nil, Nat.reduceAdd, Nat.reduceSub, List.replicate, List.cons_append, List.nil_append]
  obtain ⟨m1, e1, l1, k1, _⟩ := cut_len s0 600 600 rfl
  obtain ⟨m2, e2, l2, k2, _⟩ := cut_len p0 300 300 rfl
  refine Sim.step hmix hΓ (n := 0) (by simp; exact ⟨rfl, rfl⟩) (by simp) ?_
  refine Sim.step hmix hΓ (n := 0) (by simp [worksS]; exact ⟨rfl, rfl⟩) (by simp) ?_
  obtain ⟨s, hs⟩ : ∃ x, s0.take m1 = x := ⟨_, rfl⟩
  obtain ⟨p, hp⟩ : ∃ x, p0.take m2 = x := ⟨_, rfl⟩
  refine Sim.step hmix hΓ (n := 4) (by simp (decide := true) [e1, e2, k1, k2, hs, hp]; exact ⟨rfl, rfl⟩) (by simp) ?_
  have ls : s.length ≤ 600 := by rw [← hs]; simp; omega
  have lp : p.length ≤ 300 := by rw [← hp]; simp; omega
  clear hs hp e1 e2 k1 k2
  have lf := Fr.put_le p
  obtain ⟨⟨f, fe⟩, hf⟩ : ∃ x, Fr.put p = x := ⟨_, rfl⟩
  rw [hf] at lf
  dsimp only at lf
  have p1 : p.length ≤ 1000000000 := by omega
  refine Sim.step hmix hΓ (n := 0) (by simp [fputS, p1, hf]; exact ⟨rfl, rfl⟩) (by simp) ?_
  obtain ⟨u, hu⟩ : ∃ x, f ++ s = x := ⟨_, rfl⟩
  have lu : u.length ≤ 913 := by rw [← hu]; simp; omega
  have q1 : f.length + s.length ≤ 9223372036854775807 := by omega
  refine Sim.step hmix hΓ (n := 0) (by simp [hu, q1]; exact ⟨rfl, rfl⟩) (by simp) ?_
  have p2 : u.length ≤ 1000000000 := by omega
  have hal := Fr.all_len u
  have htk := Fr.all_take u _ 0 (by omega) (Nat.le_refl _)
  obtain ⟨⟨l, x, e⟩, hr⟩ : ∃ r, Fr.all u 0 = r := ⟨_, rfl⟩
  obtain ⟨x0, x1, hok, hcat⟩ := htk l x e hr
  rw [hr] at hal
  dsimp only at hal
  obtain ⟨g, rfl⟩ : ∃ n : Nat, x = n := ⟨x.toNat, by omega⟩
  simp only [Int.toNat_natCast, List.drop_zero, Nat.sub_zero] at hcat
  refine Sim.step hmix hΓ (n := 0) (by simp [fallS, p2, hr, shA_payV, shB_payB]; exact ⟨rfl, rfl⟩) (by simp) ?_
  refine Sim.step hmix hΓ (n := 0) (by simp; exact ⟨rfl, rfl⟩) (by simp) ?_
  refine Sim.seq (Sim.step hmix hΓ (n := 0) (by simp; exact ⟨rfl, rfl⟩) (by simp) ?_)
  have hlen := len_payV 46 1 l Try.underlying46
  refine Sim.block (Sim.loopW (fun k : Nat => k ≤ l.length)
    (fun k => [.str u, .str p, .top, .top, .top, .ptr 0 0, .bool false, .str f, .top, payV 1 l, .int .i64 g, .top, .str (Fr.cat (l.take k)), .int .i64 k] ++ List.replicate 88 .top)
    (fun _ => .cells true [.int .u16 at_, .int .u16 cut, .int .u8 by_, .int .i64 place] :: payB l) (fun k => l.length - k) 0 (by simp) (by simp) ?_ fun k hk => ?_)
  · cases l with
    | nil => exact Weak.mk' [0] (by decide) rfl (by simp [payV]) (by simp [payB])
    | cons z l =>
      have fl : frees (l.map AV.str) = true := frees_map _ _ fun _ => rfl
      exact Weak.mk' [0, 1] (by decide) rfl (by simp [payV]) (by simp [payB, fl])
  obtain ⟨acc, hacc⟩ : ∃ x, Fr.cat (l.take k) = x := ⟨_, rfl⟩
  rw [hacc]
  have la : acc.length ≤ 313 * 913 := by
    have := Fr.cat_le (l.take k)
    have h2 : (l.take k).length ≤ 913 := by rw [List.length_take]; omega
    rw [← hacc]
    omega
  by_cases hlt : k < l.length
  · have hw : IntKind.i64.wrap ((k : Int) + 1) = k + 1 := wr_i64 (by omega) (by omega)
    have hpk := hok l[k] (List.getElem_mem hlt)
    have lfk := Fr.put_le l[k]
    have hput := Fr.put_eq l[k] hpk
    obtain ⟨fk, hfk⟩ : ∃ x, (Fr.put l[k]).1 = x := ⟨_, rfl⟩
    have hfk2 : Fr.put l[k] = (fk, 0) := by rw [← hfk, hput]
    rw [hfk] at lfk
    have hn : Fr.cat (l.take (k + 1)) = acc ++ fk := by
      rw [List.take_succ_eq_append_getElem hlt, Fr.cat_append, hacc, Fr.cat_cons, hfk, Fr.cat_nil, List.append_nil]
    have q2 : acc.length + fk.length ≤ 9223372036854775807 := by omega
    have q3 : l[k].length ≤ 1000000000 := by have := hpk.2; omega
    have g1 : (l.map AV.str)[k]? = some (.str l[k]) := by rw [List.getElem?_map, List.getElem?_eq_getElem hlt]; rfl
    obtain ⟨n, hn2⟩ : ∃ n, l.length = n := ⟨_, rfl⟩
    have hl0 : ¬ l.length = 0 := by omega
    have eV : payV 1 l = .slice 1 0 l.length 1 false := by unfold payV; rw [if_neg hl0]
    have eB : payB l = [.cells true (l.map AV.str)] := by unfold payB; rw [if_neg hl0]
    have fl : frees (l.map AV.str) = true := frees_map _ _ fun _ => rfl
    rw [eV, eB]
    refine Sim.exec hmix hΓ (n := 0) (by simp [hlt, fputS, q3, hfk2, q2, hw]; exact ⟨rfl, rfl, rfl⟩) (by simp) ?_
    exact ⟨k + 1, by omega, Weak.mk' [0, 1] (by decide) rfl (by simp [hn]) (by simp [fl]), by omega⟩
  · have hkl : k = l.length := by omega
    have hacc2 : acc = u.take g := by rw [← hacc, hkl, List.take_of_length_le (Nat.le_refl _), hcat]
    refine Sim.exec hmix hΓ (n := 0) (by simp [hlen, hlt, -lenA]; exact ⟨rfl, rfl, rfl⟩) (by simp) ?_
    dsimp only
    rw [if_pos rfl]
    refine Sim.weak (Fn := [.str u, .str p, .top, .top, .top, .ptr 0 0, .bool false, .str f, .top, .top, .int .i64 g, .top, .str acc] ++ List.replicate 89 .top) (Hn := [.cells true [.int .u16 at_, .int .u16 cut, .int .u8 by_, .int .i64 place]]) (Weak.mk' [0] (by decide) rfl (by simp) (by simp)) (by simp) ?_
    have q4 : (g : Int) ≤ (u.length : Int) := by omega
    have q5 : g ≤ u.length := by omega
    refine Sim.step hmix hΓ (n := 0) (by simp [hacc2, q5]; exact ⟨rfl, rfl⟩) (by simp) ?_
    cases p with
    | nil =>
      refine Sim.exec hmix hΓ (n := 0) (by simp; exact ⟨rfl, rfl, rfl⟩) (by simp) ?_
      exact ⟨.inr rfl, _, by simp; rfl, Weak.mk' [] (by decide) (by decide) (by simp) (by simp)⟩
    | cons c0 p =>
      by_cases hby : by_ = 0
      · refine Sim.exec hmix hΓ (n := 0) (by simp [hby]; exact ⟨rfl, rfl, rfl⟩) (by simp) ?_
        exact ⟨.inr rfl, _, by simp; rfl, Weak.mk' [] (by decide) (by decide) (by simp) (by simp)⟩
      obtain ⟨P, hP⟩ : ∃ x, c0 :: p = x := ⟨_, rfl⟩
      have hPl : p.length + 1 = P.length := by rw [← hP]; rfl
      have okP : Fr.ok P := ⟨by omega, by rw [← hP]; exact lp⟩
      have hby2 : (by_ == 0) = false := by simpa using hby
      refine Sim.step hmix hΓ (n := 0) (by simp [hby2]; exact ⟨rfl, rfl⟩) (by simp) ?_
      rw [hP] at hf ⊢
      have hfl := Fr.put_length P okP
      have hsz := Fr.size_bd P okP
      rw [hf] at hfl
      dsimp only at hfl
      have lP : P.length ≤ 300 := okP.2
      have q6 : f.length ≤ 9223372036854775807 := by omega
      refine Sim.step hmix hΓ (n := 0) (by simp [q6]; exact ⟨rfl, rfl⟩) (by simp) ?_
      obtain ⟨h, hh⟩ : ∃ n, Vy.size P.length = n := ⟨_, rfl⟩
      rw [hh] at hfl hsz
      have w1 : IntKind.i64.wrap ((f.length : Int) - P.length) = (h : Int) + 4 := by rw [wr_i64 (by omega) (by omega)]; omega
      have w6 : IntKind.i64.wrap (h : Int) = h := wr_i64 (by omega) (by omega)
      have w2 : IntKind.i64.wrap ((h : Int) + 4 - 4) = h := by rw [wr_i64 (by omega) (by omega)]; omega
      refine Sim.step hmix hΓ (n := 0) (by simp [w1, w6]; exact ⟨rfl, rfl⟩) (by simp) ?_
      have w0 : IntKind.i64.wrap at_ = at_ := wr_i64 (by omega) (by omega)
      obtain ⟨i, hi, li⟩ := rem_nat at_ (P.length + 4) h0 (by omega) ((P.length : Int) + 4) (by omega)
      have w3 : IntKind.i64.wrap ((P.length : Int) + 4) = (P.length : Int) + 4 := wr_i64 (by omega) (by omega)
      have w4 : IntKind.i64.wrap (i : Int) = i := wr_i64 (by omega) (by omega)
      have w5 : IntKind.i64.wrap ((h : Int) + i) = ((h + i : Nat) : Int) := by rw [wr_i64 (by omega) (by omega)]; omega
      have z1 : ¬ ((P.length : Int) + 4 = 0) := by omega
      obtain ⟨j, hj⟩ : ∃ n, h + i = n := ⟨_, rfl⟩
      rw [hj] at w5
      have lj : j < f.length := by omega
      have lj2 : j + 1 ≤ f.length := by omega
      have g1 := get_bytesA f j lj
      obtain ⟨c, hc⟩ : ∃ c, f[j] = c := ⟨_, rfl⟩
      rw [hc] at g1
      obtain ⟨b, rfl⟩ : ∃ n : Nat, by_ = n := ⟨by_.toNat, by omega⟩
      have hx := xor_u8 c.toNat b c.toNat_lt (by omega)
      refine Sim.step hmix hΓ (n := 4) (by simp (decide := true) [w0, w3, hi, w5, z1, lj, lj2, hc, hx]; exact ⟨by kernel_rfl, rfl, rfl⟩) (by simp) ?_
      have hsplit : f = f.take j ++ c :: f.drop (j + 1) := by
        rw [← hc, ← List.drop_eq_getElem_cons lj, List.take_append_drop]
      have hne : UInt8.ofNat (c.toNat ^^^ b) ≠ c := by
        intro h9
        have h8 := congrArg UInt8.toNat h9
        have hlt8 : c.toNat ^^^ b < 256 := Nat.xor_lt_two_pow (n := 8) c.toNat_lt (by omega)
        have h7 : ∀ X : Nat, X < 256 → (UInt8.ofNat X).toNat = X := fun X hX => by simp; omega
        rw [h7 _ hlt8] at h8
        have : c.toNat ^^^ b = c.toNat ^^^ 0 := by rw [h8, Nat.xor_zero]
        have := xor_left_inj _ _ _ this
        omega
      have hturn := Fr.turned P (f.take j) (f.drop (j + 1)) c (UInt8.ofNat (c.toNat ^^^ b)) okP (by rw [hf]; exact hsplit) (by rw [hh, List.length_take]; omega) hne
      obtain ⟨T, hT⟩ : ∃ x, f.take j ++ UInt8.ofNat (c.toNat ^^^ b) :: f.drop (j + 1) = x := ⟨_, rfl⟩
      rw [hT] at hturn
      have hTl : T.length ≤ 1000000000000 := by rw [← hT]; simp; omega
      have hR : Fr.readsB T 16 = true := by unfold Fr.readsB; rw [hturn]; decide
      obtain ⟨BS, hBS⟩ : ∃ B, bytesA (f.take j) ++ AV.int .u8 ((c.toNat ^^^ b : Nat) : Int) :: bytesA (f.drop (j + 1)) = B := ⟨_, rfl⟩
      have hb1 : BS.length = f.length := by rw [← hBS]; simp; omega
      have hb2 : bytesOf BS = some T := by rw [← hBS, ← hT]; simp
      have hb3 : BS.take f.length = BS := by rw [← hb1, List.take_length]
      rw [hBS]
      refine Sim.exec hmix hΓ (n := 0) (by simp [hb1, hb2, hb3, readsS, hTl, hR]; exact ⟨rfl, rfl, rfl⟩) (by simp) ?_
      exact ⟨.inr rfl, _, by simp; rfl, Weak.mk' [] (by decide) (by decide) (by simp) (by simp)⟩

def frameLaid_shape : List (Bool × List CT) := [(false, [.one .str]), (false, [.one .str]), (true, [.one (.int .u16), .one (.int .u16), .one (.int .u8), .one (.int .i64)])]

theorem frameLaid_law : ∀ xs H, AbsArgs frameLaid_shape 0 xs H → ∃ H', Ct Try.prog 6 xs H (.bool true) H' := by
  intro xs H h0
  obtain ⟨x1, y1, rfl, ⟨s, rfl, _⟩, h1⟩ := absArgs_one h0
  obtain ⟨x2, y2, rfl, ⟨p, rfl, _⟩, h2⟩ := absArgs_one h1
  obtain ⟨z2, y3, H3, H4, rfl, k0, rfl, h3⟩ := absArgs_agg h2
  obtain ⟨x4, z4, rfl, ⟨a, rfl, ha⟩, k1⟩ := absOk_one k0
  obtain ⟨x5, z5, rfl, ⟨b, rfl, hb⟩, k2⟩ := absOk_one k1
  obtain ⟨x6, z6, rfl, ⟨c, rfl, hc⟩, k3⟩ := absOk_one k2
  obtain ⟨x7, z7, rfl, ⟨d, rfl, hd⟩, k4⟩ := absOk_one k3
  obtain ⟨rfl, rfl⟩ := absOk_nil k4
  obtain ⟨rfl, rfl⟩ := absArgs_nil h3
  have ba := bounds_u16 ha
  have bc := bounds_u8 hc
  exact laid_ct s p a b c d ba.1 (by omega) bc.1 (by omega)

end Go.Proofs.Ytmoegdjpmcjhcaa
