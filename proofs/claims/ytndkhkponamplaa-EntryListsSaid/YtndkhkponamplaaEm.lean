/- The law cedillalaw05.EntryBack: the walk. -/
import Derived.Test.YtndkhkponamplaaEl
import Derived.Test.YtndkhkponamplaaEc
namespace Go.Proofs.Ytndkhkponamplaa
open Go
set_option maxRecDepth 100000
attribute [-simp] drawOk_eq adraw qrun acode aops

def ekΓ : Gam := gams [(16, trueK), (17, draftS), (8, eputS), (10, valueS), (14, ofS), (12, egetS), (18, lgetS)]
theorem ekΓ_ok : GOk Try.prog ekΓ := goks_cons entryKnownS0_sound (goks_cons draft_sound (goks_cons eput_sound (goks_cons value_sound (goks_cons of_sound (goks_cons eget_sound (goks_cons lget_sound goks_nil))))))

theorem eput_ok (e : En) (hw : okW e.1 = true) : eput e = ((eput e).1, 0) := by
  unfold eput; rw [if_pos hw]; split <;> rfl

theorem draftOf_sl (H : AHeap) (b : Nat) (ls : List Nat) (n : Int) (g : Bool) (o : Bool) (hb : H[b]? = some (.cells o (ls.map aB))) (h1 : ∀ c ∈ ls, c < 256) (h2 : ls.length ≤ 9223372036854775807) :
    draftOf H (.agg [.sl b 0 ls.length 1 false, .int .u32 n, .bool g]) = some (ls, n, g) := by
  have : (ls.map aB).take ls.length = ls.map aB := List.take_of_length_le (by simp)
  have h3 : ls.all (fun x => decide (x < 256)) = true := by simpa using h1
  simp only [draftOf, hb, List.drop_zero, this, natsOf_aB]
  rw [if_pos ⟨by simp, h3, h2⟩]

set_option maxHeartbeats 16000000 in
theorem eback_ct (la lb : List Nat) (na nb : Int) (ga gb : Bool) (s : List UInt8) (ha : ∀ c ∈ la, c < 256) (hb : ∀ c ∈ lb, c < 256) (hal : la.length ≤ 9223372036854775807) (hbl : lb.length ≤ 9223372036854775807) (hna : okN na = true) (hnb : okN nb = true) (hs : s.length ≤ 9223372036854775807) :
    Ct Try.prog 4 [.agg [.sl 0 0 la.length 1 false, .int .u32 na, .bool ga], .agg [.sl 1 0 lb.length 1 false, .int .u32 nb, .bool gb], .str s] [.cells false (la.map aB), .cells false (lb.map aB)] (.bool true) [.cells false (la.map aB), .cells false (lb.map aB)] := by
  obtain ⟨xw, xn, xg, hx⟩ : ∃ xw xn xg, dE la na ga = (xw, xn, xg) := ⟨_, _, _, rfl⟩
  obtain ⟨yw, yn, yg, hy⟩ : ∃ yw yn yg, dE lb nb gb = (yw, yn, yg) := ⟨_, _, _, rfl⟩
  obtain ⟨x1, x2, x3⟩ := dE_ok la na ga hna
  obtain ⟨y1, y2, y3⟩ := dE_ok lb nb gb hnb
  rw [hx] at x1 x2 x3
  rw [hy] at y1 y2 y3
  obtain ⟨p, hp⟩ : ∃ p, (eput (xw, xn, xg)).1 = p := ⟨_, rfl⟩
  obtain ⟨q, hq⟩ : ∃ q, (eput (yw, yn, yg)).1 = q := ⟨_, rfl⟩
  have hP : eput (xw, xn, xg) = (p, 0) := by rw [eput_ok _ x1, hp]
  have hQ : eput (yw, yn, yg) = (q, 0) := by rw [eput_ok _ y1, hq]
  have gP := eget_put (xw, xn, xg) x1 x2 x3
  have gQ := eget_put (yw, yn, yg) y1 y2 y3
  rw [hp] at gP
  rw [hq] at gQ
  have xl : xw.length ≤ 255 := ((okW_iff _).1 x1).2
  have yl : yw.length ≤ 255 := ((okW_iff _).1 y1).2
  have pl : p.length ≤ 1000000 := by have := eput_len (xw, xn, xg) x2; rw [hp] at this; dsimp only at this; omega
  have ql : q.length ≤ 1000000 := by have := eput_len (yw, yn, yg) y2; rw [hq] at this; dsimp only at this; omega
  have hv := eof_value (xw, xn, xg) x2 x3
  have hvr : 0 ≤ eval5 (xw, xn, xg) ∧ eval5 (xw, xn, xg) < 18446744073709551616 := by
    simp only [okN, decide_eq_true_eq] at x2
    show 0 ≤ (if xg then (0 : Int) else xn + 1) ∧ (if xg then (0 : Int) else xn + 1) < 18446744073709551616
    split <;> omega
  obtain ⟨hv0, hv1⟩ := hvr
  obtain ⟨bq, hbq⟩ : ∃ bq, (p == q) = bq := ⟨_, rfl⟩
  have hxy : (xw == yw && (xn == yn && (xg == yg && true))) = bq := by
    rw [← hbq, Bool.eq_iff_iff]
    simp only [Bool.and_true, Bool.and_eq_true, beq_iff_eq]
    constructor
    · rintro ⟨rfl, rfl, rfl⟩; rw [← hp, ← hq]
    · intro e
      rw [e, gQ] at gP
      cases gP
      exact ⟨rfl, rfl, rfl⟩
  refine ct_of_sim Try.func4 rfl ?_
  simp only [Try.ntmps4, List.length_cons, List.length_nil, Nat.reduceAdd, Nat.reduceSub, List.replicate, List.cons_append, List.nil_append]
  refine Sim.step hmix ekΓ_ok (n := 0) (by simp; exact ⟨rfl, rfl⟩) (by simp) ?_
  refine Sim.step hmix ekΓ_ok (n := 0) (by simp [ekΓ, trueK]; exact ⟨rfl, rfl⟩) (by simp) ?_
  have d1 : ∀ H : AHeap, H[0]? = some (.cells false (la.map aB)) → draftS [.agg [.sl 0 0 la.length 1 false, .int .u32 na, .bool ga]] H = some (.agg [.str xw, .int .u32 xn, .bool xg], H, []) := fun H h => by
    simp [draftS, readS, draftOf_sl H 0 la na ga false h ha hal, hx, enA]
  have d2 : ∀ H : AHeap, H[1]? = some (.cells false (lb.map aB)) → draftS [.agg [.sl 1 0 lb.length 1 false, .int .u32 nb, .bool gb]] H = some (.agg [.str yw, .int .u32 yn, .bool yg], H, []) := fun H h => by
    simp [draftS, readS, draftOf_sl H 1 lb nb gb false h hb hbl, hy, enA]
  have f0 : free (.sl 0 0 la.length 1 false) = false := rfl
  have f1 : free (.sl 1 0 lb.length 1 false) = false := rfl
  refine Sim.step hmix ekΓ_ok (n := 0) (by simp (decide := true) [ekΓ, d1, d2, f0, f1]; exact ⟨rfl, rfl⟩) (by simp) ?_
  refine Sim.step hmix ekΓ_ok (n := 0) (by simp (decide := true) [ekΓ, eputS, x2, hP]; exact ⟨rfl, rfl⟩) (by simp) ?_
  refine Sim.step hmix ekΓ_ok (n := 0) (by simp (decide := true) [ekΓ, eputS, y2, hQ]; exact ⟨rfl, rfl⟩) (by simp) ?_
  refine Sim.step hmix ekΓ_ok (n := 0) (by simp (decide := true) [ekΓ, valueS, ofS, x2, hv, hv0, hv1, enA]; exact ⟨rfl, rfl⟩) (by simp) ?_
  refine Sim.step hmix ekΓ_ok (n := 0) (by simp (decide := true) [ekΓ, lgetS, pl, ql, gP, gQ, -Bool.and_true, hbq, hxy]; exact ⟨rfl, rfl⟩) (by simp) ?_
  obtain ⟨b, hmin⟩ : ∃ b : Nat, min (s.length : Int) 300 = b := ⟨(min (s.length : Int) 300).toNat, by omega⟩
  have b1 : b ≤ s.length := by omega
  have b1i : (b : Int) ≤ s.length := by omega
  obtain ⟨y, hyy⟩ : ∃ y, s.take b = y := ⟨_, rfl⟩
  have yyl : y.length ≤ 300 := by rw [← hyy, List.length_take]; omega
  have c1 : 1 + y.length ≤ 9223372036854775807 := by omega
  have c2 : y.length + 1 ≤ 9223372036854775807 := by omega
  refine Sim.step hmix ekΓ_ok (n := 0) (by simp (decide := true) [-minA, minA_min, hmin, b1, b1i, hyy]; exact ⟨rfl, rfl⟩) (by simp) ?_
  refine Sim.seq (Sim.step hmix ekΓ_ok (n := 0) (by simp [c1, c2]; exact ⟨rfl, rfl⟩) (by simp) ?_)
  refine Sim.block (Sim.loopW (fun k : Nat => k ≤ 3)
    (fun k => [.top, .top, .str y] ++ List.replicate 88 .top ++ [.agg [.str y, .str (1 :: y), .str (2 :: y)], .int .i64 k] ++ List.replicate 46 .top)
    (fun _ => [.cells false (la.map aB), .cells false (lb.map aB)]) (fun k => 3 - k) 0 (by simp) (by simp) (Weak.mk' [0, 1] (by decide) (by decide) (by simp) (by simp)) fun k hk => ?_)
  by_cases hlt : k < 3
  · obtain ⟨t, ht, htl⟩ : ∃ t : List UInt8, [AV.str y, .str (1 :: y), .str (2 :: y)][k]? = some (.str t) ∧ t.length ≤ 1000000 := by
      match k, hlt with
      | 0, _ => exact ⟨y, rfl, by omega⟩
      | 1, _ => exact ⟨1 :: y, rfl, by simp; omega⟩
      | 2, _ => exact ⟨2 :: y, rfl, by simp; omega⟩
    have ht2 : ∀ h, ([AV.str y, .str (1 :: y), .str (2 :: y)] : List AV)[k]'h = .str t := fun h => by
      rw [List.getElem?_eq_getElem h] at ht
      exact Option.some.inj ht
    have hti : (k : Int) < 3 := by omega
    have hlaw := eget_law t
    obtain ⟨z, c, hg⟩ : ∃ z c, eget t = (z, c) := ⟨_, _, rfl⟩
    rw [hg] at hlaw
    have hw1 : IntKind.i64.wrap ((k : Int) + 1) = k + 1 := wr_i64 (by omega) (by omega)
    refine Sim.step hmix ekΓ_ok (n := 0) (by simp [hlt, hti]; exact ⟨rfl, rfl⟩) (by simp) ?_
    refine Sim.step hmix ekΓ_ok (n := 0) (by simp; exact ⟨rfl, rfl⟩) (by simp) ?_
    refine Sim.seq (Sim.block ?_)
    refine Sim.step hmix ekΓ_ok (n := 0) (by simp [hlt, hti, ht2]; exact ⟨rfl, rfl⟩) (by simp) ?_
    rcases hlaw with ⟨hc, hz⟩ | ⟨hc, hzn, hzp, hzw, hzg⟩
    · dsimp only at hc hz
      subst hz
      refine Sim.step hmix ekΓ_ok (n := 0) (by simp (decide := true) [ekΓ, egetS, htl, hg, enA, noE]; exact ⟨rfl, rfl⟩) (by simp) ?_
      have hcb : (c != 0) = true := by simpa using hc
      refine Sim.exec hmix ekΓ_ok (n := 0) (by simp (decide := true) [hc, hcb]; exact ⟨rfl, rfl, rfl⟩) (by simp) ?_
      dsimp only
      rw [if_pos rfl]
      refine Sim.exec hmix ekΓ_ok (n := 0) (by simp [hw1]; exact ⟨rfl, rfl, rfl⟩) (by simp) ?_
      dsimp only
      exact ⟨k + 1, by omega, Weak.mk' [0, 1] (by decide) (by decide) (by simp) (by simp), by omega⟩
    · dsimp only at hc hzn hzp hzw hzg
      subst hc
      obtain ⟨z1, z2, z3⟩ := z
      dsimp only at hzn hzw hzg
      have l1 := (okW_iff _).1 hzw
      have l1i : (1 : Int) ≤ z1.length := by omega
      have l2i : (z1.length : Int) ≤ 255 := by omega
      have l1n : ¬ (z1.length : Int) < 1 := by omega
      have l2n : ¬ (255 : Int) < z1.length := by omega
      refine Sim.step hmix ekΓ_ok (n := 0) (by simp (decide := true) [ekΓ, egetS, htl, hg, enA]; exact ⟨rfl, rfl⟩) (by simp) ?_
      refine Sim.step hmix ekΓ_ok (n := 0) (by simp; exact ⟨rfl, rfl⟩) (by simp) ?_
      refine Sim.step hmix ekΓ_ok (n := 0) (by simp (decide := true) [ekΓ, eputS, hzn, hzp]; exact ⟨rfl, rfl⟩) (by simp) ?_
      cases z3 with
      | true =>
        have hz2 := hzg rfl
        subst hz2
        refine Sim.exec hmix ekΓ_ok (n := 0) (by simp (decide := true) [l1i, l2i, l1n, l2n]; exact ⟨rfl, rfl, rfl⟩) (by simp) ?_
        dsimp only
        refine Sim.exec hmix ekΓ_ok (n := 0) (by simp [hw1]; exact ⟨rfl, rfl, rfl⟩) (by simp) ?_
        dsimp only
        exact ⟨k + 1, by omega, Weak.mk' [0, 1] (by decide) (by decide) (by simp) (by simp), by omega⟩
      | false =>
        refine Sim.exec hmix ekΓ_ok (n := 0) (by simp (decide := true) [l1i, l2i, l1n, l2n]; exact ⟨rfl, rfl, rfl⟩) (by simp) ?_
        dsimp only
        refine Sim.exec hmix ekΓ_ok (n := 0) (by simp [hw1]; exact ⟨rfl, rfl, rfl⟩) (by simp) ?_
        dsimp only
        exact ⟨k + 1, by omega, Weak.mk' [0, 1] (by decide) (by decide) (by simp) (by simp), by omega⟩
  · have hti : ¬ (k : Int) < 3 := by omega
    refine Sim.exec hmix ekΓ_ok (n := 0) (by simp [hlt, hti]; exact ⟨rfl, rfl, rfl⟩) (by simp) ?_
    dsimp only
    rw [if_pos rfl]
    refine Sim.exec hmix ekΓ_ok (n := 0) (by simp; exact ⟨rfl, rfl, rfl⟩) (by simp) ?_
    exact ⟨.inr rfl, _, by simp; rfl, Weak.mk' [0, 1] (by decide) (by decide) (by simp) (by simp)⟩

end Go.Proofs.Ytndkhkponamplaa
