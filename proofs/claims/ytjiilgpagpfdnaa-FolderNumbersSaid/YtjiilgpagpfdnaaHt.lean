/- The law cedillalaw07.FolderNumbers: joined. -/
import Derived.Test.YtjiilgpagpfdnaaHs
namespace Go.Proofs.Ytjiilgpagpfdnaa
open Go Go.Lib
set_option maxRecDepth 100000
attribute [-simp] drawOk_eq adraw qrun acode aops

set_option maxHeartbeats 16000000 in
theorem numbersF_ct (l : List FA) (hok : ∀ x ∈ l, x.ok) (_hl : l.length ≤ 9223372036854775807) :
    Ct Try.prog 4 [.sl 0 0 l.length 5 false] [.cells false (fasA l)] (.bool true) [.cells false (fasA l)] := by
  have hΓ := fuΓ_ok
  have ffas := frees_fas l
  have hnames := fun i f h1 h2 => nu_names l i f h1 h2
  simp only [bodyOf, Try.f4, Option.getD_some, restC, fstD, inD, nuF, List.cons_append, List.nil_append] at hnames
  refine ct_of_sim Try.func4 rfl ?_
  simp only [Try.ntmps4, List.length_cons, List.length_nil, Nat.reduceAdd, Nat.reduceSub, List.replicate, List.cons_append, List.nil_append]
  refine Sim.step hmix hΓ (n := 0) (by simp; exact ⟨rfl, rfl⟩) (by simp) ?_
  refine Sim.step hmix hΓ (n := 0) (by simp [fuΓ, trueK]; exact ⟨rfl, rfl⟩) (by simp) ?_
  refine Sim.step hmix hΓ (n := 0) (by simp [fuΓ, fnew0S]; exact ⟨rfl, rfl⟩) (by simp) ?_
  refine Sim.step hmix hΓ (n := 0) (by simp; exact ⟨rfl, rfl⟩) (by simp) ?_
  refine Sim.seq (Sim.mono (Q := fun e F' H' => e = .normal ∧ Weak 1 F' H' ([.sl 0 0 l.length 5 false, .top, .bool false] ++ List.replicate 132 .top) [.cells false (fasA l)]) ?_ ?_)
  · refine Sim.step hmix hΓ (n := 0) (by simp; exact ⟨rfl, rfl⟩) (by simp) ?_
    refine Sim.block (Sim.loopW (fun r : Nat × FD => (r.1 ≤ l.length ∧ r.1 ≤ 60) ∧ r.2.numOk ∧ r.2.ok r.1)
      (fun r => nuF l.length r.2.last r.1 ++ List.replicate 129 .top) (fun r => [.cells false (fasA l), .obj true r.2.blks]) (fun r => 60 - r.1) (0, FD.new) (by simp) ⟨⟨by simp, by simp⟩, FD.numOk_new, FD.ok_new⟩ (Weak.mk' [0, 1] (by decide) (by decide) (by simp [FD.new]) (by simp [AWb, ffas])) fun r hr => ?_)
    obtain ⟨i, f⟩ := r
    obtain ⟨⟨hi1, hi2⟩, hnu, hfo⟩ := hr
    dsimp only at hi1 hi2 hnu hfo ⊢
    simp only [nuF]
    by_cases h1 : i < l.length
    rotate_left
    · have hltI : ¬ (i : Int) < l.length := by omega
      refine Sim.exec hmix hΓ (n := 0) (by simp [hltI]; exact ⟨rfl, rfl, rfl⟩) (by simp) ?_
      dsimp only
      rw [if_pos rfl]
      exact ⟨by trivial, Weak.mk' [0] (by decide) (by decide) (by simp) (by simp [AWb, ffas])⟩
    have hltI : (i : Int) < l.length := by omega
    by_cases h60 : i < 60
    rotate_left
    · have h60I : ¬ (i : Int) < 60 := by omega
      refine Sim.exec hmix hΓ (n := 0) (by simp [hltI, h60I]; exact ⟨rfl, rfl, rfl⟩) (by simp) ?_
      dsimp only
      rw [if_pos rfl]
      exact ⟨by trivial, Weak.mk' [0] (by decide) (by decide) (by simp) (by simp [AWb, ffas])⟩
    have h60I : (i : Int) < 60 := by omega
    obtain ⟨x, hx⟩ : ∃ x, l[i] = x := ⟨_, rfl⟩
    have hx' : l[i]? = some x := by rw [List.getElem?_eq_getElem h1, hx]
    have hxo := hok x (List.mem_of_getElem? hx')
    have g1 := fas_get l i h1
    rw [hx] at g1
    have c0 := fas_cell hx' 0 (by omega)
    have c1 := fas_cell hx' 1 (by omega)
    have c3 := fas_cell hx' 3 (by omega)
    have k1 : i * 5 + 5 ≤ l.length * 5 := by omega
    have hw : IntKind.i64.wrap ((i : Int) + 1) = i + 1 := wr_i64 (by omega) (by omega)
    have hal : f.acts.length ≤ 1000000 := by have := hfo.len; omega
    have hwn : IntKind.i64.wrap x.n = x.n := wr_i64 (by have := hxo.n; omega) (by have := hxo.n; omega)
    have hxw := hxo.w
    have hxa := hxo.a
    have ia2 : (x.a : Int) ≤ 255 := by omega
    have la2 : (nameF x.a).length ≤ 9223372036854775807 := by have := nameF_len x.a; omega
    simp only [faA, List.getElem?_cons_zero, List.getElem?_cons_succ, Nat.add_zero] at c0 c1 c3
    have e0 : ∀ h, (fasA l)[i * 5]'h = .int .u8 x.w := fun h => by rw [List.getElem?_eq_getElem h] at c0; exact Option.some.inj c0
    obtain ⟨q, hq⟩ : ∃ q, x.w % 3 = q := ⟨_, rfl⟩
    have ht : (x.w : Int).tmod 3 = q := by rw [Int.tmod_eq_emod_of_nonneg (by omega)]; omega
    have hwr : IntKind.u8.wrap (q : Int) = q := wr_u8 (by omega) (by omega)
    obtain ⟨q7, hq7⟩ : ∃ q, x.w % 7 = q := ⟨_, rfl⟩
    have ht7 : (x.w : Int).tmod 7 = q7 := by rw [Int.tmod_eq_emod_of_nonneg (by omega)]; omega
    have hwr7 : IntKind.u8.wrap (q7 : Int) = q7 := wr_u8 (by omega) (by omega)
    refine Sim.step hmix hΓ (n := 0) (by simp [hltI, h60I]; exact ⟨rfl, rfl⟩) (by simp) ?_
    refine Sim.seq (Sim.block ?_)
    -- what survives
    refine Sim.seq (Sim.mono (Q := fun e F' H' => e = .normal ∧ ∃ f1 : FD, f1.numOk ∧ f1.ok i ∧ LessF (nuF l.length f1.last i ++ List.replicate 129 .top) F' ∧ H' = [.cells false (fasA l), .obj true f1.blks]) ?_ ?_)
    · by_cases h6 : q7 = 6
      · subst h6
        refine Sim.exec hmix hΓ (n := 0) (by simp (decide := true) [h1, e0, ht7, c3, hwn, fuΓ, fsurvS, hal]; exact ⟨rfl, rfl, rfl⟩) (by simp) ?_
        exact ⟨rfl, f.survive x.n, FD.numOk_survive hnu _, FD.ok_survive hfo _, by simp [nuF, FD.survive], rfl⟩
      · have h6b : ((q7 : Int) == 6) = false := by simp; omega
        refine Sim.exec hmix hΓ (n := 0) (by simp (decide := true) [h1, e0, ht7, h6b]; exact ⟨rfl, rfl, rfl⟩) (by simp) ?_
        exact ⟨rfl, f, hnu, hfo, by simp [nuF], rfl⟩
    rintro e F' H' hlen ⟨rfl, f1, hnu1, hfo1, hF, rfl⟩
    dsimp only
    refine Sim.less hF ?_
    clear hF hlen
    simp only [nuF, List.cons_append, List.nil_append]
    have hsm1 : f1.small := FD.ok_mono hfo1 (by omega)
    -- what is done
    refine Sim.seq (Sim.mono (Q := fun e F' H' => e = .normal ∧ ∃ f2 : FD, f2.numOk ∧ f2.ok (i + 1) ∧ LessF (nuF l.length f2.last i ++ List.replicate 129 .top) F' ∧ H' = [.cells false (fasA l), .obj true f2.blks]) ?_ ?_)
    · have hnu2 := FD.numOk_does hnu1 x
      have hfo2 := FD.ok_does hfo1 x
      by_cases h0 : q = 0
      · subst h0
        have hd : f1.does x = (f1.create (nameF x.a)).1 := by unfold FD.does; rw [if_pos hq]
        rw [hd] at hnu2 hfo2
        have hlo := hnu1.1
        by_cases hg : NM.get f1.now (nameF x.a) = none
        · have hc : f1.create (nameF x.a) = (⟨f1.d, f1.acts ++ [.cre (nameF x.a) (f1.last + 1)], f1.last + 1⟩, f1.last + 1, 0) := by unfold FD.create; rw [if_pos (nameF_may _), hg]
          rw [hc] at hnu2 hfo2
          have hmx : max f1.last (f1.last + 1) = f1.last + 1 := by omega
          have hlt1 : f1.last < f1.last + 1 := by omega
          refine Sim.exec hmix hΓ (n := 0) (by simp (decide := true) [h1, e0, ht, c1, ia2, la2, fuΓ, nameS, fcreS, hsm1, hc, hlt1]; exact ⟨rfl, rfl, rfl⟩) (by simp) ?_
          exact ⟨rfl, _, hnu2, hfo2, by simp [nuF], rfl⟩
        · obtain ⟨v, hv⟩ := Option.ne_none_iff_exists'.1 hg
          have hc : f1.create (nameF x.a) = (f1, 0, 8) := by unfold FD.create; rw [if_pos (nameF_may _), hv]
          rw [hc] at hnu2 hfo2
          have hmx : max f1.last 0 = f1.last := by omega
          have hlt1 : ¬ f1.last < 0 := by omega
          refine Sim.exec hmix hΓ (n := 0) (by simp (decide := true) [h1, e0, ht, c1, ia2, la2, fuΓ, nameS, fcreS, hsm1, hc, hlt1]; exact ⟨rfl, rfl, rfl⟩) (by simp) ?_
          exact ⟨rfl, f1, hnu2, hfo2, by simp [nuF], rfl⟩
      · have h0b : ((q : Int) == 0) = false := by simp; omega
        have hds := doesFS_at (H := [.cells false (fasA l), .obj true f1.blks]) (c := 1) rfl hxo hsm1
        have hdl := does_last f1 x (by omega)
        simp only [faA] at hds g1
        refine Sim.exec hmix hΓ (n := 0) (by simp (decide := true) [h1, k1, g1, e0, ht, h0b, fuΓ, hds]; exact ⟨rfl, rfl, rfl⟩) (by simp) ?_
        exact ⟨rfl, f1.does x, hnu2, hfo2, by simp [nuF, hdl], rfl⟩
    rintro e F' H' hlen ⟨rfl, f2, hnu2, hfo2, hF, rfl⟩
    dsimp only
    refine Sim.less hF ?_
    clear hF hlen
    simp only [nuF, List.cons_append, List.nil_append]
    have hsm2 : f2.small := FD.ok_mono hfo2 (by omega)
    have n1 := fnames_at (H := [.cells false (fasA l), .obj true f2.blks]) (b := 1) rfl hsm2
    simp only [List.length_cons, List.length_nil, Nat.reduceAdd, List.cons_append, List.nil_append] at n1
    have fks : ∀ rn : List Nat, AWs rn (f2.names.map AV.str) (f2.names.map AV.str) := fun rn => (AWs_free (frees_map f2.names AV.str fun _ => rfl)).2 trivial
    refine Sim.step hmix hΓ (n := 0) (by simp [fuΓ, n1]; exact ⟨rfl, rfl⟩) (by simp) ?_
    refine Sim.step hmix hΓ (n := 0) (by simp; exact ⟨rfl, rfl⟩) (by simp) ?_
    refine Sim.weak (Weak.mk' [0, 1, 2, 3] (by decide) (by decide) ?_ ?_) (by simp) (Sim.mono (hnames i f2 hnu2 hsm2) ?_)
    · simp
    · simp [AWb, ffas]
    rintro e F' H' hlen ⟨rfl, hwk⟩
    dsimp only
    refine Sim.weak hwk hlen ?_
    clear hwk hlen
    refine Sim.exec hmix hΓ (n := 0) (by simp [hw]; exact ⟨rfl, rfl, rfl⟩) (by simp) ?_
    dsimp only
    exact ⟨(i + 1, f2), ⟨⟨by dsimp only; omega, by dsimp only; omega⟩, hnu2, hfo2⟩, Weak.mk' [0, 1] (by decide) (by decide) (by simp) (by simp [AWb, ffas]), by dsimp only; omega⟩
  rintro e F' H' hlen ⟨rfl, hwk⟩
  dsimp only
  refine Sim.weak hwk hlen ?_
  clear hwk hlen
  refine Sim.exec hmix hΓ (n := 0) (by simp; exact ⟨rfl, rfl, rfl⟩) (by simp) ?_
  exact ⟨.inr rfl, _, by simp [Try.f4] <;> rfl, Weak.mk' [0] (by decide) (by decide) (by simp) (by simp [ffas])⟩

def folderNumbers_shape : List (Bool × List CT) := [(false, [.row [.int .u8, .int .u8, .int .u8, .int .i8, .str]])]

theorem folderNumbers_law : ∀ xs H, AbsArgs folderNumbers_shape 0 xs H → ∃ H', Ct Try.prog 4 xs H (.bool true) H' := by
  intro xs H h0
  obtain ⟨y1, zs1, l1, n1, H1, rfl, rfl, hy1, hm1, hl1, h1⟩ := absArgs_row h0
  obtain ⟨l, rfl, rfl, hl⟩ := row_fas hl1
  obtain ⟨rfl, rfl⟩ := absArgs_nil h1
  unfold maxLen at hm1
  refine ⟨_, ct_args (numbersF_ct l hl (by omega)) fun j vs hv => ?_⟩
  simp only [VRs] at hv ⊢
  obtain ⟨v1, w1, e1, g1, r⟩ := hv
  exact ⟨v1, w1, e1, VR_arg_sl hy1 g1, r⟩

end Go.Proofs.Ytjiilgpagpfdnaa
