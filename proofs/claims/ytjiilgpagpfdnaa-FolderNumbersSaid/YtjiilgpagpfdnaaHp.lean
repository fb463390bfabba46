/- The law cedillalaw07.FolderApart: the walk. -/
import Derived.Test.YtjiilgpagpfdnaaHm
import Derived.Test.YtjiilgpagpfdnaaHw
namespace Go.Proofs.Ytjiilgpagpfdnaa
open Go Go.Lib
set_option maxRecDepth 100000
attribute [-simp] drawOk_eq adraw qrun acode aops

theorem FD.ok_does {f : FD} {B : Nat} (h : f.ok B) (x : FA) : (f.does x).ok (B + 1) := by
  unfold FD.does
  split
  · exact FD.ok_create h _
  split
  · exact FD.ok_rename h _ _
  · exact FD.ok_remove h _

noncomputable def faΓ : Gam := gams [(6, trueK), (7, fnew0S), (16, nameS), (17, fcreS), (9, fsyn0S), (15, ffindS), (14, fsurvS), (8, doesFS)]
theorem faΓ_ok : GOk Try.prog faΓ := goks_cons hw_sound (goks_cons fnew0_sound (goks_cons name_sound (goks_cons fcre_sound (goks_cons fsyn0_sound (goks_cons ffind_sound (goks_cons fsurv_sound (goks_cons doesF_sound goks_nil)))))))

theorem doesFS_at {H : AHeap} {c : Nat} {f : FD} {x : FA} (hc : H[c]? = some (.obj true f.blks)) (hx : x.ok) (hf : f.small) : doesFS [.agg (faA x), .ptr c 0] H = some (.tuple [], H.set c (.obj true (f.does x).blks), [c]) := by
  obtain ⟨w, a, b, n, r⟩ := x
  obtain ⟨hw, ha, hb, hn⟩ := hx
  dsimp only at hw ha hb hn
  simp only [doesFS, faA, hc, fdOf_blks]
  rw [if_pos ⟨⟨by omega, by omega⟩, ⟨by omega, by omega⟩, ⟨by omega, by omega⟩, hn, hf⟩]
  simp

theorem find_own {f : FD} {q : Option Int} (h : f.each (ownP q)) : f.find ownW = (q.map fun v => (v, true)).getD (0, false) := by
  unfold FD.find
  rw [(FD.each_now h).2]
  cases q <;> rfl

/-- A folder of which a name of its own is there, or not. -/
def fdOwn (th : Bool) : FD := ⟨if th then [(ownW, 1)] else [], [], if th then 1 else 0⟩
def qOwn (th : Bool) : Option Int := if th then some 1 else none
def nOwn (th : Bool) : Int := if th then 1 else 0
theorem own_start (th : Bool) : (fdOwn th).each (ownP (qOwn th)) ∧ (fdOwn th).ok 2 := by
  cases th
  · refine ⟨fun i hi => ⟨?_, ?_⟩, ⟨by decide, by decide, by decide, fun k hk => by simp [fdOwn, NM.keys] at hk, fun x hx => by simp [fdOwn] at hx⟩⟩
    · simp [fdOwn, druns, NM.nd, NM.keys]
    · simp [fdOwn, druns, NM.get, qOwn]
  · refine ⟨fun i hi => ⟨?_, ?_⟩, ⟨by decide, by decide, by decide, fun k hk => by simp [fdOwn, NM.keys] at hk; subst hk; decide, fun x hx => by simp [fdOwn] at hx⟩⟩
    · simp [fdOwn, druns, NM.nd, NM.keys]
    · simp [fdOwn, druns, NM.get, qOwn]
theorem find_th {f : FD} {th : Bool} (h : f.each (ownP (qOwn th))) : f.find [111, 119, 110] = (nOwn th, th) := by
  have := find_own h
  rw [show f.find [111, 119, 110] = f.find ownW from rfl, this]
  cases th <;> rfl

abbrev apF (L : Nat) (n : Int) (th : Bool) : List AV := [.sl 0 0 L 5 false, .int .i8 n, .bool th, .top, .top, .top, .bool false, .ptr 1 0, .int .i64 (nOwn th)]

set_option maxHeartbeats 16000000 in
theorem apart_ct (l : List FA) (hok : ∀ x ∈ l, x.ok) (_hl : l.length ≤ 9223372036854775807) (n : Int) (hn : -128 ≤ n ∧ n ≤ 127) (th : Bool) :
    Ct Try.prog 5 [.sl 0 0 l.length 5 false, .int .i8 n, .bool th] [.cells false (fasA l)] (.bool true) [.cells false (fasA l)] := by
  have hΓ := faΓ_ok
  have hwn : IntKind.i64.wrap n = n := wr_i64 (by omega) (by omega)
  have ffas := frees_fas l
  refine ct_of_sim Try.func5 rfl ?_
  simp only [Try.ntmps5, List.length_cons, List.length_nil, Nat.reduceAdd, Nat.reduceSub, List.replicate, List.cons_append, List.nil_append]
  refine Sim.step hmix hΓ (n := 0) (by simp; exact ⟨rfl, rfl⟩) (by simp) ?_
  refine Sim.step hmix hΓ (n := 0) (by simp [faΓ, trueK]; exact ⟨rfl, rfl⟩) (by simp) ?_
  refine Sim.step hmix hΓ (n := 0) (by simp [faΓ, fnew0S]; exact ⟨rfl, rfl⟩) (by simp) ?_
  refine Sim.step hmix hΓ (n := 0) (by simp; exact ⟨rfl, rfl⟩) (by simp) ?_
  refine Sim.seq (Sim.mono (Q := fun e F' H' => e = .normal ∧ ∃ f : FD, f.survive f.acts.length = fdOwn th ∧ f.acts.length ≤ 1000000 ∧ LessF (apF l.length n th ++ List.replicate 125 .top) F' ∧ H' = [.cells false (fasA l), .obj true f.blks]) ?_ ?_)
  · cases th
    · refine Sim.exec hmix hΓ (n := 0) (by simp; exact ⟨rfl, rfl, rfl⟩) (by simp) ?_
      exact ⟨rfl, FD.new, rfl, by decide, by simp [apF, nOwn], rfl⟩
    · have hs0 : FD.new.small := FD.ok_mono FD.ok_new (by decide)
      have hc : FD.new.create [111, 119, 110] = (⟨[], [.cre ownW 1], 1⟩, 1, 0) := rfl
      refine Sim.exec hmix hΓ (n := 0) (by simp [faΓ, fcreS, hs0, hc]; exact ⟨rfl, rfl, rfl⟩) (by simp) ?_
      exact ⟨rfl, ⟨[], [.cre ownW 1], 1⟩, rfl, by decide, by simp [apF, nOwn], rfl⟩
  rintro e F' H' hlen ⟨rfl, f, hfs, hfa, hF, rfl⟩
  dsimp only
  refine Sim.less hF ?_
  clear hF hlen
  simp only [apF, List.cons_append, List.nil_append]
  refine Sim.step hmix hΓ (n := 0) (by simp [faΓ, fsyn0S, hfa, hfs]; exact ⟨rfl, rfl⟩) (by simp) ?_
  obtain ⟨hst1, hst2⟩ := own_start th
  refine Sim.seq (Sim.mono (Q := fun e F' H' => e = .normal ∧ ∃ f : FD, f.each (ownP (qOwn th)) ∧ f.ok 100 ∧ Weak 1 F' H' (apF l.length n th ++ List.replicate 125 .top) [.cells false (fasA l), .obj true f.blks]) ?_ ?_)
  · refine Sim.step hmix hΓ (n := 0) (by simp; exact ⟨rfl, rfl⟩) (by simp) ?_
    refine Sim.block (Sim.loopW (fun r : Nat × FD => (r.1 ≤ l.length ∧ r.1 ≤ 40) ∧ r.2.each (ownP (qOwn th)) ∧ r.2.ok (2 + r.1))
      (fun r => apF l.length n th ++ [.int .i64 r.1] ++ List.replicate 124 .top) (fun r => [.cells false (fasA l), .obj true r.2.blks]) (fun r => 40 - r.1) (0, fdOwn th) (by simp) ⟨⟨by simp, by simp⟩, hst1, hst2⟩ (Weak.mk' [0, 1] (by decide) (by decide) (by simp) (by simp [AWb, ffas])) fun r hr => ?_)
    obtain ⟨i, f⟩ := r
    obtain ⟨⟨hi1, hi2⟩, hea, hfo⟩ := hr
    dsimp only at hi1 hi2 hea hfo ⊢
    simp only [apF]
    by_cases hlt : i < l.length ∧ i < 40
    rotate_left
    · have fin : ∀ {F' : List AV}, LessF (apF l.length n th ++ List.replicate 125 .top) F' → True := fun _ => trivial
      by_cases h1 : i < l.length
      · have hltI : (i : Int) < l.length := by omega
        have h40 : ¬ (i : Int) < 40 := by omega
        refine Sim.exec hmix hΓ (n := 0) (by simp [hltI, h40]; exact ⟨rfl, rfl, rfl⟩) (by simp) ?_
        dsimp only
        rw [if_pos rfl]
        exact ⟨by trivial, f, hea, FD.ok_mono hfo (by omega), Weak.mk' [0, 1] (by decide) (by decide) (by simp) (by simp [AWb, ffas])⟩
      · have hltI : ¬ (i : Int) < l.length := by omega
        refine Sim.exec hmix hΓ (n := 0) (by simp [hltI]; exact ⟨rfl, rfl, rfl⟩) (by simp) ?_
        dsimp only
        rw [if_pos rfl]
        exact ⟨by trivial, f, hea, FD.ok_mono hfo (by omega), Weak.mk' [0, 1] (by decide) (by decide) (by simp) (by simp [AWb, ffas])⟩
    obtain ⟨hlt, h40⟩ := hlt
    have hltI : (i : Int) < l.length := by omega
    have h40I : (i : Int) < 40 := by omega
    obtain ⟨x, hx⟩ : ∃ x, l[i] = x := ⟨_, rfl⟩
    have hx' : l[i]? = some x := by rw [List.getElem?_eq_getElem hlt, hx]
    have hxo := hok x (List.mem_of_getElem? hx')
    have g1 := fas_get l i hlt
    rw [hx] at g1
    have c0 := fas_cell hx' 0 (by omega)
    have c1 := fas_cell hx' 1 (by omega)
    have c2 := fas_cell hx' 2 (by omega)
    have c3 := fas_cell hx' 3 (by omega)
    have k1 : i * 5 + 5 ≤ l.length * 5 := by omega
    have hsm : f.small := FD.ok_mono hfo (by omega)
    have hsm' : (f.does x).ok (3 + i) := FD.ok_mono (FD.ok_does hfo x) (by omega)
    have hea' := FD.own_does hea x
    have hds := doesFS_at (H := [.cells false (fasA l), .obj true f.blks]) (c := 1) rfl hxo hsm
    have ha2 : (f.does x).acts.length ≤ 1000000 := by have := hsm'.len; omega
    have hfo2 := find_th hea'
    have htk := fun h v => FD.rename_takes (f := f) x h (n := v)
    have hw : IntKind.i64.wrap ((i : Int) + 1) = i + 1 := wr_i64 (by omega) (by omega)
    have hns := FD.each_survive hea' n
    have hnk := FD.ok_survive hsm' n
    obtain ⟨f', hf'⟩ : ∃ f', f.does x = f' := ⟨_, rfl⟩
    rw [hf'] at hsm' hea' hds ha2 hfo2 htk hns hnk
    obtain ⟨w, a, b, m, r⟩ := x
    obtain ⟨hxw, hxa, hxb, hxn⟩ := hxo
    simp only [faA, List.getElem?_cons_zero, List.getElem?_cons_succ, Nat.add_zero] at c0 c1 c2 c3 g1 hds
    dsimp only at hxw hxa hxb hxn htk
    have e0 : ∀ h, (fasA l)[i * 5]'h = .int .u8 w := fun h => by rw [List.getElem?_eq_getElem h] at c0; exact Option.some.inj c0
    have ia2 : (a : Int) ≤ 255 := by omega
    have ib2 : (b : Int) ≤ 255 := by omega
    obtain ⟨q, hq⟩ : ∃ q, w % 3 = q := ⟨_, rfl⟩
    have ht : (w : Int).tmod 3 = q := by rw [Int.tmod_eq_emod_of_nonneg (by omega)]; omega
    have hwr : IntKind.u8.wrap (q : Int) = q := wr_u8 (by omega) (by omega)
    obtain ⟨⟨v, is⟩, hfa1⟩ : ∃ p, f.find (nameF a) = p := ⟨_, rfl⟩
    refine Sim.step hmix hΓ (n := 0) (by simp [hltI, h40I]; exact ⟨rfl, rfl⟩) (by simp) ?_
    refine Sim.seq (Sim.block ?_)
    refine Sim.step hmix hΓ (n := 0) (by simp (decide := true) [hlt, c1, c2, faΓ, nameS, ia2, ib2]; first | exact ⟨rfl, rfl⟩ | exact ⟨by kernel_rfl, rfl, rfl⟩) (by simp) ?_
    refine Sim.step hmix hΓ (n := 0) (by simp [faΓ, ffindS, hfa1]; exact ⟨rfl, rfl⟩) (by simp) ?_
    refine Sim.step hmix hΓ (n := 0) (by simp [hlt, k1, g1, faΓ, hds]; exact ⟨rfl, rfl⟩) (by simp) ?_
    refine Sim.seq (Sim.mono (Q := fun e F' H' => e = .normal ∧ LessF (apF l.length n th ++ [.int .i64 i] ++ List.replicate 124 .top) F' ∧ H' = [.cells false (fasA l), .obj true f'.blks]) ?_ ?_)
    · by_cases hren : q = 1 ∧ is = true
      · obtain ⟨rfl, rfl⟩ := hren
        have hget : NM.get f.now (nameF a) = some v := by
          unfold FD.find at hfa1
          cases hg : NM.get f.now (nameF a) with
          | none => rw [hg] at hfa1; cases hfa1
          | some u => rw [hg] at hfa1; cases hfa1; rfl
        have hb1 : f'.find (nameF b) = (v, true) := by
          unfold FD.find
          rw [htk hq v hget]
        refine Sim.exec hmix hΓ (n := 0) (by simp (decide := true) [hlt, e0, ht, faΓ, ffindS, hb1]; exact ⟨rfl, rfl, rfl⟩) (by simp) ?_
        exact ⟨rfl, by simp [apF], rfl⟩
      · by_cases hq1 : q = 1
        · subst hq1
          have hisf : is = false := by simpa using hren
          subst hisf
          refine Sim.exec hmix hΓ (n := 0) (by simp (decide := true) [hlt, e0, ht]; exact ⟨rfl, rfl, rfl⟩) (by simp) ?_
          exact ⟨rfl, by simp [apF], rfl⟩
        · have hq1b : ((q : Int) == 1) = false := by simp; omega
          refine Sim.exec hmix hΓ (n := 0) (by simp (decide := true) [hlt, e0, ht, hq1b]; exact ⟨rfl, rfl, rfl⟩) (by simp) ?_
          exact ⟨rfl, by simp [apF], rfl⟩
    rintro e F' H' hlen ⟨rfl, hF, rfl⟩
    dsimp only
    refine Sim.less hF ?_
    clear hF hlen
    simp only [apF, List.cons_append, List.nil_append]
    refine Sim.step hmix hΓ (n := 0) (by simp (decide := true) [faΓ, ffindS, hfo2]; exact ⟨rfl, rfl⟩) (by simp) ?_
    by_cases hm3 : m = 3
    · subst hm3
      refine Sim.exec hmix hΓ (n := 0) (by simp (decide := true) [hlt, c3, hwn, faΓ, fsurvS, ha2]; exact ⟨rfl, rfl, rfl⟩) (by simp) ?_
      dsimp only
      refine Sim.exec hmix hΓ (n := 0) (by simp [hw]; exact ⟨rfl, rfl, rfl⟩) (by simp) ?_
      dsimp only
      exact ⟨(i + 1, f'.survive n), ⟨⟨by dsimp only; omega, by dsimp only; omega⟩, hns, FD.ok_mono hnk (by dsimp only; omega)⟩, Weak.mk' [0, 1] (by decide) (by decide) (by simp) (by simp [AWb, ffas]), by dsimp only; omega⟩
    · have hm3b : (m == 3) = false := by simpa using hm3
      refine Sim.exec hmix hΓ (n := 0) (by simp (decide := true) [hlt, c3, hm3b]; exact ⟨rfl, rfl, rfl⟩) (by simp) ?_
      dsimp only
      refine Sim.exec hmix hΓ (n := 0) (by simp [hw]; exact ⟨rfl, rfl, rfl⟩) (by simp) ?_
      dsimp only
      exact ⟨(i + 1, f'), ⟨⟨by dsimp only; omega, by dsimp only; omega⟩, hea', FD.ok_mono hsm' (by dsimp only; omega)⟩, Weak.mk' [0, 1] (by decide) (by decide) (by simp) (by simp [AWb, ffas]), by dsimp only; omega⟩
  rintro e F' H' hlen ⟨rfl, f, hea, hfo, hwk⟩
  dsimp only
  refine Sim.weak hwk hlen ?_
  clear hwk hlen
  simp only [apF, List.cons_append, List.nil_append]
  have ha2 : f.acts.length ≤ 1000000 := by have := hfo.len; omega
  have hfo2 := find_th (FD.each_survive hea n)
  refine Sim.step hmix hΓ (n := 0) (by simp [hwn, faΓ, fsurvS, ha2]; exact ⟨rfl, rfl⟩) (by simp) ?_
  refine Sim.step hmix hΓ (n := 0) (by simp [faΓ, ffindS, hfo2]; exact ⟨rfl, rfl⟩) (by simp) ?_
  cases th
  · refine Sim.exec hmix hΓ (n := 0) (by simp (decide := true) [nOwn]; exact ⟨rfl, rfl, rfl⟩) (by simp) ?_
    exact ⟨.inr rfl, _, by simp [Try.f5] <;> rfl, Weak.mk' [0] (by decide) (by decide) (by simp) (by simp [ffas])⟩
  · refine Sim.exec hmix hΓ (n := 0) (by simp (decide := true) [nOwn]; exact ⟨rfl, rfl, rfl⟩) (by simp) ?_
    exact ⟨.inr rfl, _, by simp [Try.f5] <;> rfl, Weak.mk' [0] (by decide) (by decide) (by simp) (by simp [ffas])⟩

def folderApart_shape : List (Bool × List CT) := [(false, [.row [.int .u8, .int .u8, .int .u8, .int .i8, .str]]), (false, [.one (.int .i8)]), (false, [.one .bool])]

theorem folderApart_law : ∀ xs H, AbsArgs folderApart_shape 0 xs H → ∃ H', Ct Try.prog 5 xs H (.bool true) H' := by
  intro xs H h0
  obtain ⟨y1, zs1, l1, n1, H1, rfl, rfl, hy1, hm1, hl1, h1⟩ := absArgs_row h0
  obtain ⟨l, rfl, rfl, hl⟩ := row_fas hl1
  obtain ⟨x, ys, rfl, ⟨n, rfl, hn⟩, h2⟩ := absArgs_one h1
  obtain ⟨x2, ys2, rfl, ⟨th, rfl⟩, h3⟩ := absArgs_one h2
  obtain ⟨rfl, rfl⟩ := absArgs_nil h3
  unfold maxLen at hm1
  refine ⟨_, ct_args (apart_ct l hl (by omega) n (bounds_i8 hn) th) fun j vs hv => ?_⟩
  simp only [VRs] at hv ⊢
  obtain ⟨v1, w1, e1, g1, r⟩ := hv
  exact ⟨v1, w1, e1, VR_arg_sl hy1 g1, r⟩

end Go.Proofs.Ytjiilgpagpfdnaa
