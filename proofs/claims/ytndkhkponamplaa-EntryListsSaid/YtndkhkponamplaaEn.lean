/- The document's one and With of rows of entries. -/
import Derived.Test.YtndkhkponamplaaEj
import Derived.Test.YtndkhkponamplaaEh
namespace Go.Proofs.Ytndkhkponamplaa
open Go
set_option maxRecDepth 100000
attribute [-simp] drawOk_eq adraw qrun acode aops

def oneE (l : List En) (e : En) : List En := l.takeWhile (fun x => Op.bytesLess x.1 e.1) ++ bareE e :: l.filter (fun x => Op.bytesLess e.1 x.1)

theorem mem_takeWhile_asc (w : List UInt8) (x : En) : ∀ {l : List En}, asc l → x ∈ l → x.1 < w → x ∈ l.takeWhile (fun x => Op.bytesLess x.1 w)
  | [], _, h, _ => h
  | y :: l, ha, h, hx => by
    obtain ⟨h1, h2⟩ := List.pairwise_cons.1 ha
    have hy : y.1 < w := by
      rcases List.mem_cons.1 h with rfl | h
      · exact hx
      · exact List.lt_trans (h1 x h) hx
    rw [List.takeWhile_cons, if_pos (by rw [bl_eq]; simpa using hy)]
    rcases List.mem_cons.1 h with rfl | h
    · exact List.mem_cons_self ..
    · exact List.mem_cons_of_mem _ (mem_takeWhile_asc w x h2 h hx)

theorem takeWhile_lt {w : List UInt8} {x : En} : ∀ {l : List En}, x ∈ l.takeWhile (fun x => Op.bytesLess x.1 w) → x.1 < w
  | [], h => by cases h
  | y :: l, h => by
    rw [List.takeWhile_cons] at h
    split at h
    · rename_i hy
      rcases List.mem_cons.1 h with rfl | h
      · rw [bl_eq] at hy; simpa using hy
      · exact takeWhile_lt h
    · cases h

theorem oneE_ins {l : List En} (h : asc l) (e : En) : oneE l e = insE l e := by
  have hb := bare_word e
  refine asc_ext ?_ (asc_ins h e) fun x => ?_
  · unfold oneE asc
    rw [List.pairwise_append]
    refine ⟨h.sublist (List.takeWhile_sublist _), List.pairwise_cons.2 ⟨fun y hy => ?_, h.sublist List.filter_sublist⟩, fun x hx y hy => ?_⟩
    · rw [hb]
      have := (List.mem_filter.1 hy).2
      rw [bl_eq] at this
      simpa using this
    · have h1 := takeWhile_lt hx
      rcases List.mem_cons.1 hy with rfl | hy
      · rw [hb]; exact h1
      · have := (List.mem_filter.1 hy).2
        rw [bl_eq] at this
        exact List.lt_trans h1 (by simpa using this)
  · rw [mem_ins h]
    unfold oneE
    rw [List.mem_append, List.mem_cons]
    constructor
    · rintro (hx | hx | hx)
      · exact .inr ⟨(List.takeWhile_sublist _).subset hx, fun he => by have := takeWhile_lt hx; rw [he] at this; exact List.lt_irrefl _ this⟩
      · exact .inl hx
      · have h1 := List.mem_filter.1 hx
        have h2 := h1.2
        rw [bl_eq] at h2
        have h2 : e.1 < x.1 := by simpa using h2
        exact .inr ⟨h1.1, fun he => by rw [he] at h2; exact List.lt_irrefl _ h2⟩
    · rintro (hx | ⟨hx, hne⟩)
      · exact .inr (.inl hx)
      · by_cases hlt : x.1 < e.1
        · exact .inl (mem_takeWhile_asc _ _ h hx hlt)
        · refine .inr (.inr (List.mem_filter.2 ⟨hx, ?_⟩))
          rw [bl_eq]
          have : e.1 < x.1 := by
            rcases Classical.em (e.1 < x.1) with h' | h'
            · exact h'
            · exact absurd (List.le_antisymm (List.not_lt.1 h') (List.not_lt.1 hlt)) hne
          simpa using this

theorem oneE_length (l : List En) (e : En) : (oneE l e).length ≤ 2 * l.length + 1 := by
  unfold oneE
  have h1 := List.Sublist.length_le (List.takeWhile_sublist (l := l) (fun x => Op.bytesLess x.1 e.1))
  have h2 := List.length_filter_le (fun x => Op.bytesLess e.1 x.1) l
  rw [List.length_append, List.length_cons]
  omega

theorem filter_snoc (p : En → Bool) (l : List En) (k : Nat) (e : En) (h : l[k]? = some e) : (l.take (k + 1)).filter p = (l.take k).filter p ++ (if p e then [e] else []) := by
  rw [List.take_add_one, h, List.filter_append]
  cases hp : p e <;> simp [hp]

def onΓ : Gam := gams [(37, bareS)]
theorem onΓ_ok : GOk Try.prog onΓ := goks_cons bare_sound goks_nil

set_option maxHeartbeats 16000000 in
theorem one_ct (l : List En) (e : En) (hl : l.length ≤ 1000000) :
    Ct Try.prog 41 [.sl 0 0 l.length 3 false, .agg (enA e)] [.cells false (ensA l)] (.sl 1 0 (oneE l e).length 3 false) [.cells false (ensA l), .cells true (ensA (oneE l e))] := by
  refine ct_of_sim Try.func41 rfl ?_
  simp only [Try.ntmps41, List.length_cons, List.length_nil, Nat.reduceAdd, Nat.reduceSub, List.replicate, List.cons_append, List.nil_append]
  obtain ⟨res, hres⟩ : ∃ r, oneE l e = r := ⟨_, rfl⟩
  rw [hres]
  obtain ⟨ew, en, eg⟩ := e
  obtain ⟨bw, bn, bg, hbare⟩ : ∃ bw bn bg, bareE (ew, en, eg) = (bw, bn, bg) := ⟨_, _, _, rfl⟩
  unfold oneE at hres
  rw [hbare] at hres
  dsimp only at hres
  obtain ⟨pre, hpre⟩ : ∃ p, l.takeWhile (fun x => Op.bytesLess x.1 ew) = p := ⟨_, rfl⟩
  rw [hpre] at hres
  refine Sim.step hmix onΓ_ok (n := 0) (by simp [enA]; exact ⟨rfl, rfl⟩) (by simp) ?_
  refine Sim.step hmix onΓ_ok (n := 0) (by simp; exact ⟨rfl, rfl⟩) (by simp) ?_
  refine Sim.seq (Sim.step hmix onΓ_ok (n := 0) (by simp; exact ⟨rfl, rfl⟩) (by simp) ?_)
  refine Sim.block (Sim.loopW (fun k : Nat => k ≤ l.length ∧ l.take k ++ (l.drop k).takeWhile (fun x => Op.bytesLess x.1 ew) = pre)
    (fun k => [.sl 0 0 l.length 3 false, .top, .top, .ptr 1 0, .top, .sl 2 0 k 3 false, .int .i64 k] ++ List.replicate 51 .top)
    (fun k => [.cells false (ensA l), .cells true [.str ew, .int .u32 en, .bool eg], .cells true (ensA (l.take k))]) (fun k => l.length - k) 0 (by simp) ⟨by simp, by simpa using hpre⟩ (Weak.mk' [0, 1, 100] (by decide) (by decide) (by simp) (by simp)) fun k hk => ?_)
  obtain ⟨hk, hch⟩ := hk
  obtain ⟨out, ho⟩ : ∃ out, l.take k = out := ⟨_, rfl⟩
  have hol : out.length = k := by rw [← ho]; simp; omega
  by_cases hlt : k < l.length ∧ ∃ h : k < l.length, Op.bytesLess l[k].1 ew = true
  · obtain ⟨hlt, _, hb⟩ := hlt
    have hlti : (k : Int) < l.length := by omega
    obtain ⟨e, he⟩ : ∃ e, l[k] = e := ⟨_, rfl⟩
    have he' : l[k]? = some e := by rw [List.getElem?_eq_getElem hlt, he]
    have g1 := ens_get l k hlt
    rw [he] at g1 hb
    have c0 := ens_word he'
    have k1 : k * 3 + 3 ≤ l.length * 3 := by omega
    have hw : IntKind.i64.wrap ((k : Int) + 1) = k + 1 := wr_i64 (by omega) (by omega)
    have b1 : (k + 1) * 24 ≤ 140737488355328 := by omega
    have b2 : k + 1 ≤ 9223372036854775807 := by omega
    have hnext : l.take (k + 1) = out ++ [e] := by rw [List.take_add_one, he', ho]; rfl
    have hch' : l.take (k + 1) ++ (l.drop (k + 1)).takeWhile (fun x => Op.bytesLess x.1 ew) = pre := by
      rw [← hch, ← List.getElem_cons_drop hlt, he, List.takeWhile_cons, if_pos hb, hnext, ho]
      simp
    have hgt : (ensA out).take (k * 3) = ensA out := List.take_of_length_le (by rw [ensA_length, hol]; omega)
    obtain ⟨wd, wt, gn⟩ := e
    dsimp only at c0 hb
    rw [ho]
    refine Sim.step hmix onΓ_ok (n := 0) (by simp (decide := true) [hlt, hlti, c0, hb]; exact ⟨rfl, rfl⟩) (by simp) ?_
    refine Sim.seq (Sim.block ?_)
    refine Sim.exec hmix onΓ_ok (n := 0) (by simp (decide := true) [hlt, g1, k1, b1, b2, enA, hol, hgt]; exact ⟨rfl, rfl, rfl⟩) (by simp) ?_
    dsimp only
    refine Sim.exec hmix onΓ_ok (n := 0) (by simp [hw]; exact ⟨rfl, rfl, rfl⟩) (by simp) ?_
    dsimp only
    exact ⟨k + 1, ⟨by omega, hch'⟩, Weak.mk' [0, 1, 4] (by decide) (by decide) (by simp) (by simp [hnext, ensA, enA]; exact AWs.refl _ _ (by have := frees_ens (out ++ [(wd, wt, gn)]); simpa [ensA, enA] using this)), by omega⟩
  · have hend : out = pre := by
      rw [← hch, ho]
      by_cases h1 : k < l.length
      · have h2 : ¬ Op.bytesLess l[k].1 ew = true := fun h => hlt ⟨h1, h1, h⟩
        rw [← List.getElem_cons_drop h1, List.takeWhile_cons, if_neg h2, List.append_nil]
      · rw [List.drop_eq_nil_of_le (by omega)]; simp
    rw [ho]
    refine Sim.seq (Sim.mono (Q := fun e F' H' => e = .exit 0 ∧ Weak 1 F' H' ([.sl 0 0 l.length 3 false, .top, .top, .ptr 1 0, .top, .sl 2 0 k 3 false] ++ List.replicate 52 .top) [.cells false (ensA l), .cells true [.str ew, .int .u32 en, .bool eg], .cells true (ensA out)]) ?_ ?_)
    · by_cases h1 : k < l.length
      · have h2 : ¬ Op.bytesLess l[k].1 ew = true := fun h => hlt ⟨h1, h1, h⟩
        have hlti : (k : Int) < l.length := by omega
        obtain ⟨e, he⟩ : ∃ e, l[k] = e := ⟨_, rfl⟩
        have he' : l[k]? = some e := by rw [List.getElem?_eq_getElem h1, he]
        rw [he] at h2
        have h2 : Op.bytesLess e.1 ew = false := by simpa using h2
        have c0 := ens_word he'
        have k1 : k * 3 + 3 ≤ l.length * 3 := by omega
        refine Sim.exec hmix onΓ_ok (n := 0) (by simp (decide := true) [h1, hlti, c0, h2]; exact ⟨rfl, rfl, rfl⟩) (by simp) ?_
        exact ⟨rfl, Weak.mk' [0, 1, 2] (by decide) (by decide) (by simp) (by simp)⟩
      · have hlti : ¬ (k : Int) < l.length := by omega
        refine Sim.exec hmix onΓ_ok (n := 0) (by simp (decide := true) [hlti]; exact ⟨rfl, rfl, rfl⟩) (by simp) ?_
        exact ⟨rfl, Weak.mk' [0, 1, 2] (by decide) (by decide) (by simp) (by simp)⟩
    rintro x F' H' hlen ⟨rfl, hwk⟩
    dsimp only
    rw [if_pos rfl]
    refine Sim.weak hwk hlen ?_
    clear hwk hlen
    have hgt : (ensA out).take (k * 3) = ensA out := List.take_of_length_le (by rw [ensA_length, hol]; omega)
    have b1 : (k + 1) * 24 ≤ 140737488355328 := by omega
    have b2 : k + 1 ≤ 9223372036854775807 := by omega
    have bse : bareS [.agg [.str ew, .int .u32 en, .bool eg]] = fun H => some (.agg [.str bw, .int .u32 bn, .bool bg], H, []) := by
      funext H
      simp [bareS, pureS, hbare, enA]
    refine Sim.step hmix onΓ_ok (n := 0) (by simp (decide := true) [onΓ, bse, hgt, hol, b1, b2]; exact ⟨rfl, rfl⟩) (by simp) ?_
    refine Sim.seq (Sim.step hmix onΓ_ok (n := 0) (by simp; exact ⟨rfl, rfl⟩) (by simp) ?_)
    refine Sim.block (Sim.loopW (fun k : Nat => k ≤ l.length)
      (fun k => [.sl 0 0 l.length 3 false, .top, .top, .ptr 1 0, .top, .sl 2 0 (pre ++ (bw, bn, bg) :: (l.take k).filter (fun x => Op.bytesLess ew x.1)).length 3 false, .top, .int .i64 k] ++ List.replicate 50 .top)
      (fun k => [.cells false (ensA l), .cells true [.str ew, .int .u32 en, .bool eg], .cells true (ensA (pre ++ (bw, bn, bg) :: (l.take k).filter (fun x => Op.bytesLess ew x.1)))]) (fun k => l.length - k) 0 (by simp) (by omega) (Weak.mk' [0, 1, 4] (by decide) (by decide) (by simp [← hend, hol]) (by simp [← hend, ensA, enA]; exact AWs.refl _ _ (by have := frees_ens (out ++ [(bw, bn, bg)]); simpa [ensA, enA] using this))) fun k hk => ?_)
    have hpl : pre.length ≤ l.length := by rw [← hpre]; exact List.Sublist.length_le (List.takeWhile_sublist _)
    obtain ⟨fl, hfl⟩ : ∃ f, (l.take k).filter (fun x => Op.bytesLess ew x.1) = f := ⟨_, rfl⟩
    have hfll : fl.length ≤ l.length := by rw [← hfl]; have h1 := List.length_filter_le (fun x => Op.bytesLess ew x.1) (l.take k); have h2 : (l.take k).length ≤ l.length := by rw [List.length_take]; omega
                                           omega
    obtain ⟨out, ho⟩ : ∃ o, pre ++ (bw, bn, bg) :: fl = o := ⟨_, rfl⟩
    have hol : out.length ≤ 2000001 := by rw [← ho, List.length_append, List.length_cons]; omega
    rw [hfl, ho]
    by_cases hlt : k < l.length
    · have hlti : (k : Int) < l.length := by omega
      obtain ⟨e, he⟩ : ∃ e, l[k] = e := ⟨_, rfl⟩
      have he' : l[k]? = some e := by rw [List.getElem?_eq_getElem hlt, he]
      have g1 := ens_get l k hlt
      rw [he] at g1
      have c0 := ens_word he'
      have k1 : k * 3 + 3 ≤ l.length * 3 := by omega
      have hw : IntKind.i64.wrap ((k : Int) + 1) = k + 1 := wr_i64 (by omega) (by omega)
      have b1 : (out.length + 1) * 24 ≤ 140737488355328 := by omega
      have b2 : out.length + 1 ≤ 9223372036854775807 := by omega
      have hnf := filter_snoc (fun x => Op.bytesLess ew x.1) l k e he'
      rw [hfl] at hnf
      obtain ⟨wd, wt, gn⟩ := e
      dsimp only at c0 hnf
      refine Sim.step hmix onΓ_ok (n := 0) (by simp [hlti]; exact ⟨rfl, rfl⟩) (by simp) ?_
      refine Sim.seq (Sim.block ?_)
      cases hb : Op.bytesLess ew wd with
      | true =>
        have hq : (Op.bytesLess wd ew = false ∧ ¬ wd = ew) = True := by
          rw [bl_eq] at hb ⊢
          have h1 : ew < wd := by simpa using hb
          refine eq_true ⟨decide_eq_false (fun h => List.lt_irrefl _ (List.lt_trans h1 h)), ?_⟩
          rintro rfl
          exact List.lt_irrefl _ h1
        rw [hb, if_pos rfl] at hnf
        have hnext : pre ++ (bw, bn, bg) :: (l.take (k + 1)).filter (fun x => Op.bytesLess ew x.1) = out ++ [(wd, wt, gn)] := by rw [hnf, ← ho]; simp
        refine Sim.step hmix onΓ_ok (n := 0) (by simp (decide := true) [hlt, c0]; exact ⟨rfl, rfl⟩) (by simp) ?_
        refine Sim.exec hmix onΓ_ok (n := 0) (by simp (decide := true) [hlt, g1, k1, b1, b2, enA, hq]; exact ⟨rfl, rfl, rfl⟩) (by simp) ?_
        dsimp only
        refine Sim.exec hmix onΓ_ok (n := 0) (by simp [hw]; exact ⟨rfl, rfl, rfl⟩) (by simp) ?_
        dsimp only
        exact ⟨k + 1, by omega, Weak.mk' [0, 1, 4] (by decide) (by decide) (by simp only [hnext]; simp) (by simp only [hnext]; simp [ensA, enA]; exact AWs.refl _ _ (by have := frees_ens (out ++ [(wd, wt, gn)]); simpa [ensA, enA] using this)), by omega⟩
      | false =>
        have hq : (Op.bytesLess wd ew = false ∧ ¬ wd = ew) = False := by
          rw [bl_eq] at hb ⊢
          refine eq_false ?_
          rintro ⟨h1, h2⟩
          exact h2 (List.le_antisymm (List.not_lt.1 (of_decide_eq_false hb)) (List.not_lt.1 (of_decide_eq_false h1)))
        rw [hb, if_neg (by decide), List.append_nil] at hnf
        have hnext : pre ++ (bw, bn, bg) :: (l.take (k + 1)).filter (fun x => Op.bytesLess ew x.1) = out := by rw [hnf, ← ho]
        refine Sim.step hmix onΓ_ok (n := 0) (by simp (decide := true) [hlt, c0]; exact ⟨rfl, rfl⟩) (by simp) ?_
        refine Sim.exec hmix onΓ_ok (n := 0) (by simp [hq]; exact ⟨rfl, rfl, rfl⟩) (by simp) ?_
        dsimp only
        refine Sim.exec hmix onΓ_ok (n := 0) (by simp [hw]; exact ⟨rfl, rfl, rfl⟩) (by simp) ?_
        dsimp only
        exact ⟨k + 1, by omega, Weak.mk' [0, 1, 2] (by decide) (by decide) (by simp only [hnext]; simp) (by simp only [hnext]; simp), by omega⟩
    · have hlti : ¬ (k : Int) < l.length := by omega
      have hor : out = res := by rw [← ho, ← hfl, List.take_of_length_le (by omega), hres]
      rw [hor]
      refine Sim.exec hmix onΓ_ok (n := 0) (by simp [hlti]; exact ⟨rfl, rfl, rfl⟩) (by simp) ?_
      dsimp only
      rw [if_pos rfl]
      refine Sim.exec hmix onΓ_ok (n := 0) (by simp; exact ⟨rfl, rfl, rfl⟩) (by simp) ?_
      exact ⟨.inr rfl, _, by simp; rfl, Weak.mk' [0, 2] (by decide) (by decide) (by simp) (by simp)⟩

def oneS : Summ := readNewS fun args H => match args with
  | [x, .agg [.str w, .int .u32 n, .bool g]] => match rowEns H x with
    | some l => if l.length ≤ 1000000 then some (.sl 0 0 (oneE l (w, n, g)).length 3 false, [.cells true (ensA (oneE l (w, n, g)))]) else none
    | none => none
  | _ => none

theorem one_sound : Sound Try.prog 41 oneS := by
  refine sound_readNew (enter_of Try.func41 rfl (by decide)) fun args H v N h => ?_
  split at h <;> try cases h
  rename_i x w n g
  split at h <;> try cases h
  rename_i l hx
  split at h <;> cases h
  rename_i hc
  obtain ⟨b1, o1, w1, g1⟩ := rowEns_win hx
  refine ct_winN (H0 := [.cells false (ensA l)]) (args0 := [.sl 0 0 l.length 3 false, .agg (enA (w, n, g))]) ?_ rfl [(b1, o1)] ⟨w1 0 _ rfl, by simp [winA, enA], trivial⟩ ⟨g1, frees_ens _, trivial⟩
  have := one_ct l (w, n, g) hc
  simpa using this

def rwΓ : Gam := gams [(41, oneS)]
theorem rwΓ_ok : GOk Try.prog rwΓ := goks_cons one_sound goks_nil

theorem oneS_at {H : AHeap} {x : AV} {l : List En} (w : List UInt8) (n : Int) (g : Bool) (hx : rowEns H x = some l) (hl : l.length ≤ 1000000) (ha : asc l) : oneS [x, .agg [.str w, .int .u32 n, .bool g]] H = some (.sl H.length 0 (insE l (w, n, g)).length 3 false, H ++ [.cells true (ensA (insE l (w, n, g)))], []) := by
  simp [oneS, readNewS, hx, hl, shA, shB, shAs_ens, oneE_ins ha]

set_option maxHeartbeats 8000000 in
theorem rwith_ct (l more : List En) (hl : l.length ≤ 100000) (hm : more.length ≤ 100000) (ha : asc l) :
    Ct Try.prog 27 [.sl 0 0 l.length 3 false, .sl 1 0 more.length 3 false] [.cells false (ensA l), .cells false (ensA more)] (.sl 2 0 (withE l more).length 3 false) [.cells false (ensA l), .cells false (ensA more), .cells true (ensA (withE l more))] := by
  have b1 : l.length * 24 ≤ 140737488355328 := by omega
  have b2 : l.length ≤ 9223372036854775807 := by omega
  refine ct_of_sim Try.func27 rfl ?_
  simp only [Try.ntmps27, List.length_cons, List.length_nil, Nat.reduceAdd, Nat.reduceSub, List.replicate, List.cons_append, List.nil_append]
  refine Sim.step hmix rwΓ_ok (n := 0) (by simp; exact ⟨rfl, rfl⟩) (by simp) ?_
  refine Sim.step hmix rwΓ_ok (n := 0) (by simp [b1, b2]; exact ⟨rfl, rfl⟩) (by simp) ?_
  refine Sim.seq (Sim.step hmix rwΓ_ok (n := 0) (by simp; exact ⟨rfl, rfl⟩) (by simp) ?_)
  refine Sim.block (Sim.loopW (fun k : Nat => k ≤ more.length)
    (fun k => [.sl 0 0 l.length 3 false, .sl 1 0 more.length 3 false, .top, .top, .top, .sl 2 0 (withE l (more.take k)).length 3 false, .int .i64 k] ++ List.replicate 15 .top)
    (fun k => [.cells false (ensA l), .cells false (ensA more), .cells true (ensA (withE l (more.take k)))]) (fun k => more.length - k) 0 (by simp) (by simp) (Weak.mk' [0, 1, 2] (by decide) (by decide) (by simp [withE]) (by simp [withE])) fun k hk => ?_)
  obtain ⟨own, ho⟩ : ∃ own, withE l (more.take k) = own := ⟨_, rfl⟩
  have hoa : asc own := by rw [← ho]; exact withE_asc _ ha
  have hol : own.length ≤ 200000 := by
    have := withE_length (more.take k) l
    rw [ho, List.length_take] at this
    omega
  rw [ho]
  by_cases hlt : k < more.length
  · have hlti : (k : Int) < more.length := by omega
    obtain ⟨e, he⟩ : ∃ e, more[k] = e := ⟨_, rfl⟩
    have he' : more[k]? = some e := by rw [List.getElem?_eq_getElem hlt, he]
    have hnext : withE l (more.take (k + 1)) = insE own e := by rw [withE_snoc l more k e he', ho]
    have g1 := ens_get more k hlt
    rw [he] at g1
    have k1 : k * 3 + 3 ≤ more.length * 3 := by omega
    have hw : IntKind.i64.wrap ((k : Int) + 1) = k + 1 := wr_i64 (by omega) (by omega)
    obtain ⟨wd, wt, gn⟩ := e
    have hone := oneS_at (H := [.cells false (ensA l), .cells false (ensA more), .cells true (ensA own)]) wd wt gn (rowEns_row2 own _ (b := 2) (o := true) rfl) (by omega) hoa
    refine Sim.step hmix rwΓ_ok (n := 0) (by simp [hlti]; exact ⟨rfl, rfl⟩) (by simp) ?_
    refine Sim.seq (Sim.block ?_)
    refine Sim.exec hmix rwΓ_ok (n := 0) (by simp (decide := true) [rwΓ, hlt, g1, k1, enA, hone]; exact ⟨rfl, rfl, rfl⟩) (by simp) ?_
    dsimp only
    refine Sim.exec hmix rwΓ_ok (n := 0) (by simp [hw]; exact ⟨rfl, rfl, rfl⟩) (by simp) ?_
    dsimp only
    exact ⟨k + 1, by omega, Weak.mk' [0, 1, 3] (by decide) (by decide) (by simp [hnext]) (by simp [hnext]), by omega⟩
  · have hkn : k = more.length := by omega
    have hlti : ¬ (k : Int) < more.length := by omega
    rw [hkn, List.take_length] at ho
    rw [ho]
    refine Sim.exec hmix rwΓ_ok (n := 0) (by simp [hlti]; exact ⟨rfl, rfl, rfl⟩) (by simp) ?_
    dsimp only
    rw [if_pos rfl]
    refine Sim.exec hmix rwΓ_ok (n := 0) (by simp; exact ⟨rfl, rfl, rfl⟩) (by simp) ?_
    exact ⟨.inr rfl, _, by simp; rfl, Weak.mk' [0, 1, 2] (by decide) (by decide) (by simp) (by simp)⟩

theorem rwith_sound : Sound Try.prog 27 withS := by
  refine sound_readNew (enter_of Try.func27 rfl (by decide)) fun args H v N h => ?_
  split at h <;> try cases h
  rename_i x y
  split at h <;> try cases h
  rename_i l m hx hy
  split at h <;> cases h
  rename_i hc
  obtain ⟨b1, o1, w1, g1⟩ := rowEns_win hx
  obtain ⟨b2, o2, w2, g2⟩ := rowEns_win hy
  refine ct_winN (H0 := [.cells false (ensA l), .cells false (ensA m)]) (args0 := [.sl 0 0 l.length 3 false, .sl 1 0 m.length 3 false]) ?_ rfl [(b1, o1), (b2, o2)] ⟨w1 0 _ rfl, w2 1 _ rfl, trivial⟩ ⟨g1, frees_ens _, g2, frees_ens _, trivial⟩
  have := rwith_ct l m hc.1 hc.2.1 (ascB_ok hc.2.2)
  simpa using this

end Go.Proofs.Ytndkhkponamplaa
