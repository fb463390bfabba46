/- entry.With: the walk. -/
import Derived.Test.YtndkhkponamplaaEw
namespace Go.Proofs.Ytndkhkponamplaa
open Go
set_option maxRecDepth 100000
attribute [-simp] drawOk_eq adraw qrun acode aops

def wiΓ : Gam := gams [(39, bsS)]
theorem wiΓ_ok : GOk Try.prog wiΓ := goks_cons bs_sound goks_nil

theorem bs_own (own : List En) (w : List UInt8) (H : AHeap) (hH : H[2]? = some (.cells true (ensA own))) (hl : own.length ≤ 1000000) (ha : asc own) :
    bsS [.sl 2 0 own.length 3 false, .str w, .func 38 [] []] H = some (.tuple [.int .i64 (posE own w), .bool (hasE own w)], H, []) := by
  have h1 : rowEns H (.sl 2 0 own.length 3 false) = some own := by simp [rowEns, hH]
  simp [bsS, readS, h1, hl, ha]

set_option maxHeartbeats 8000000 in
theorem with_ct (l more : List En) (hl : l.length ≤ 100000) (hm : more.length ≤ 100000) (ha : asc l) :
    Ct Try.prog 26 [.sl 0 0 l.length 3 false, .sl 1 0 more.length 3 false] [.cells false (ensA l), .cells false (ensA more)] (.sl 2 0 (withE l more).length 3 false) [.cells false (ensA l), .cells false (ensA more), .cells true (ensA (withE l more))] := by
  have b1 : l.length * 24 ≤ 140737488355328 := by omega
  have b2 : l.length ≤ 9223372036854775807 := by omega
  refine ct_of_sim Try.func26 rfl ?_
  simp only [Try.ntmps26, List.length_cons, List.length_nil, Nat.reduceAdd, Nat.reduceSub, List.replicate, List.cons_append, List.nil_append]
  refine Sim.step hmix wiΓ_ok (n := 0) (by simp; exact ⟨rfl, rfl⟩) (by simp) ?_
  refine Sim.step hmix wiΓ_ok (n := 0) (by simp [b1, b2]; exact ⟨rfl, rfl⟩) (by simp) ?_
  refine Sim.seq (Sim.step hmix wiΓ_ok (n := 0) (by simp; exact ⟨rfl, rfl⟩) (by simp) ?_)
  refine Sim.block (Sim.loopW (fun k : Nat => k ≤ more.length)
    (fun k => [.sl 0 0 l.length 3 false, .sl 1 0 more.length 3 false, .top, .top, .top, .sl 2 0 (withE l (more.take k)).length 3 false, .top, .top, .top, .top, .top, .top, .sl 1 0 more.length 3 false, .int .i64 more.length, .int .i64 k] ++ List.replicate 25 .top)
    (fun k => [.cells false (ensA l), .cells false (ensA more), .cells true (ensA (withE l (more.take k)))]) (fun k => more.length - k) 0 (by simp) (by simp) (Weak.mk' [0, 1, 2] (by decide) (by decide) (by simp [withE]) (by simp [withE])) fun k hk => ?_)
  obtain ⟨own, ho⟩ : ∃ own, withE l (more.take k) = own := ⟨_, rfl⟩
  have hoa : asc own := by rw [← ho]; exact withE_asc _ ha
  have hol : own.length ≤ 200000 := by
    have := withE_length (more.take k) l
    rw [ho, List.length_take] at this
    omega
  rw [ho]
  by_cases hlt : k < more.length
  · obtain ⟨e, he⟩ : ∃ e, more[k] = e := ⟨_, rfl⟩
    have he' : more[k]? = some e := by rw [List.getElem?_eq_getElem hlt, he]
    have hnext : withE l (more.take (k + 1)) = insE own e := by rw [withE_snoc l more k e he', ho]
    have g1 := ens_get more k hlt
    rw [he] at g1
    have k1 : k * 3 + 3 ≤ more.length * 3 := by omega
    have hw : IntKind.i64.wrap ((k : Int) + 1) = k + 1 := wr_i64 (by omega) (by omega)
    obtain ⟨wd, wt, gn⟩ := e
    obtain ⟨p, hp⟩ : ∃ p, posE own wd = p := ⟨_, rfl⟩
    obtain ⟨q, hq⟩ : ∃ q, hasE own wd = q := ⟨_, rfl⟩
    have hbs : ∀ B : ABlk, bsS [.sl 2 0 own.length 3 false, .str wd, .func 38 [] []] [.cells false (ensA l), .cells false (ensA more), .cells true (ensA own), B] = some (.tuple [.int .i64 p, .bool q], [.cells false (ensA l), .cells false (ensA more), .cells true (ensA own), B], []) := fun B => by
      rw [bs_own own wd _ rfl (by omega) hoa, hp, hq]
    have hple : p ≤ own.length := by rw [← hp]; exact posE_le _ _
    refine Sim.step hmix wiΓ_ok (n := 0) (by simp [hlt]; exact ⟨rfl, rfl⟩) (by simp) ?_
    refine Sim.step hmix wiΓ_ok (n := 0) (by simp; exact ⟨rfl, rfl⟩) (by simp) ?_
    refine Sim.seq (Sim.block ?_)
    refine Sim.step hmix wiΓ_ok (n := 0) (by simp (decide := true) [hlt, g1, k1, enA]; exact ⟨rfl, rfl⟩) (by simp) ?_
    obtain ⟨wz, hwz⟩ : ∃ wz, (if gn then 0 else wt) = wz := ⟨_, rfl⟩
    have hbare : bareE (wd, wt, gn) = (wd, wz, gn) := by rw [← hwz]; rfl
    have hI : insE own (wd, wt, gn) = own.take p ++ (wd, wz, gn) :: own.drop (p + if q then 1 else 0) := by unfold insE; rw [hbare]; dsimp only; rw [hp, hq]
    cases q with
    | true =>
      have hpl : p < own.length := by rw [← hp]; exact hasE_lt hq
      have e1 := ens_splice (wd, wz, gn) own p hpl
      have e2 : own.take p ++ (wd, wz, gn) :: own.drop (p + 1) = own.set p (wd, wz, gn) := by rw [List.set_eq_take_append_cons_drop, if_pos hpl]
      have e3 : (ensA own).take (p * 3) ++ AV.str wd :: AV.int .u32 wz :: AV.bool gn :: (ensA own).drop (p * 3 + 3) = ensA (own.set p (wd, wz, gn)) := by rw [← e1]; simp [enA]
      simp only [if_true, e2] at hI
      rw [hI] at hnext
      have k2 : p * 3 + 3 ≤ own.length * 3 := by omega
      cases gn with
      | true =>
        simp only [if_true] at hwz
        subst hwz
        refine Sim.step hmix wiΓ_ok (n := 0) (by simp; exact ⟨rfl, rfl⟩) (by simp) ?_
        refine Sim.step hmix wiΓ_ok (n := 0) (by simp [wiΓ, hbs]; exact ⟨rfl, rfl⟩) (by simp) ?_
        refine Sim.exec hmix wiΓ_ok (n := 0) (by simp (decide := true) [hpl, k2]; exact ⟨rfl, rfl, rfl⟩) (by simp) ?_
        dsimp only
        refine Sim.exec hmix wiΓ_ok (n := 0) (by simp [hw]; exact ⟨rfl, rfl, rfl⟩) (by simp) ?_
        dsimp only
        exact ⟨k + 1, by omega, Weak.mk' [0, 1, 2] (by decide) (by decide) (by simp [hnext]) (by simp [hnext, e3]), by omega⟩
      | false =>
        simp only [Bool.false_eq_true, if_false] at hwz
        subst hwz
        refine Sim.step hmix wiΓ_ok (n := 0) (by simp; exact ⟨rfl, rfl⟩) (by simp) ?_
        refine Sim.step hmix wiΓ_ok (n := 0) (by simp [wiΓ, hbs]; exact ⟨rfl, rfl⟩) (by simp) ?_
        refine Sim.exec hmix wiΓ_ok (n := 0) (by simp (decide := true) [hpl, k2]; exact ⟨rfl, rfl, rfl⟩) (by simp) ?_
        dsimp only
        refine Sim.exec hmix wiΓ_ok (n := 0) (by simp [hw]; exact ⟨rfl, rfl, rfl⟩) (by simp) ?_
        dsimp only
        exact ⟨k + 1, by omega, Weak.mk' [0, 1, 2] (by decide) (by decide) (by simp [hnext]) (by simp [hnext, e3]), by omega⟩
    | false =>
      simp only [Bool.false_eq_true, if_false, Nat.add_zero] at hI
      rw [hI] at hnext
      cases gn with
      | true =>
        simp only [if_true] at hwz
        subst hwz
        refine Sim.step hmix wiΓ_ok (n := 0) (by simp; exact ⟨rfl, rfl⟩) (by simp) ?_
        refine Sim.step hmix wiΓ_ok (n := 0) (by simp [wiΓ, hbs]; exact ⟨rfl, rfl⟩) (by simp) ?_
        refine Sim.step hmix wiΓ_ok (n := 0) (by simp; exact ⟨rfl, rfl⟩) (by simp) ?_
        refine Sim.cond (t := false) (by simp) ?_
        rw [if_neg (by decide)]
        refine ((insE_sim wiΓ_ok (own := own) (e := (wd, 0, true)) (i := p) (bo := 2) 3 (by rw [← aopsO_eq]; simp; rfl) rfl (by simp) rfl (by simp [rowA, enA]) rfl (by simp) rfl (by simp) (by simp) rfl hple (by omega) (by rw [← aopsO_eq]; simp; exact ⟨rfl, rfl⟩)).len (by simp)).mono ?_
        rintro x F1 H1 hn1 ⟨rfl, rfl, rfl⟩
        dsimp only
        refine Sim.exec hmix wiΓ_ok (n := 0) (by simp [hw]; exact ⟨rfl, rfl, rfl⟩) (by simp) ?_
        dsimp only
        exact ⟨k + 1, by omega, Weak.mk' [0, 1, 5] (by decide) (by decide) (by simp [hnext]; omega) (by simp [hnext, ensA]; exact AWs.refl _ _ (by have := frees_ens (own.take p ++ (wd, (0 : Int), true) :: own.drop p); simpa [ensA] using this)), by omega⟩
      | false =>
        simp only [Bool.false_eq_true, if_false] at hwz
        subst hwz
        refine Sim.step hmix wiΓ_ok (n := 0) (by simp; exact ⟨rfl, rfl⟩) (by simp) ?_
        refine Sim.step hmix wiΓ_ok (n := 0) (by simp [wiΓ, hbs]; exact ⟨rfl, rfl⟩) (by simp) ?_
        refine Sim.step hmix wiΓ_ok (n := 0) (by simp; exact ⟨rfl, rfl⟩) (by simp) ?_
        refine Sim.cond (t := false) (by simp) ?_
        rw [if_neg (by decide)]
        refine ((insE_sim wiΓ_ok (own := own) (e := (wd, wt, false)) (i := p) (bo := 2) 3 (by rw [← aopsO_eq]; simp; rfl) rfl (by simp) rfl (by simp [rowA, enA]) rfl (by simp) rfl (by simp) (by simp) rfl hple (by omega) (by rw [← aopsO_eq]; simp; exact ⟨rfl, rfl⟩)).len (by simp)).mono ?_
        rintro x F1 H1 hn1 ⟨rfl, rfl, rfl⟩
        dsimp only
        refine Sim.exec hmix wiΓ_ok (n := 0) (by simp [hw]; exact ⟨rfl, rfl, rfl⟩) (by simp) ?_
        dsimp only
        exact ⟨k + 1, by omega, Weak.mk' [0, 1, 5] (by decide) (by decide) (by simp [hnext]; omega) (by simp [hnext, ensA]; exact AWs.refl _ _ (by have := frees_ens (own.take p ++ (wd, wt, false) :: own.drop p); simpa [ensA] using this)), by omega⟩
  · have hkn : k = more.length := by omega
    subst hkn
    rw [List.take_length] at ho
    rw [ho]
    refine Sim.exec hmix wiΓ_ok (n := 0) (by simp [hlt]; exact ⟨rfl, rfl, rfl⟩) (by simp) ?_
    dsimp only
    rw [if_pos rfl]
    refine Sim.exec hmix wiΓ_ok (n := 0) (by simp; exact ⟨rfl, rfl, rfl⟩) (by simp) ?_
    exact ⟨.inr rfl, _, by simp; rfl, Weak.mk' [0, 1, 2] (by decide) (by decide) (by simp) (by simp)⟩


/-- In order, as the kernel asks it. -/
def ascB : List En → Bool
  | [] => true
  | x :: l => l.all (fun y => Op.bytesLess x.1 y.1) && ascB l
theorem ascB_ok : ∀ {l : List En}, ascB l = true → asc l
  | [], _ => List.Pairwise.nil
  | x :: l, h => by
    simp only [ascB, Bool.and_eq_true, List.all_eq_true] at h
    exact List.pairwise_cons.2 ⟨fun y hy => by have := h.1 y hy; rwa [bl_eq, decide_eq_true_eq] at this, ascB_ok h.2⟩
theorem ascB_of : ∀ {l : List En}, asc l → ascB l = true
  | [], _ => rfl
  | x :: l, h => by
    obtain ⟨h1, h2⟩ := List.pairwise_cons.1 h
    simp only [ascB, Bool.and_eq_true, List.all_eq_true]
    exact ⟨fun y hy => by rw [bl_eq, decide_eq_true_eq]; exact h1 y hy, ascB_of h2⟩

mutual
theorem shA_free (k : Nat) : ∀ x : AV, free x = true → shA k x = x
  | .top, _ | .bool _, _ | .int _ _, _ | .str _, _ | .nilp, _ | .nils, _ | .nilm, _ | .nilf, _ => rfl
  | .ptr .., h | .slice .., h | .sl .., h | .map _, h | .yld _, h => by simp [free] at h
  | .func f xs ys, h => by simp at h; simp [shAs_free k xs h.1, shAs_free k ys h.2]
  | .agg l, h => by simp at h; simp [shAs_free k l h]
  | .tuple l, h => by simp at h; simp [shAs_free k l h]
theorem shAs_free (k : Nat) : ∀ xs : List AV, frees xs = true → shAs k xs = xs
  | [], _ => rfl
  | x :: xs, h => by simp at h; simp [shA_free k x h.1, shAs_free k xs h.2]
end

@[simp] theorem shAs_ens (k : Nat) (l : List En) : shAs k (ensA l) = ensA l := shAs_free k _ (frees_ens l)

def withS : Summ := readNewS fun args H => match args with
  | [x, y] => match rowEns H x, rowEns H y with
    | some l, some m => if l.length ≤ 100000 ∧ m.length ≤ 100000 ∧ ascB l = true then some (.sl 0 0 (withE l m).length 3 false, [.cells true (ensA (withE l m))]) else none
    | _, _ => none
  | _ => none

theorem with_sound : Sound Try.prog 26 withS := by
  refine sound_readNew (enter_of Try.func26 rfl (by decide)) fun args H v N h => ?_
  split at h <;> try cases h
  rename_i x y
  split at h <;> try cases h
  rename_i l m hx hy
  split at h <;> cases h
  rename_i hc
  obtain ⟨b1, o1, w1, g1⟩ := rowEns_win hx
  obtain ⟨b2, o2, w2, g2⟩ := rowEns_win hy
  refine ct_winN (H0 := [.cells false (ensA l), .cells false (ensA m)]) (args0 := [.sl 0 0 l.length 3 false, .sl 1 0 m.length 3 false]) ?_ rfl [(b1, o1), (b2, o2)] ⟨w1 0 _ rfl, w2 1 _ rfl, trivial⟩ ⟨g1, frees_ens _, g2, frees_ens _, trivial⟩
  have := with_ct l m hc.1 hc.2.1 (ascB_ok hc.2.2)
  simpa using this

end Go.Proofs.Ytndkhkponamplaa
