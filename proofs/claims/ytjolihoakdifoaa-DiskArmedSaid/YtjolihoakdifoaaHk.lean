/- A folder's contracts: Names. -/
import Derived.Test.YtjolihoakdifoaaHj
namespace Go.Proofs.Ytjolihoakdifoaa
open Go Go.Lib
set_option maxRecDepth 100000
attribute [-simp] drawOk_eq adraw qrun acode aops

def nmInl : List FuncId := [69]
theorem nmΓ_ok : GOk Try.prog (runG Try.prog (gams [(68, keysS), (67, sortedS)]) 0 nmInl 2) := gok_run hmix (goks_cons keys_sound (goks_cons sorted_sound goks_nil)) 0 nmInl 2

theorem strsOf_ents : ∀ l : NM, strsOf ((entsA l).map (·.1)) = some (NM.keys l)
  | [] => rfl
  | e :: l => by
    have := strsOf_ents l
    simp only [entsA, NM.keys, List.map_cons, strsOf] at this ⊢
    rw [this]; rfl

set_option maxHeartbeats 16000000 in
theorem names_ct (f : FD) (hok : f.small) : Ct Try.prog 20 [.ptr 0 0] [.obj true f.blks] (.sl 1 0 f.names.length 1 false) [.obj true f.blks, .cells true (f.names.map .str)] := by
  have hΓ := nmΓ_ok
  obtain ⟨hsh, hnl⟩ := FD.ok_now hok
  refine ct_of_sim Try.func20 rfl ?_
  simp only [Try.ntmps20, List.length_cons, List.length_nil, Nat.reduceAdd, Nat.reduceSub, List.replicate, List.cons_append, List.nil_append]
  refine Sim.aft (Aft.open (b := 0) rfl (by simp) (Aft.done (by simp [openH]) ?_))
  rw [open_fd]
  simp only [List.length_cons, List.length_nil, Nat.reduceAdd, List.set_cons_zero, List.cons_append, List.nil_append]
  obtain ⟨X, eX⟩ : ∃ X, boxesD f.acts = X := ⟨_, rfl⟩
  obtain ⟨q, eq⟩ : ∃ q, X.length = q := ⟨_, rfl⟩
  rw [eX]
  obtain ⟨ks, hks⟩ : ∃ ks, f.names = ks := ⟨_, rfl⟩
  obtain ⟨n, hn⟩ : ∃ n, ks.length = n := ⟨_, rfl⟩
  have hkl : (NM.keys f.now).length = n := by rw [← hn, ← hks]; unfold FD.names; rw [(sortU_perm _).length_eq]
  have hnow : f.now.length = n := by rw [← hkl]; simp [NM.keys]
  have hn6 : n ≤ 1000000 := by omega
  have hstr := strsOf_ents f.now
  have hall : ((NM.keys f.now).all fun k => decide (k.length ≤ 1000000)) = true := by
    rw [List.all_eq_true]; intro k hk; have := hsh k hk; simp; omega
  have hallP : ∀ x, x ∈ NM.keys f.now → x.length ≤ 1000000 := fun k hk => by have := hsh k hk; omega
  have hallT : (∀ x, x ∈ NM.keys f.now → x.length ≤ 1000000) = True := eq_true hallP
  have hsort : sortU (NM.keys f.now) = ks := hks
  rw [hks, hn]
  refine Sim.step hmix hΓ (n := 0) (by simp [eq]; exact ⟨rfl, rfl⟩) (by simp) ?_
  refine Sim.step hmix hΓ (n := 0) (by simp; exact ⟨rfl, rfl⟩) (by simp) ?_
  have fks : ∀ rn : List Nat, AWs rn (ks.map AV.str) (ks.map AV.str) := fun rn => (AWs_free (frees_map ks AV.str fun _ => rfl)).2 trivial
  obtain ⟨Fn, hFn⟩ : ∃ Fn : List AV, Fn = [.top, .top, .ptr 1 0, .sl 2 0 n 1 false] ++ List.replicate 17 .top := ⟨_, rfl⟩
  obtain ⟨Hn, hHn⟩ : ∃ Hn : AHeap, Hn = [.obj true f.blks, .cells true [.nils], .cells true (ks.map .str)] := ⟨_, rfl⟩
  refine Sim.seq (Sim.mono (Q := fun e F' H' => e = .normal ∧ F' = Fn ∧ H' = Hn) (Sim.after ?_) ?_)
  · by_cases h0 : n = 0
    · subst h0
      have hk0 : ks = [] := List.length_eq_zero_iff.1 hn
      have hkn : NM.keys f.now = [] := List.length_eq_zero_iff.1 hkl
      rw [hkn] at hstr
      refine Sim.exec hmix hΓ (n := 0) (by simp (decide := true) [eq, nmInl, keysS, sortedS, hstr]; exact ⟨rfl, rfl, rfl⟩) (by simp) ?_
      refine Aft.closeFS f 0 1 rfl rfl rfl rfl (fun i B hB => ?_) (by decide) (by simp) ?_
      · rw [show 1 + 3 + i = i + 1 + 1 + 1 + 1 by omega]
        simp only [List.getElem?_cons_succ]
        rw [eX] at hB
        rw [List.getElem?_append_left (List.getElem?_eq_some_iff.1 hB).1]
        exact hB
      refine Aft.weak (Fn := [.top, .top, .ptr 1 0, .nils] ++ List.replicate 17 .top) (Hn := [.obj true f.blks, .cells true [.nils]]) ?_ (by simp) (Aft.weak (Fn := Fn) (Hn := Hn) ?_ (by simp) (Aft.done (by simp [hHn]) ⟨rfl, rfl, rfl⟩))
      · refine Weak.mk' [0, q + 4] (by simp) (by simp) (by simp) (AWg_closed (b := 0) (by simp) _ _ rfl fun i c x h1 h2 => ?_)
        match i, h1, h2 with
        | 0, h1, h2 => cases h1; cases h2; exact .inl ⟨rfl, rfl⟩
        | 1, h1, h2 =>
          cases h1; cases h2
          refine .inr ⟨⟨by omega, by simp⟩, ?_⟩
          rw [show q + 4 = (X.length + 0) + 1 + 1 + 1 + 1 by omega]
          simp [AWb]
      · rw [hFn, hHn]
        exact Weak.mk' [0, 1, 100] (by decide) (by decide) (by simp) (by simp [AWb])
    · have h0' : ¬ (NM.keys f.now).length = 0 := by omega
      have hkn : ¬ NM.keys f.now = [] := fun e => h0' (by rw [e]; rfl)
      refine Sim.exec hmix hΓ (n := 0) (by simp (decide := true) [eq, nmInl, keysS, sortedS, hstr, hkn, hkl, hn6, hallT, hsort]; exact ⟨rfl, rfl, rfl⟩) (by simp) ?_
      refine Aft.closeFS f 0 1 rfl rfl rfl rfl (fun i B hB => ?_) (by decide) (by simp) ?_
      · rw [show 1 + 3 + i = i + 1 + 1 + 1 + 1 by omega]
        simp only [List.getElem?_cons_succ]
        rw [eX] at hB
        rw [List.getElem?_append_left (List.getElem?_eq_some_iff.1 hB).1]
        exact hB
      refine Aft.weak (Fn := Fn) (Hn := Hn) ?_ (by simp) (Aft.done (by simp [hHn]) ⟨rfl, rfl, rfl⟩)
      rw [hFn, hHn]
      refine Weak.mk' [0, q + 4, q + 6] (by simp) (by simp) (by simp) (AWg_closed (b := 0) (by simp) _ _ rfl fun i c x h1 h2 => ?_)
      match i, h1, h2 with
      | 0, h1, h2 => cases h1; cases h2; exact .inl ⟨rfl, rfl⟩
      | 1, h1, h2 =>
        cases h1; cases h2
        refine .inr ⟨⟨by omega, by simp⟩, ?_⟩
        rw [show q + 4 = (X.length + 0) + 1 + 1 + 1 + 1 by omega]
        simp [AWb]
      | 2, h1, h2 =>
        cases h1; cases h2
        refine .inr ⟨⟨by omega, by simp⟩, ?_⟩
        rw [show q + 6 = (X.length + 2) + 1 + 1 + 1 + 1 by omega]
        simp [AWb]
  rintro e F' H' hlen ⟨rfl, rfl, rfl⟩
  dsimp only
  subst hFn; subst hHn
  clear hlen
  simp only [List.cons_append, List.nil_append, List.replicate]
  refine Sim.seq (Sim.step hmix hΓ (n := 0) (by simp [nmInl, Try.f69]; exact ⟨rfl, rfl⟩) (by simp) ?_)
  refine Sim.block ?_
  refine Sim.rangeFuncN hmix (fun rc => [.obj true f.blks, .cells true [.sl 5 0 n 1 false], .cells true (ks.map .str), .cells true [.sl 2 0 n 1 false], rc, .cells true (ks.map .str)]) .ready none (.tuple []) (gf := 97) (cap := [.ptr 3 0]) (by simp) (enter_of Try.func97 rfl (by decide)) (by decide) (by simp) (by simp) (by simp) rfl (by simp) ?_ ?_
  · generalize hrc : ABlk.loop _ _ _ LoopState.ready none _ = rc
    refine ct_of_sim Try.func97 rfl ?_
    simp only [Try.ntmps97, List.length_cons, List.length_nil, Nat.reduceAdd, Nat.reduceSub, List.replicate, List.cons_append, List.nil_append]
    refine Sim.step hmix goks_nil (n := 0) (by simp; exact ⟨rfl, rfl⟩) (by simp) ?_
    refine Sim.block (Sim.loopW (fun i : Nat => i ≤ n)
      (fun i => [.yld 4, .ptr 3 0, .top, .top, .top, .sl 2 0 n 1 false, .int .i64 n, .int .i64 i] ++ List.replicate 8 .top)
      (fun i => [.obj true f.blks, .cells true [.sl 5 0 i 1 false], .cells true (ks.map .str), .cells true [.sl 2 0 n 1 false], rc, .cells true ((ks.take i).map .str)]) (fun i => n - i) 0 (by simp) (by simp) ?_ fun i hi => ?_)
    · subst hrc
      exact Weak.mk' [0, 1, 2, 3, 4, 100] (by decide) (by decide) (by simp) (by simp [AWb])
    · subst hrc
      have hΓ2 := gok_run (P := Try.prog) hmix goks_nil 0 [] 1
      by_cases hlt : i < n
      · have hltI : (i : Int) < n := by omega
        have hlk : i < ks.length := by omega
        obtain ⟨x, hx1⟩ : ∃ x, ks[i] = x := ⟨_, rfl⟩
        have hg : ∀ h, ks[i]'h = x := fun h => hx1
        obtain ⟨acc, hacc⟩ : ∃ acc, ks.take i = acc := ⟨_, rfl⟩
        have hal : acc.length = i := by rw [← hacc, List.length_take]; omega
        have hnx : ks.take (i + 1) = acc ++ [x] := by rw [List.take_add_one, List.getElem?_eq_getElem hlk, hx1, hacc]; rfl
        have htk : List.take i (acc.map AV.str) = acc.map AV.str := List.take_of_length_le (by simp; omega)
        have b1 : (i + 1) * 16 ≤ 140737488355328 := by omega
        have b2 : i + 1 ≤ 9223372036854775807 := by omega
        have y1 : IntKind.i64.wrap ((i : Int) + 1) = i + 1 := wr_i64 (by omega) (by omega)
        rw [hacc]
        refine Sim.exec hmix hΓ2 (n := 0) (by simp (decide := true) [hlt, hltI, hn, hg, hal, htk, b1, b2, y1]; exact ⟨rfl, rfl, rfl⟩) (by simp) ?_
        exact ⟨i + 1, by omega, by rw [hnx]; exact Weak.mk' [0, 1, 2, 3, 4, 7] (by decide) (by decide) (by simp) (by simp [AWb]), by omega⟩
      · have hin : i = n := by omega
        subst hin
        rw [List.take_of_length_le (by omega)]
        refine Sim.exec hmix hΓ2 (n := 0) (by simp; exact ⟨rfl, rfl, rfl⟩) (by simp) ?_
        dsimp only
        rw [if_pos rfl]
        exact ⟨.inl rfl, _, by simp [Try.f97] <;> rfl, Weak.mk' [0, 1, 2, 3, 4, 5] (by decide) (by decide) (by simp) (by simp [AWb])⟩
  · dsimp only
    refine Sim.exec hmix hΓ (n := 0) (by simp; exact ⟨rfl, rfl, rfl⟩) (by simp) ?_
    exact ⟨.inr rfl, _, by simp [Try.f20] <;> rfl, Weak.mk' [0, 5] (by decide) (by decide) (by simp) (by simp [AWb])⟩

end Go.Proofs.Ytjolihoakdifoaa
