/- The law cedillalaw05.EntryLists: the walk. -/
import Derived.Test.YtndkhkponamplaaE2
import Derived.Test.YtndkhkponamplaaEk
namespace Go.Proofs.Ytndkhkponamplaa
open Go
set_option maxRecDepth 100000
attribute [-simp] drawOk_eq adraw qrun acode aops

noncomputable def elΓ : Gam := gams [(16, trueK), (19, drS listOf), (20, drS entsOf), (21, chkS), (22, chkS), (24, liveS), (25, liveS), (26, withS), (27, withS), (28, findS), (29, findS), (23, sameS)]
theorem elΓ_ok : GOk Try.prog elΓ := goks_cons entryKnownS0_sound (goks_cons list_sound (goks_cons entries2_sound (goks_cons check_sound (goks_cons rchk_sound (goks_cons live_sound (goks_cons rlive_sound (goks_cons with_sound (goks_cons rwith_sound (goks_cons find_sound (goks_cons rfind_sound (goks_cons same_sound goks_nil)))))))))))

set_option maxHeartbeats 16000000 in
theorem elists_ct (raw : List En) (ds es : List Dr) (hr : raw.length ≤ 9223372036854775807) (hd : DrOk ds) (hdl : ds.length ≤ 9223372036854775807) (he : DrOk es) (hel : es.length ≤ 9223372036854775807) :
    ∃ H', Ct Try.prog 5 [.sl 0 0 raw.length 3 false, .sl 1 0 ds.length 3 false, .sl (ds.length + 2) 0 es.length 3 false] (.cells false (ensA raw) :: (drK 1 ds ++ drK (ds.length + 2) es)) (.bool true) H' := by
  obtain ⟨own, hown⟩ : ∃ l, listOf ds 50 = l := ⟨_, rfl⟩
  obtain ⟨som, hsom⟩ : ∃ l, entsOf es 20 = l := ⟨_, rfl⟩
  have hol : own.length ≤ 50 := by
    rw [← hown]
    have h1 := withE_length (dEs (ds.take 50)) []
    have h2 := dEs_length ds 50
    unfold listOf
    simp only [List.length_nil] at h1
    omega
  have hsl : som.length ≤ 20 := by rw [← hsom]; exact dEs_length es 20
  have hasc : asc own := by rw [← hown]; exact withE_asc _ List.Pairwise.nil
  obtain ⟨N, hN⟩ : ∃ N, ds.length + es.length + 3 = N := ⟨_, rfl⟩
  obtain ⟨A, hAe⟩ : ∃ A : AHeap, ABlk.cells false (ensA raw) :: (drK 1 ds ++ drK (ds.length + 2) es) = A := ⟨_, rfl⟩
  have hA : A.length = N := by rw [← hAe, ← hN]; simp [drK_length]; omega
  have hf : ∀ x ∈ A, ∃ o l, x = ABlk.cells o l ∧ belows N l = true := by
    intro x hx
    rw [← hAe] at hx
    rcases List.mem_cons.1 hx with rfl | hx
    · exact ⟨_, _, rfl, belows_free _ _ (frees_ens _)⟩
    · rcases List.mem_append.1 hx with hx | hx
      · obtain ⟨o, l, rfl, h⟩ := drK_flat 1 ds x hx
        exact ⟨_, _, rfl, belows_mono (by omega) _ h⟩
      · obtain ⟨o, l, rfl, h⟩ := drK_flat (ds.length + 2) es x hx
        exact ⟨_, _, rfl, belows_mono (by omega) _ h⟩
  have hA0 : ∀ T : AHeap, (A ++ T)[0]? = some (.cells false (ensA raw)) := fun T => by rw [← hAe]; rfl
  have hlist : ∀ T, drS listOf [.sl 1 0 ds.length 3 false, .int .i64 50] (A ++ T) = some (.sl (A ++ T).length 0 own.length 3 false, A ++ T ++ [.cells true (ensA own)], []) := fun T => by
    have := drS_at (g := listOf) (args := [.sl 1 0 ds.length 3 false, .int .i64 (50 : Nat)]) (H := A ++ T) (ds := ds) (m := 50) (b := 1) ⟨rfl, ⟨[.cells false (ensA raw)], drK (ds.length + 2) es ++ T, rfl, by rw [← hAe]; simp⟩, by omega, hd, hdl⟩
    rw [hown] at this
    exact this
  have hents : ∀ T, drS entsOf [.sl (ds.length + 2) 0 es.length 3 false, .int .i64 20] (A ++ T) = some (.sl (A ++ T).length 0 som.length 3 false, A ++ T ++ [.cells true (ensA som)], []) := fun T => by
    have := drS_at (g := entsOf) (args := [.sl (ds.length + 2) 0 es.length 3 false, .int .i64 (20 : Nat)]) (H := A ++ T) (ds := es) (m := 20) (b := ds.length + 2) ⟨rfl, ⟨.cells false (ensA raw) :: drK 1 ds, T, by simp [drK_length], by rw [← hAe]; simp⟩, by omega, he, hel⟩
    rw [hsom] at this
    exact this
  have hal : ∀ L : AHeap, N ≤ (A ++ L).length := fun L => by rw [List.length_append]; omega
  have hrN : ∀ (k : Nat) h, (List.range N ++ [N + k])[N]'h = N + k := fun k h => by rw [List.getElem_append_right (by simp)]; simp
  have hr0 : ∀ (L : List Nat) h, (List.range N ++ L)[0]'h = 0 := fun L h => by rw [List.getElem_append_left (by rw [List.length_range]; omega), List.getElem_range]
  refine ⟨A, ?_⟩
  rw [hAe]
  refine ct_of_sim Try.func5 rfl ?_
  simp only [Try.ntmps5, List.length_cons, List.length_nil, Nat.reduceAdd, Nat.reduceSub, List.replicate, List.cons_append, List.nil_append]
  rw [hA]
  obtain ⟨z, ez⟩ : ∃ z : Nat, min (raw.length : Int) 50 = z := ⟨min raw.length 50, by omega⟩
  have z1 : z ≤ raw.length := by omega
  have z2 : z ≤ 50 := by omega
  have b1 : own.length * 24 ≤ 140737488355328 := by omega
  have b2 : own.length ≤ 9223372036854775807 := by omega
  refine Sim.step hmix elΓ_ok (n := 0) (by simp; exact ⟨rfl, rfl⟩) (by omega) ?_
  refine Sim.step hmix elΓ_ok (n := 0) (by simp [-minA, minA_min, ez, z1]; exact ⟨rfl, rfl⟩) (by omega) ?_
  have hlist0 := hlist []
  rw [List.append_nil] at hlist0
  refine Sim.step hmix elΓ_ok (n := 0) (by simp [elΓ, hlist0, hA]; exact ⟨rfl, rfl⟩) (by omega) ?_
  refine Sim.step hmix elΓ_ok (n := 0) (by simp [elΓ, hents, hA]; exact ⟨rfl, rfl⟩) (hal _) ?_
  refine Sim.step hmix elΓ_ok (n := 0) (by simp [hA, b1, b2]; exact ⟨rfl, rfl⟩) (hal _) ?_
  have q0 : ∀ T : AHeap, rowEns (A ++ T) (.sl 0 0 z 3 false) = some (raw.take z) := fun T => by
    have e1 : ensOf ((ensA raw).take (z * 3)) = some (raw.take z) := by rw [ens_take, ensOf_ensA]
    have e2 : z * 3 ≤ raw.length * 3 := by omega
    simp [rowEns, hA0, e1, e2]
  have q1 : ∀ T : AHeap, rowEns (A ++ .cells true (ensA own) :: T) (.sl N 0 own.length 3 false) = some own := fun T => rowEns_tail hA 0 (o := true) (T := .cells true (ensA own) :: T) rfl
  have q2 : ∀ (B : ABlk) (T : AHeap), rowEns (A ++ B :: .cells true (ensA som) :: T) (.sl (N + 1) 0 som.length 3 false) = some som := fun B T => rowEns_tail hA 1 (o := true) (T := B :: .cells true (ensA som) :: T) rfl
  have lz : (raw.take z).length ≤ 50 := by rw [List.length_take]; omega
  refine Sim.seq (Sim.step hmix elΓ_ok (n := 0) (by simp; exact ⟨rfl, rfl⟩) (hal _) ?_)
  refine Sim.block (Sim.loopW (fun k : Nat => k ≤ 3)
    (fun k => [.sl 0 0 z 3 false, .top, .top, .top, .top, .top, .bool false, .sl N 0 own.length 3 false, .sl (N + 1) 0 som.length 3 false, .sl (N + 2) 0 own.length 3 false] ++ List.replicate 26 .top ++ [.agg [.sl 0 0 z 3 false, .sl N 0 own.length 3 false, .sl (N + 1) 0 som.length 3 false], .int .i64 k] ++ List.replicate 93 .top)
    (fun _ => A ++ [.cells true (ensA own), .cells true (ensA som), .cells true (ensA own)]) (fun k => 3 - k) 0 (hal _) (by omega) (Weak.tail hA hf [0, 1, 2] (by decide) (by simp [AWs, AW, hr0]) (by simp [AWg, AWb, hA])) fun k hk => ?_)
  by_cases hlt : k < 3
  · have hlti : (k : Int) < 3 := by omega
    have hw : IntKind.i64.wrap ((k : Int) + 1) = k + 1 := wr_i64 (by omega) (by omega)
    refine Sim.step hmix elΓ_ok (n := 0) (by simp [hlti]; exact ⟨rfl, rfl⟩) (hal _) ?_
    refine Sim.step hmix elΓ_ok (n := 0) (by simp; exact ⟨rfl, rfl⟩) (hal _) ?_
    refine Sim.seq (Sim.block ?_)
    refine Sim.seq (Sim.mono (Q := fun e F' H' => e = .normal ∧ ∃ (x : AV) (l : List En), (∀ T, rowEns (A ++ .cells true (ensA own) :: .cells true (ensA som) :: T) x = some l) ∧ l.length ≤ 50 ∧
      F' = [.sl 0 0 z 3 false, .top, .top, .top, .top, .top, .bool false, .sl N 0 own.length 3 false, .sl (N + 1) 0 som.length 3 false, .sl (N + 2) 0 own.length 3 false, .top, x] ++ List.replicate 24 .top ++ [.agg [.sl 0 0 z 3 false, .sl N 0 own.length 3 false, .sl (N + 1) 0 som.length 3 false], .int .i64 k, .bool true, x] ++ List.replicate 91 .top ∧
      H' = A ++ [.cells true (ensA own), .cells true (ensA som), .cells true (ensA own)]) ?_ ?_)
    · match k, hlt with
      | 0, _ =>
        refine Sim.exec hmix elΓ_ok (n := 0) (by simp; exact ⟨rfl, rfl, rfl⟩) (hal _) ?_
        exact ⟨rfl, _, _, fun T => q0 _, lz, rfl, rfl⟩
      | 1, _ =>
        refine Sim.exec hmix elΓ_ok (n := 0) (by simp; exact ⟨rfl, rfl, rfl⟩) (hal _) ?_
        exact ⟨rfl, _, _, fun T => q1 _, hol, rfl, rfl⟩
      | 2, _ =>
        refine Sim.exec hmix elΓ_ok (n := 0) (by simp; exact ⟨rfl, rfl, rfl⟩) (hal _) ?_
        exact ⟨rfl, _, _, fun T => q2 _ T, by omega, rfl, rfl⟩
    rintro e F' H' - ⟨rfl, x, l, hx, hll, rfl, rfl⟩
    dsimp only
    have f1 : ∀ T, chkS [x] (A ++ .cells true (ensA own) :: .cells true (ensA som) :: T) = some (.tuple [.int .i64 (chkE l).1, .int .i64 (chkE l).2], A ++ .cells true (ensA own) :: .cells true (ensA som) :: T, []) := fun T => chkS_at (hx T) (by omega)
    have f2 : ∀ T, liveS [x] (A ++ .cells true (ensA own) :: .cells true (ensA som) :: T) = some (.sl (A ++ .cells true (ensA own) :: .cells true (ensA som) :: T).length 0 (liveE l).length 3 false, A ++ .cells true (ensA own) :: .cells true (ensA som) :: T ++ [.cells true (ensA (liveE l))], []) := fun T => liveS_at (hx T) (by omega)
    have hvl := liveE_length l
    have f3 : ∀ B2, sameS [.sl (N + 3) 0 (liveE l).length 3 false, .sl (N + 4) 0 (liveE l).length 3 false] (A ++ [.cells true (ensA own), .cells true (ensA som), B2, .cells true (ensA (liveE l)), .cells true (ensA (liveE l))]) = some (.bool true, A ++ [.cells true (ensA own), .cells true (ensA som), B2, .cells true (ensA (liveE l)), .cells true (ensA (liveE l))], []) := fun B2 => by
      rw [sameS_at (rowEns_tail hA 3 (o := true) rfl) (rowEns_tail hA 4 (o := true) rfl) (by omega), decide_eq_true rfl]
    refine Sim.step hmix elΓ_ok (n := 0) (by simp [elΓ, f1]; exact ⟨rfl, rfl⟩) (hal _) ?_
    refine Sim.step hmix elΓ_ok (n := 0) (by simp [elΓ, f1]; exact ⟨rfl, rfl⟩) (hal _) ?_
    refine Sim.exec hmix elΓ_ok (n := 0) (by simp [elΓ, f2, f3, hA]; exact ⟨rfl, rfl, rfl⟩) (hal _) ?_
    dsimp only
    refine Sim.exec hmix elΓ_ok (n := 0) (by simp [hw]; exact ⟨rfl, rfl, rfl⟩) (hal _) ?_
    dsimp only
    exact ⟨k + 1, by omega, Weak.tail hA hf [0, 1, 2] (by decide) (by simp [AWs, AW, hr0]) (by simp [AWg, AWb, hA]), by omega⟩
  · have hlti : ¬ (k : Int) < 3 := by omega
    refine Sim.exec hmix elΓ_ok (n := 0) (by simp [hlti]; exact ⟨rfl, rfl, rfl⟩) (hal _) ?_
    dsimp only
    rw [if_pos rfl]
    obtain ⟨res, hres⟩ : ∃ l, withE own som = l := ⟨_, rfl⟩
    obtain ⟨res2, hres2⟩ : ∃ l, withE [] (raw.take z) = l := ⟨_, rfl⟩
    have hrl : res.length ≤ 100 := by rw [← hres]; have := withE_length som own; omega
    have hrl2 : res2.length ≤ 100 := by rw [← hres2]; have := withE_length (raw.take z) []; simp only [List.length_nil] at this; omega
    have w1 : ∀ T, withS [.sl N 0 own.length 3 false, .sl (N + 1) 0 som.length 3 false] (A ++ .cells true (ensA own) :: .cells true (ensA som) :: T) = some (.sl (N + (T.length + 2)) 0 res.length 3 false, A ++ .cells true (ensA own) :: .cells true (ensA som) :: (T ++ [.cells true (ensA res)]), []) := fun T => by
      have := withS_at (q1 (.cells true (ensA som) :: T)) (q2 (.cells true (ensA own)) T) (by omega) (by omega) hasc
      rw [hres] at this
      simpa [hA] using this
    have w2 : ∀ T, withS [.nils, .sl 0 0 z 3 false] (A ++ T) = some (.sl (N + T.length) 0 res2.length 3 false, A ++ (T ++ [.cells true (ensA res2)]), []) := fun T => by
      have := withS_at (x := .nils) (l := []) (by simp [rowEns]) (q0 T) (by simp) (by omega) List.Pairwise.nil
      rw [hres2] at this
      simpa [hA] using this
    have s1 : ∀ B2, sameS [.sl (N + 3) 0 res.length 3 false, .sl (N + 4) 0 res.length 3 false] (A ++ [.cells true (ensA own), .cells true (ensA som), B2, .cells true (ensA res), .cells true (ensA res)]) = some (.bool true, A ++ [.cells true (ensA own), .cells true (ensA som), B2, .cells true (ensA res), .cells true (ensA res)], []) := fun B2 => by
      rw [sameS_at (rowEns_tail hA 3 (o := true) rfl) (rowEns_tail hA 4 (o := true) rfl) (by omega), decide_eq_true rfl]
    have s2 : ∀ B0 B1 B2 B3 B4, sameS [.sl (N + 5) 0 res2.length 3 false, .sl (N + 6) 0 res2.length 3 false] (A ++ [B0, B1, B2, B3, B4, .cells true (ensA res2), .cells true (ensA res2)]) = some (.bool true, A ++ [B0, B1, B2, B3, B4, .cells true (ensA res2), .cells true (ensA res2)], []) := fun B0 B1 B2 B3 B4 => by
      rw [sameS_at (rowEns_tail hA 5 (o := true) rfl) (rowEns_tail hA 6 (o := true) rfl) (by omega), decide_eq_true rfl]
    refine Sim.step hmix elΓ_ok (n := 0) (by simp [elΓ, w1, w2, s1, s2]; exact ⟨rfl, rfl⟩) (hal _) ?_
    have b3 : (own.length + som.length) * 24 ≤ 140737488355328 := by omega
    have b4 : own.length + som.length ≤ 9223372036854775807 := by omega
    have b5 : (own.length + som.length + 1) * 24 ≤ 140737488355328 := by omega
    have b6 : own.length + som.length + 1 ≤ 9223372036854775807 := by omega
    obtain ⟨W, hW⟩ : ∃ W, own ++ som ++ [(([], 0, false) : En)] = W := ⟨_, rfl⟩
    have hWl : W.length = own.length + som.length + 1 := by rw [← hW]; simp only [List.length_append, List.length_cons, List.length_nil]
    have hWe : ensA W = ensA own ++ (ensA som ++ [.str [], .int .u32 0, .bool false]) := by rw [← hW]; simp [ensA, enA]
    refine Sim.seq (Sim.mono (Q := fun e F' H' => e = .normal ∧ Weak N F' H' ([.top, .top, .top, .top, .top, .top, .top, .sl N 0 own.length 3 false, .top, .sl (N + 1) 0 own.length 3 false, .top, .top, .top, .top, .top, .top, .sl (N + 2) 0 W.length 3 false] ++ List.replicate 114 .top)
      (A ++ [.cells true (ensA own), .cells true (ensA own), .cells true (ensA W)])) ?_ ?_)
    · have fo : frees (ensA own ++ (ensA som ++ [AV.str [], .int .u32 0, .bool false])) = true := by rw [← hWe]; exact frees_ens _
      rw [hWl, hWe]
      by_cases ho : own = []
      · by_cases hs : som = []
        · subst ho; subst hs
          refine Sim.exec hmix elΓ_ok (n := 0) (by simp [hA, ensA]; exact ⟨rfl, rfl, rfl⟩) (hal _) ?_
          exact ⟨rfl, Weak.tail hA hf [0, 2, 9] (by decide) (by simp [AWs, AW]) (by simp [AWg, AWb, hA, ensA])⟩
        · subst ho
          simp only [List.length_nil, Nat.zero_add] at b3 b4 b5 b6
          have fo2 : frees (ensA som ++ [AV.str [], .int .u32 0, .bool false]) = true := by simp [ensA]
          refine Sim.exec hmix elΓ_ok (n := 0) (by simp [hA, ensA, hs, b3, b4, b5, b6]; exact ⟨rfl, rfl, rfl⟩) (hal _) ?_
          exact ⟨rfl, Weak.tail hA hf [0, 2, 10] (by decide) (by simp [AWs, AW]) (by simp [AWg, AWb, hA, ensA])⟩
      · have c1 : (own.length + som.length) * 3 ≤ own.length * 3 + som.length * 3 := by omega
        have c2 : List.take ((own.length + som.length) * 3) (ensA own ++ ensA som) = ensA own ++ ensA som := List.take_of_length_le (by simp; omega)
        refine Sim.exec hmix elΓ_ok (n := 0) (by simp [hA, ho, c1, c2, b1, b2, b3, b4, b5, b6]; exact ⟨rfl, rfl, rfl⟩) (hal _) ?_
        exact ⟨rfl, Weak.tail hA hf [0, 2, 11] (by decide) (by simp [AWs, AW]) (by simp [AWg, AWb, hA])⟩
    rintro e F' H' hlen ⟨rfl, hwk⟩
    dsimp only
    refine Sim.weak hwk hlen ?_
    clear hwk hlen
    have hWl2 : W.length ≤ 71 := by omega
    have p1 : ∀ (w : List UInt8) (T : AHeap), findS [.sl N 0 own.length 3 false, .str w] (A ++ .cells true (ensA own) :: T) = some (.tuple [.agg (enA (findE own w).1), .bool (findE own w).2], A ++ .cells true (ensA own) :: T, []) := fun w T => findS_at w (q1 T) (by omega) hasc
    refine Sim.seq (Sim.mono (Q := fun e F' H' => e = .normal ∧ Weak N F' H' ([.top, .top, .top, .top, .top, .top, .top, .sl N 0 own.length 3 false, .top, .sl (N + 1) 0 own.length 3 false] ++ List.replicate 121 .top)
      (A ++ [.cells true (ensA own), .cells true (ensA own)])) ?_ ?_)
    · refine Sim.step hmix elΓ_ok (n := 0) (by simp; exact ⟨rfl, rfl⟩) (hal _) ?_
      refine Sim.block (Sim.loopW (fun k : Nat => k ≤ W.length)
        (fun k => [.top, .top, .top, .top, .top, .top, .top, .sl N 0 own.length 3 false, .top, .sl (N + 1) 0 own.length 3 false, .top, .top, .top, .top, .top, .top, .sl (N + 2) 0 W.length 3 false, .int .i64 k] ++ List.replicate 113 .top)
        (fun _ => A ++ [.cells true (ensA own), .cells true (ensA own), .cells true (ensA W)]) (fun k => W.length - k) 0 (hal _) (by omega) (Weak.tail hA hf [0, 1, 2] (by decide) (by simp [AWs, AW]) (by simp [AWg, AWb, hA])) fun k hk => ?_)
      by_cases hlt : k < W.length
      · have hlti : (k : Int) < W.length := by omega
        obtain ⟨e, he⟩ : ∃ e, W[k] = e := ⟨_, rfl⟩
        have he' : W[k]? = some e := by rw [List.getElem?_eq_getElem hlt, he]
        have c0 := ens_word he'
        have k1 : k * 3 + 3 ≤ W.length * 3 := by omega
        have hw : IntKind.i64.wrap ((k : Int) + 1) = k + 1 := wr_i64 (by omega) (by omega)
        obtain ⟨ew, en, eg⟩ := e
        dsimp only at c0
        obtain ⟨r, b, hr2⟩ : ∃ r b, findE own ew = (r, b) := ⟨_, _, rfl⟩
        obtain ⟨rw', rn, rg⟩ := r
        refine Sim.step hmix elΓ_ok (n := 0) (by simp [hlti]; exact ⟨rfl, rfl⟩) (hal _) ?_
        refine Sim.seq (Sim.block ?_)
        refine Sim.step hmix elΓ_ok (n := 0) (by simp (decide := true) [elΓ, hA, hlt, c0, p1, hr2, enA]; exact ⟨rfl, rfl⟩) (hal _) ?_
        refine Sim.step hmix elΓ_ok (n := 0) (by simp (decide := true) [elΓ, hA, hlt, c0, p1, hr2, enA]; exact ⟨rfl, rfl⟩) (hal _) ?_
        refine Sim.exec hmix elΓ_ok (n := 0) (by simp (decide := true) [hA]; exact ⟨rfl, rfl, rfl⟩) (hal _) ?_
        dsimp only
        refine Sim.exec hmix elΓ_ok (n := 0) (by simp [hw]; exact ⟨rfl, rfl, rfl⟩) (hal _) ?_
        dsimp only
        exact ⟨k + 1, by omega, Weak.tail hA hf [0, 1, 2] (by decide) (by simp [AWs, AW]) (by simp [AWg, AWb, hA]), by omega⟩
      · have hlti : ¬ (k : Int) < W.length := by omega
        refine Sim.exec hmix elΓ_ok (n := 0) (by simp [hlti]; exact ⟨rfl, rfl, rfl⟩) (hal _) ?_
        dsimp only
        rw [if_pos rfl]
        exact ⟨rfl, Weak.tail hA hf [0, 1] (by decide) (by simp [AWs, AW]) (by simp [AWg, AWb, hA])⟩
    rintro e F' H' hlen ⟨rfl, hwk⟩
    dsimp only
    refine Sim.weak hwk hlen ?_
    clear hwk hlen
    have s3 : sameS [.sl N 0 own.length 3 false, .sl (N + 1) 0 own.length 3 false] (A ++ [.cells true (ensA own), .cells true (ensA own)]) = some (.bool true, A ++ [.cells true (ensA own), .cells true (ensA own)], []) := by
      have := sameS_at (q1 [.cells true (ensA own)]) (rowEns_tail hA 1 (o := true) (T := [.cells true (ensA own), .cells true (ensA own)]) rfl) (by omega)
      rw [this, decide_eq_true rfl]
    refine Sim.exec hmix elΓ_ok (n := 0) (by simp [elΓ, s3, trueK]; exact ⟨rfl, rfl, rfl⟩) (hal _) ?_
    have hwk := Weak.tail (T := [.cells true (ensA own), .cells true (ensA own)]) (Tn := []) (F := [AV.bool true]) (Fn := [AV.bool true]) hA hf [] (by decide) (by simp) (by simp [AWg])
    rw [List.append_nil] at hwk
    exact ⟨.inr rfl, _, by simp, hwk⟩

theorem entryLists_law : ∀ xs H, AbsArgs2 entryLists_shape 0 xs H → ∃ H', Ct Try.prog 5 xs H (.bool true) H' :=
  entryLists_open fun raw ds es h1 h2 h3 h4 h5 => elists_ct raw ds es h1 h2 h3 h4 h5

end Go.Proofs.Ytndkhkponamplaa
