/- The law cedillalaw09.NameBack: the walk. -/
import Derived.Test.YtkeffhaldeedpaaDoorQo
import Derived.Test.YtkeffhaldeedpaaDoorQl
import Derived.Test.YtkeffhaldeedpaaDoorSp
namespace Go.Proofs.YtkeffhaldeedpaaDoor
open Go Go.Lib
set_option maxRecDepth 100000
attribute [-simp] drawOk_eq adraw qrun acode aops

def nbInl : List FuncId := [15, 16]
noncomputable abbrev nbΓ : Gam := runG Tryd.prog ntΓ 0 nbInl 2
theorem nbΓ_ok : GOk Tryd.prog nbΓ := gok_run hmix ntΓ_ok 0 nbInl 2

set_option maxHeartbeats 16000000 in
theorem nback_ct (a b : Int) (ha : 0 ≤ a ∧ a < 4294967296) (hb : 0 ≤ b ∧ b < 4294967296) (s : List UInt8) (hs : s.length ≤ 9223372036854775807) :
    Ct Tryd.prog 4 [.int .u32 a, .int .u32 b, .str s] [] (.bool true) [] := by
  have hΓ := nbΓ_ok
  obtain ⟨r0, hr0⟩ : ∃ r0 : Nat, a.tmod 1000000000 = r0 := ⟨(a.tmod 1000000000).toNat, by rw [Int.tmod_eq_emod_of_nonneg ha.1]; omega⟩
  have r02 : r0 < 1000000000 := by rw [Int.tmod_eq_emod_of_nonneg ha.1] at hr0; omega
  obtain ⟨r1, hr1⟩ : ∃ r1 : Nat, b.tmod 1000000000 = r1 := ⟨(b.tmod 1000000000).toNat, by rw [Int.tmod_eq_emod_of_nonneg hb.1]; omega⟩
  have r12 : r1 < 1000000000 := by rw [Int.tmod_eq_emod_of_nonneg hb.1] at hr1; omega
  have va : IntKind.i64.wrap a = a := wr_i64 (by omega) (by omega)
  have vb : IntKind.i64.wrap b = b := wr_i64 (by omega) (by omega)
  have vr : IntKind.i64.wrap (r0 : Int) = r0 := wr_i64 (by omega) (by omega)
  have vq : IntKind.i64.wrap (r1 : Int) = r1 := wr_i64 (by omega) (by omega)
  obtain ⟨n, hn⟩ : ∃ n : Nat, n = r0 + 1 := ⟨_, rfl⟩
  obtain ⟨m, hm⟩ : ∃ m : Nat, m = r1 + 1 := ⟨_, rfl⟩
  have vn : IntKind.i64.wrap (1 + (r0 : Int)) = n := by rw [wr_i64 (by omega) (by omega)]; omega
  have vm : IntKind.i64.wrap (1 + (r1 : Int)) = m := by rw [wr_i64 (by omega) (by omega)]; omega
  have n1 : 1 ≤ n := by omega
  have n2 : n ≤ 1000000000 := by omega
  have m1 : 1 ≤ m := by omega
  have m2 : m ≤ 1000000000 := by omega
  obtain ⟨z, ez⟩ : ∃ z : Nat, min (s.length : Int) 30 = z := ⟨min s.length 30, by omega⟩
  have z1 : z ≤ s.length := by omega
  have z2 : z ≤ 30 := by omega
  refine ct_of_sim Tryd.func4 rfl ?_
  simp only [Tryd.ntmps4, List.length_cons, List.length_nil, Nat.reduceAdd, Nat.reduceSub, List.replicate, List.cons_append, List.nil_append]
  refine Sim.step hmix hΓ (n := 0) (by simp; exact ⟨rfl, rfl⟩) (by simp) ?_
  refine Sim.step hmix hΓ (n := 0) (by simp [ntΓ, nbInl, trueK]; exact ⟨rfl, rfl⟩) (by simp) ?_
  refine Sim.step hmix hΓ (n := 0) (by simp [va, vb, hr0, hr1, vn, vm]; exact ⟨rfl, rfl⟩) (by simp) ?_
  refine Sim.seq (Sim.mono (Q := fun e F' H' => e = .normal ∧ Weak 0 F' H' ([.int .u32 a, .int .u32 b, .str s, .top, .top, .top, .bool false] ++ List.replicate 110 .top) []) ?_ ?_)
  · refine Sim.step hmix hΓ (n := 0) (by simp; exact ⟨rfl, rfl⟩) (by simp) ?_
    refine Sim.block (Sim.loopW (fun q : Nat => 3 ≤ q ∧ q ≤ 5)
      (fun q => [.int .u32 a, .int .u32 b, .str s, .top, .top, .top, .bool false, .int .i64 n, .int .i64 m, .int .i64 q] ++ List.replicate 107 .top) (fun _ => []) (fun q => 5 - q) 3 (by simp) (by omega) (Weak.mk' [] (by decide) (by decide) (by simp) (by simp)) fun q hq => ?_)
    by_cases hlt : q ≤ 4
    · have hk : (q : Int) = 3 ∨ (q : Int) = 4 := by omega
      have hlti : (q : Int) ≤ 4 := by omega
      have hw : IntKind.i64.wrap ((q : Int) + 1) = q + 1 := wr_i64 (by omega) (by omega)
      have px := nparse_mk hk n1 n2
      have hp := numN_pair hk n1 n2 m1 m2
      have hinj := mk_inj hk n1 n2 m1 m2
      have hmono := mk_mono hk n1 m2
      have hmono' := mk_mono hk m1 n2
      have lx := mk_length q n
      have ly := mk_length q m
      refine Sim.step hmix hΓ (n := 0) (by simp [hlti]; exact ⟨rfl, rfl⟩) (by simp) ?_
      refine Sim.seq (Sim.block ?_)
      obtain ⟨x, hx⟩ : ∃ x, mk q n = x := ⟨_, rfl⟩
      rw [hx] at px hp hinj hmono hmono' lx
      have lx14 : ¬ (14 : Int) < x.length := by omega
      have lx6 : x.length ≤ 1000000 := by omega
      by_cases hnm : n = m
      · have hmn : m = n := hnm.symm
        obtain ⟨R, hR⟩ : ∃ R, cpt (srt (numRaw q [x, x, x, manifW])) = R := ⟨_, rfl⟩
        have hRn : numN q [x, x, x, manifW] = [(n : Int)] := by rw [show [x, x, x, manifW] = [x, mk q m, x, manifW] by rw [hmn, hx], hp]; unfold pairI; rw [if_pos (by omega)]
        have hRt : (intsA R).take 1 = intsA [(n : Int)] := by
          have h := cpt_takeB (srt (numRaw q [x, x, x, manifW]))
          rw [hR, show compact (srt (numRaw q [x, x, x, manifW])) = [(n : Int)] from hRn] at h
          simpa using h
        have hRl : 1 ≤ R.length := by
          rw [← hR, cpt_length]
          have h := compact_le (srt (numRaw q [x, x, x, manifW]))
          rw [show compact (srt (numRaw q [x, x, x, manifW])) = [(n : Int)] from hRn] at h
          simpa using h
        have f1 : numbersS [.int .i64 q, .slice 0 0 4 1 true] [.cells true [.str x, .str x, .str x, .str [109, 97, 110, 105, 102, 101, 115, 116]]] = some (.sl 1 0 1 1 false, [.cells true [.str x, .str x, .str x, .str [109, 97, 110, 105, 102, 101, 115, 116]], .cells true (intsA R)], []) := by
          have h : [109, 97, 110, 105, 102, 101, 115, 116] = manifW := rfl
          rw [h]
          have hall : (([x, x, x, manifW] : List (List UInt8)).all fun s => decide (s.length ≤ 1000000)) = true := by simp [manifW, lx6]
          simp only [numbersS, readNewS, rowSt, List.getElem?_cons_zero, List.length_cons, List.length_nil, Nat.reduceAdd, Nat.reduceLeDiff, if_true, List.drop_zero, List.take, strsOf, Option.map_some, hRn, hR, hall]
          simp [shA, shB]
        have f2 : intsS [.sl 1 0 1 1 false, .slice 2 0 1 1 true] [.cells true [.str x, .str x, .str x, .str [109, 97, 110, 105, 102, 101, 115, 116]], .cells true (intsA R), .cells true [.int .i64 n]] = some (.bool true, [.cells true [.str x, .str x, .str x, .str [109, 97, 110, 105, 102, 101, 115, 116]], .cells true (intsA R), .cells true [.int .i64 n]], []) := by
          have e2 : intsOf [.int .i64 n] = some [(n : Int)] := rfl
          simp [intsS, readS, rowI, hRl, hRt, e2]
        refine Sim.step hmix hΓ (n := 0) (by simp [ntΓ, nbInl, mkS, hx, hmn]; exact ⟨rfl, rfl⟩) (by simp) ?_
        refine Sim.seq (Sim.plain (by simp) ?_)
        refine SimP.many hΓ 5 rfl rfl (by simp (decide := true) [ntΓ, nbInl, nparseS, px, lx6, Tryd.f15]; exact ⟨rfl, rfl⟩) ?_
        refine SimP.many hΓ 9 rfl rfl (by simp (decide := true); exact ⟨rfl, rfl⟩) ?_
        refine SimP.many hΓ 11 rfl rfl (by simp (decide := true); exact ⟨rfl, rfl⟩) ?_
        refine SimP.many hΓ 7 rfl rfl (by simp (decide := true) [lx14]; exact ⟨rfl, rfl⟩) ?_
        refine SimP.many hΓ 6 rfl rfl (by simp (decide := true) [ntΓ, f1]; exact ⟨rfl, rfl⟩) ?_
        refine SimP.many hΓ 6 rfl rfl (by simp (decide := true) [-minA, ntΓ, nbInl, Tryd.f16, f2]; exact ⟨rfl, rfl⟩) ?_
        refine SimP.done ?_
        dsimp only
        refine Sim.exec hmix hΓ (n := 0) (by simp; exact ⟨rfl, rfl, rfl⟩) (by simp) ?_
        dsimp only
        refine Sim.exec hmix hΓ (n := 0) (by simp [hw]; exact ⟨rfl, rfl, rfl⟩) (by simp) ?_
        dsimp only
        exact ⟨q + 1, by omega, Weak.mk' [] (by decide) (by decide) (by simp [hmn]) (by simp), by omega⟩
      · obtain ⟨y, hy⟩ : ∃ y, mk q m = y := ⟨_, rfl⟩
        rw [hy] at hp hinj hmono hmono' ly
        have ly6 : y.length ≤ 1000000 := by omega
        have hxy : ¬ x = y := fun e => hnm (hinj e)
        have hmn2 : ¬ m = n := fun e => hnm e.symm
        have hxyb : (x == y) = false := by simpa using hxy
        have hnmb : ((n : Int) == (m : Int)) = false := by simp; omega
        have hnmI : ¬ (n : Int) = m := by omega
        by_cases hlt1 : n < m
        · have hlen : ¬ y.length < x.length := by have := hmono (by omega); omega
          have hmi : min (n : Int) m = n := by omega
          have hma : max (n : Int) m = m := by omega
          obtain ⟨R, hR⟩ : ∃ R, cpt (srt (numRaw q [x, y, x, manifW])) = R := ⟨_, rfl⟩
          have hRn : numN q [x, y, x, manifW] = [(n : Int), (m : Int)] := by rw [hp]; unfold pairI; rw [if_neg (by omega), show min (n : Int) m = n by omega, show max (n : Int) m = m by omega]
          have hRt : (intsA R).take 2 = intsA [(n : Int), (m : Int)] := by
            have h := cpt_takeB (srt (numRaw q [x, y, x, manifW]))
            rw [hR, show compact (srt (numRaw q [x, y, x, manifW])) = [(n : Int), (m : Int)] from hRn] at h
            simpa using h
          have hRl : 2 ≤ R.length := by
            rw [← hR, cpt_length]
            have h := compact_le (srt (numRaw q [x, y, x, manifW]))
            rw [show compact (srt (numRaw q [x, y, x, manifW])) = [(n : Int), (m : Int)] from hRn] at h
            simpa using h
          have f1 : numbersS [.int .i64 q, .slice 0 0 4 1 true] [.cells true [.str x, .str y, .str x, .str [109, 97, 110, 105, 102, 101, 115, 116]]] = some (.sl 1 0 2 1 false, [.cells true [.str x, .str y, .str x, .str [109, 97, 110, 105, 102, 101, 115, 116]], .cells true (intsA R)], []) := by
            have h : [109, 97, 110, 105, 102, 101, 115, 116] = manifW := rfl
            rw [h]
            have hall : (([x, y, x, manifW] : List (List UInt8)).all fun s => decide (s.length ≤ 1000000)) = true := by simp [manifW, lx6, ly6]
            simp only [numbersS, readNewS, rowSt, List.getElem?_cons_zero, List.length_cons, List.length_nil, Nat.reduceAdd, Nat.reduceLeDiff, if_true, List.drop_zero, List.take, strsOf, Option.map_some, hRn, hR, hall]
            simp [shA, shB]
          have f2 : intsS [.sl 1 0 2 1 false, .slice 2 0 2 1 true] [.cells true [.str x, .str y, .str x, .str [109, 97, 110, 105, 102, 101, 115, 116]], .cells true (intsA R), .cells true [.int .i64 n, .int .i64 m]] = some (.bool true, [.cells true [.str x, .str y, .str x, .str [109, 97, 110, 105, 102, 101, 115, 116]], .cells true (intsA R), .cells true [.int .i64 n, .int .i64 m]], []) := by
            have e2 : intsOf [.int .i64 n, .int .i64 m] = some [(n : Int), (m : Int)] := rfl
            simp [intsS, readS, rowI, hRl, hRt, e2]
          refine Sim.step hmix hΓ (n := 0) (by simp [ntΓ, nbInl, mkS, hx, hy]; exact ⟨rfl, rfl⟩) (by simp) ?_
          refine Sim.seq (Sim.plain (by simp) ?_)
          refine SimP.many hΓ 5 rfl rfl (by simp (decide := true) [ntΓ, nbInl, nparseS, px, lx6, Tryd.f15]; exact ⟨rfl, rfl⟩) ?_
          refine SimP.many hΓ 9 rfl rfl (by simp (decide := true) [hxyb, hnmb]; exact ⟨rfl, rfl⟩) ?_
          refine SimP.many hΓ 11 rfl rfl (by simp (decide := true) [hlt1, hlen]; exact ⟨rfl, rfl⟩) ?_
          refine SimP.many hΓ 7 rfl rfl (by simp (decide := true) [lx14]; exact ⟨rfl, rfl⟩) ?_
          refine SimP.many hΓ 6 rfl rfl (by simp (decide := true) [ntΓ, f1]; exact ⟨rfl, rfl⟩) ?_
          refine SimP.many hΓ 6 rfl rfl (by simp (decide := true) [-minA, minA_min, minA_max, ntΓ, nbInl, Tryd.f16, f2, hnmI, hmi, hma]; exact ⟨rfl, rfl⟩) ?_
          refine SimP.done ?_
          dsimp only
          refine Sim.exec hmix hΓ (n := 0) (by simp; exact ⟨rfl, rfl, rfl⟩) (by simp) ?_
          dsimp only
          refine Sim.exec hmix hΓ (n := 0) (by simp [hw]; exact ⟨rfl, rfl, rfl⟩) (by simp) ?_
          dsimp only
          exact ⟨q + 1, by omega, Weak.mk' [] (by decide) (by decide) (by simp) (by simp), by omega⟩
        · have hmi : min (n : Int) m = m := by omega
          have hma : max (n : Int) m = n := by omega
          obtain ⟨R, hR⟩ : ∃ R, cpt (srt (numRaw q [x, y, x, manifW])) = R := ⟨_, rfl⟩
          have hRn : numN q [x, y, x, manifW] = [(m : Int), (n : Int)] := by rw [hp]; unfold pairI; rw [if_neg (by omega), show min (n : Int) m = m by omega, show max (n : Int) m = n by omega]
          have hRt : (intsA R).take 2 = intsA [(m : Int), (n : Int)] := by
            have h := cpt_takeB (srt (numRaw q [x, y, x, manifW]))
            rw [hR, show compact (srt (numRaw q [x, y, x, manifW])) = [(m : Int), (n : Int)] from hRn] at h
            simpa using h
          have hRl : 2 ≤ R.length := by
            rw [← hR, cpt_length]
            have h := compact_le (srt (numRaw q [x, y, x, manifW]))
            rw [show compact (srt (numRaw q [x, y, x, manifW])) = [(m : Int), (n : Int)] from hRn] at h
            simpa using h
          have f1 : numbersS [.int .i64 q, .slice 0 0 4 1 true] [.cells true [.str x, .str y, .str x, .str [109, 97, 110, 105, 102, 101, 115, 116]]] = some (.sl 1 0 2 1 false, [.cells true [.str x, .str y, .str x, .str [109, 97, 110, 105, 102, 101, 115, 116]], .cells true (intsA R)], []) := by
            have h : [109, 97, 110, 105, 102, 101, 115, 116] = manifW := rfl
            rw [h]
            have hall : (([x, y, x, manifW] : List (List UInt8)).all fun s => decide (s.length ≤ 1000000)) = true := by simp [manifW, lx6, ly6]
            simp only [numbersS, readNewS, rowSt, List.getElem?_cons_zero, List.length_cons, List.length_nil, Nat.reduceAdd, Nat.reduceLeDiff, if_true, List.drop_zero, List.take, strsOf, Option.map_some, hRn, hR, hall]
            simp [shA, shB]
          have f2 : intsS [.sl 1 0 2 1 false, .slice 2 0 2 1 true] [.cells true [.str x, .str y, .str x, .str [109, 97, 110, 105, 102, 101, 115, 116]], .cells true (intsA R), .cells true [.int .i64 m, .int .i64 n]] = some (.bool true, [.cells true [.str x, .str y, .str x, .str [109, 97, 110, 105, 102, 101, 115, 116]], .cells true (intsA R), .cells true [.int .i64 m, .int .i64 n]], []) := by
            have e2 : intsOf [.int .i64 m, .int .i64 n] = some [(m : Int), (n : Int)] := rfl
            simp [intsS, readS, rowI, hRl, hRt, e2]
          refine Sim.step hmix hΓ (n := 0) (by simp [ntΓ, nbInl, mkS, hx, hy]; exact ⟨rfl, rfl⟩) (by simp) ?_
          refine Sim.seq (Sim.plain (by simp) ?_)
          refine SimP.many hΓ 5 rfl rfl (by simp (decide := true) [ntΓ, nbInl, nparseS, px, lx6, Tryd.f15]; exact ⟨rfl, rfl⟩) ?_
          refine SimP.many hΓ 9 rfl rfl (by simp (decide := true) [hxyb, hnmb]; exact ⟨rfl, rfl⟩) ?_
          refine SimP.many hΓ 11 rfl rfl (by simp (decide := true) [hlt1]; exact ⟨rfl, rfl⟩) ?_
          refine SimP.many hΓ 7 rfl rfl (by simp (decide := true) [lx14]; exact ⟨rfl, rfl⟩) ?_
          refine SimP.many hΓ 6 rfl rfl (by simp (decide := true) [ntΓ, f1]; exact ⟨rfl, rfl⟩) ?_
          refine SimP.many hΓ 6 rfl rfl (by simp (decide := true) [-minA, minA_min, minA_max, ntΓ, nbInl, Tryd.f16, f2, hnmI, hmi, hma]; exact ⟨rfl, rfl⟩) ?_
          refine SimP.done ?_
          dsimp only
          refine Sim.exec hmix hΓ (n := 0) (by simp; exact ⟨rfl, rfl, rfl⟩) (by simp) ?_
          dsimp only
          refine Sim.exec hmix hΓ (n := 0) (by simp [hw]; exact ⟨rfl, rfl, rfl⟩) (by simp) ?_
          dsimp only
          exact ⟨q + 1, by omega, Weak.mk' [] (by decide) (by decide) (by simp) (by simp), by omega⟩
    · have hlti : ¬ (q : Int) ≤ 4 := by omega
      refine Sim.exec hmix hΓ (n := 0) (by simp [hlti]; exact ⟨rfl, rfl, rfl⟩) (by simp) ?_
      dsimp only
      rw [if_pos rfl]
      exact ⟨by trivial, Weak.mk' [] (by decide) (by decide) (by simp) (by simp)⟩
  rintro e F' H' hlen ⟨rfl, hwk⟩
  dsimp only
  refine Sim.weak hwk hlen ?_
  clear hwk hlen
  obtain ⟨t0, ht0⟩ : ∃ t, s.take z = t := ⟨_, rfl⟩
  have hlt0 : t0.length ≤ 30 := by rw [← ht0, List.length_take]; omega
  obtain ⟨tw, htw⟩ : ∃ t, 119 :: 97 :: 108 :: 45 :: t0 = t := ⟨_, rfl⟩
  obtain ⟨ts, hts⟩ : ∃ t, 115 :: 101 :: 103 :: 45 :: t0 = t := ⟨_, rfl⟩
  have hb4 : 4 + t0.length ≤ 9223372036854775807 := by omega
  have hl_t0 : t0.length ≤ 1000000 := by omega
  have hl_tw : tw.length ≤ 1000000 := by rw [← htw]; simp; omega
  have hl_ts : ts.length ≤ 1000000 := by rw [← hts]; simp; omega
  refine Sim.step hmix hΓ (n := 0) (by simp [-minA, minA_min, ez, z1, ht0]; exact ⟨rfl, rfl⟩) (by simp) ?_
  refine Sim.seq (Sim.step hmix hΓ (n := 0) (by simp [htw, hts, hb4]; exact ⟨rfl, rfl⟩) (by simp) ?_)
  refine Sim.mono (Q := fun e F' H' => e = .normal ∧ Weak 0 F' H' ([.int .u32 a, .int .u32 b, .str t0, .top, .top, .top, .bool false] ++ List.replicate 110 .top) []) ?_ ?_
  · refine Sim.block (Sim.loopW (fun q : Nat => q ≤ 3)
      (fun q => [.int .u32 a, .int .u32 b, .str t0, .top, .top, .top, .bool false] ++ List.replicate 83 .top ++ [.agg [.str t0, .str tw, .str ts], .int .i64 q] ++ List.replicate 25 .top) (fun _ => []) (fun q => 3 - q) 0 (by simp) (by omega) (Weak.mk' [] (by decide) (by decide) (by simp) (by simp)) fun q hq => ?_)
    rcases (show q = 0 ∨ q = 1 ∨ q = 2 ∨ q = 3 by omega) with rfl | rfl | rfl | rfl
    · have hp := nparse_back t0 (nparse t0).1 (nparse t0).2 rfl
      obtain ⟨k1, hk1⟩ : ∃ k, (nparse t0).1 = k := ⟨_, rfl⟩
      obtain ⟨v1, hv1⟩ : ∃ v, (nparse t0).2 = v := ⟨_, rfl⟩
      rw [hk1, hv1] at hp
      refine Sim.step hmix hΓ (n := 0) (by simp; exact ⟨rfl, rfl⟩) (by simp) ?_
      refine Sim.step hmix hΓ (n := 0) (by simp; exact ⟨rfl, rfl⟩) (by simp) ?_
      refine Sim.seq (Sim.block ?_)
      refine Sim.step hmix hΓ (n := 0) (by simp; exact ⟨rfl, rfl⟩) (by simp) ?_
      refine Sim.step hmix hΓ (n := 0) (by simp [ntΓ, nbInl, nparseS, hl_t0, hk1, hv1]; exact ⟨rfl, rfl⟩) (by simp) ?_
      rcases hp with ⟨rfl, rfl⟩ | ⟨hk0, hmk⟩
      · refine Sim.exec hmix hΓ (n := 0) (by simp (decide := true); exact ⟨rfl, rfl, rfl⟩) (by simp) ?_
        dsimp only
        refine Sim.exec hmix hΓ (n := 0) (by simp [show IntKind.i64.wrap 1 = 1 from rfl]; exact ⟨rfl, rfl, rfl⟩) (by simp) ?_
        dsimp only
        exact ⟨1, by omega, Weak.mk' [] (by decide) (by decide) (by simp) (by simp), by omega⟩
      · have hk0b : (k1 == 0) = false := by simpa using hk0
        have hk0c : (k1 != 0) = true := by simpa using hk0
        refine Sim.seq (Sim.plain (by simp) ?_)
        refine SimP.many hΓ 3 rfl rfl (by simp (decide := true) [hk0c]; exact ⟨rfl, rfl⟩) ?_
        refine SimP.many hΓ 6 rfl rfl (by simp (decide := true) [ntΓ, mkS, hmk]; exact ⟨rfl, rfl⟩) ?_
        refine SimP.many hΓ 8 rfl rfl (by simp (decide := true) [hk0b]; exact ⟨rfl, rfl⟩) ?_
        refine SimP.done ?_
        dsimp only
        refine Sim.exec hmix hΓ (n := 0) (by simp; exact ⟨rfl, rfl, rfl⟩) (by simp) ?_
        dsimp only
        refine Sim.exec hmix hΓ (n := 0) (by simp [show IntKind.i64.wrap 1 = 1 from rfl]; exact ⟨rfl, rfl, rfl⟩) (by simp) ?_
        dsimp only
        exact ⟨1, by omega, Weak.mk' [] (by decide) (by decide) (by simp) (by simp), by omega⟩
    · have hp := nparse_back tw (nparse tw).1 (nparse tw).2 rfl
      obtain ⟨k1, hk1⟩ : ∃ k, (nparse tw).1 = k := ⟨_, rfl⟩
      obtain ⟨v1, hv1⟩ : ∃ v, (nparse tw).2 = v := ⟨_, rfl⟩
      rw [hk1, hv1] at hp
      refine Sim.step hmix hΓ (n := 0) (by simp; exact ⟨rfl, rfl⟩) (by simp) ?_
      refine Sim.step hmix hΓ (n := 0) (by simp; exact ⟨rfl, rfl⟩) (by simp) ?_
      refine Sim.seq (Sim.block ?_)
      refine Sim.step hmix hΓ (n := 0) (by simp; exact ⟨rfl, rfl⟩) (by simp) ?_
      refine Sim.step hmix hΓ (n := 0) (by simp [ntΓ, nbInl, nparseS, hl_tw, hk1, hv1]; exact ⟨rfl, rfl⟩) (by simp) ?_
      rcases hp with ⟨rfl, rfl⟩ | ⟨hk0, hmk⟩
      · refine Sim.exec hmix hΓ (n := 0) (by simp (decide := true); exact ⟨rfl, rfl, rfl⟩) (by simp) ?_
        dsimp only
        refine Sim.exec hmix hΓ (n := 0) (by simp [show IntKind.i64.wrap 2 = 2 from rfl]; exact ⟨rfl, rfl, rfl⟩) (by simp) ?_
        dsimp only
        exact ⟨2, by omega, Weak.mk' [] (by decide) (by decide) (by simp) (by simp), by omega⟩
      · have hk0b : (k1 == 0) = false := by simpa using hk0
        have hk0c : (k1 != 0) = true := by simpa using hk0
        refine Sim.seq (Sim.plain (by simp) ?_)
        refine SimP.many hΓ 3 rfl rfl (by simp (decide := true) [hk0c]; exact ⟨rfl, rfl⟩) ?_
        refine SimP.many hΓ 6 rfl rfl (by simp (decide := true) [ntΓ, mkS, hmk]; exact ⟨rfl, rfl⟩) ?_
        refine SimP.many hΓ 8 rfl rfl (by simp (decide := true) [hk0b]; exact ⟨rfl, rfl⟩) ?_
        refine SimP.done ?_
        dsimp only
        refine Sim.exec hmix hΓ (n := 0) (by simp; exact ⟨rfl, rfl, rfl⟩) (by simp) ?_
        dsimp only
        refine Sim.exec hmix hΓ (n := 0) (by simp [show IntKind.i64.wrap 2 = 2 from rfl]; exact ⟨rfl, rfl, rfl⟩) (by simp) ?_
        dsimp only
        exact ⟨2, by omega, Weak.mk' [] (by decide) (by decide) (by simp) (by simp), by omega⟩
    · have hp := nparse_back ts (nparse ts).1 (nparse ts).2 rfl
      obtain ⟨k1, hk1⟩ : ∃ k, (nparse ts).1 = k := ⟨_, rfl⟩
      obtain ⟨v1, hv1⟩ : ∃ v, (nparse ts).2 = v := ⟨_, rfl⟩
      rw [hk1, hv1] at hp
      refine Sim.step hmix hΓ (n := 0) (by simp; exact ⟨rfl, rfl⟩) (by simp) ?_
      refine Sim.step hmix hΓ (n := 0) (by simp; exact ⟨rfl, rfl⟩) (by simp) ?_
      refine Sim.seq (Sim.block ?_)
      refine Sim.step hmix hΓ (n := 0) (by simp; exact ⟨rfl, rfl⟩) (by simp) ?_
      refine Sim.step hmix hΓ (n := 0) (by simp [ntΓ, nbInl, nparseS, hl_ts, hk1, hv1]; exact ⟨rfl, rfl⟩) (by simp) ?_
      rcases hp with ⟨rfl, rfl⟩ | ⟨hk0, hmk⟩
      · refine Sim.exec hmix hΓ (n := 0) (by simp (decide := true); exact ⟨rfl, rfl, rfl⟩) (by simp) ?_
        dsimp only
        refine Sim.exec hmix hΓ (n := 0) (by simp [show IntKind.i64.wrap 3 = 3 from rfl]; exact ⟨rfl, rfl, rfl⟩) (by simp) ?_
        dsimp only
        exact ⟨3, by omega, Weak.mk' [] (by decide) (by decide) (by simp) (by simp), by omega⟩
      · have hk0b : (k1 == 0) = false := by simpa using hk0
        have hk0c : (k1 != 0) = true := by simpa using hk0
        refine Sim.seq (Sim.plain (by simp) ?_)
        refine SimP.many hΓ 3 rfl rfl (by simp (decide := true) [hk0c]; exact ⟨rfl, rfl⟩) ?_
        refine SimP.many hΓ 6 rfl rfl (by simp (decide := true) [ntΓ, mkS, hmk]; exact ⟨rfl, rfl⟩) ?_
        refine SimP.many hΓ 8 rfl rfl (by simp (decide := true) [hk0b]; exact ⟨rfl, rfl⟩) ?_
        refine SimP.done ?_
        dsimp only
        refine Sim.exec hmix hΓ (n := 0) (by simp; exact ⟨rfl, rfl, rfl⟩) (by simp) ?_
        dsimp only
        refine Sim.exec hmix hΓ (n := 0) (by simp [show IntKind.i64.wrap 3 = 3 from rfl]; exact ⟨rfl, rfl, rfl⟩) (by simp) ?_
        dsimp only
        exact ⟨3, by omega, Weak.mk' [] (by decide) (by decide) (by simp) (by simp), by omega⟩
    · refine Sim.exec hmix hΓ (n := 0) (by simp; exact ⟨rfl, rfl, rfl⟩) (by simp) ?_
      dsimp only
      rw [if_pos rfl]
      exact ⟨by trivial, Weak.mk' [] (by decide) (by decide) (by simp) (by simp)⟩
  rintro e F' H' hlen ⟨rfl, hwk⟩
  dsimp only
  refine Sim.weak hwk hlen ?_
  clear hwk hlen
  refine Sim.exec hmix hΓ (n := 0) (by simp; exact ⟨rfl, rfl, rfl⟩) (by simp) ?_
  exact ⟨.inr rfl, _, by simp [Tryd.f4] <;> rfl, Weak.mk' [] (by decide) (by decide) (by simp) (by simp)⟩

def nameBack_shape : List (Bool × List CT) := [(false, [.one (.int .u32)]), (false, [.one (.int .u32)]), (false, [.one .str])]

theorem nameBack_law : ∀ xs H, AbsArgs nameBack_shape 0 xs H → ∃ H', Ct Tryd.prog 4 xs H (.bool true) H' := by
  intro xs H h0
  obtain ⟨x, ys, rfl, ⟨a, rfl, ha⟩, h1⟩ := absArgs_one h0
  obtain ⟨x', ys', rfl, ⟨b, rfl, hb⟩, h1'⟩ := absArgs_one h1
  obtain ⟨x2, ys2, rfl, ⟨s, rfl, hs⟩, h2⟩ := absArgs_one h1'
  obtain ⟨rfl, rfl⟩ := absArgs_nil h2
  have ba := bounds_u32 ha
  have bb := bounds_u32 hb
  unfold maxLen at hs
  exact ⟨_, nback_ct a b ⟨ba.1, by omega⟩ ⟨bb.1, by omega⟩ s (by omega)⟩

end Go.Proofs.YtkeffhaldeedpaaDoor
