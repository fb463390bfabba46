/- The law cedillalaw05.EntryWith: the walk's last part. -/
import Derived.Test.YtndkhkponamplaaEq
import Derived.Test.YtndkhkponamplaaEs
import Derived.Test.YtndkhkponamplaaEt
import Derived.Test.YtndkhkponamplaaEk
namespace Go.Proofs.Ytndkhkponamplaa
open Go
set_option maxRecDepth 100000
attribute [-simp] drawOk_eq adraw qrun acode aops

noncomputable def ewΓ : Gam := gams [(16, trueK), (20, entriesS), (26, withS), (17, draftS), (21, chkS), (28, findS), (23, sameS), (24, liveS)]
theorem ewΓ_ok : GOk Try.prog ewΓ := goks_cons entryKnownS0_sound (goks_cons entries_sound (goks_cons with_sound (goks_cons draft_sound (goks_cons check_sound (goks_cons find_sound (goks_cons same_sound (goks_cons live_sound goks_nil)))))))

theorem rowEns_at {H : AHeap} {b : Nat} {o : Bool} {es : List En} (h : H[b]? = some (.cells o (ensA es))) : rowEns H (.sl b 0 es.length 3 false) = some es := by
  simp [rowEns, h, ensA_length]

theorem withS_at {H : AHeap} {x y : AV} {l m : List En} (hx : rowEns H x = some l) (hy : rowEns H y = some m) (hl : l.length ≤ 100000) (hm : m.length ≤ 100000) (ha : asc l) :
    withS [x, y] H = some (.sl H.length 0 (withE l m).length 3 false, H ++ [.cells true (ensA (withE l m))], []) := by
  simp [withS, readNewS, hx, hy, hl, hm, ascB_of ha, shA, shB, shAs_ens]

theorem at_tail (X T : AHeap) (k : Nat) : (X ++ T)[X.length + k]? = T[k]? := by
  rw [List.getElem?_append_right (by omega)]; simp

theorem rowEns_tail {A T : AHeap} {N : Nat} (hA : A.length = N) (k : Nat) {o : Bool} {es : List En} (h : T[k]? = some (.cells o (ensA es))) : rowEns (A ++ T) (.sl (N + k) 0 es.length 3 false) = some es :=
  rowEns_at (o := o) (by rw [← hA, at_tail, h])

theorem rowEns_slice {A T : AHeap} {N : Nat} (hA : A.length = N) (k : Nat) {o : Bool} {es : List En} (h : T[k]? = some (.cells o (ensA es))) : rowEns (A ++ T) (.slice (N + k) 0 es.length 3 true) = some es := by
  have h' : (A ++ T)[N + k]? = some (.cells o (ensA es)) := by rw [← hA, at_tail, h]
  simp [rowEns, h', ensA_length]

theorem live_at {l : List En} {k : Nat} {e : En} (h : l[k]? = some e) (hg : e.2.2 = false) : (liveE l)[(liveE (l.take k)).length]? = some e := by
  obtain ⟨hk, he⟩ := List.getElem?_eq_some_iff.1 h
  have h1 : l = l.take k ++ e :: l.drop (k + 1) := by
    rw [← he, List.getElem_cons_drop, List.take_append_drop]
  have h2 : liveE l = liveE (l.take k) ++ e :: liveE (l.drop (k + 1)) := by
    conv => lhs; rw [h1]
    unfold liveE
    rw [List.filter_append, List.filter_cons]
    simp [hg]
  rw [h2, List.getElem?_append_right (Nat.le_refl _)]
  simp

theorem sameS_at {H : AHeap} {x y : AV} {a b : List En} (hx : rowEns H x = some a) (hy : rowEns H y = some b) (hl : a.length ≤ 1000000000000) : sameS [x, y] H = some (.bool (decide (a = b)), H, []) := by
  simp [sameS, readS, hx, hy, hl]

theorem liveS_at {H : AHeap} {x : AV} {l : List En} (hx : rowEns H x = some l) (hl : l.length ≤ 1000000) : liveS [x] H = some (.sl H.length 0 (liveE l).length 3 false, H ++ [.cells true (ensA (liveE l))], []) := by
  simp [liveS, readNewS, hx, hl, shA, shB, shAs_ens]

theorem ens_cell {l : List En} {k : Nat} {e : En} (h : l[k]? = some e) (i : Nat) (hi : i < 3) : (ensA l)[k * 3 + i]? = (enA e)[i]? := by
  obtain ⟨hk, he⟩ := List.getElem?_eq_some_iff.1 h
  have h1 := ens_get l k hk
  rw [he] at h1
  rw [← h1, List.getElem?_take_of_lt hi, List.getElem?_drop]

set_option maxHeartbeats 8000000 in
theorem ewC (A : AHeap) (N : Nat) (hA : A.length = N) (hf : ∀ x ∈ A, ∃ o l, x = ABlk.cells o l ∧ belows N l = true) (own own2 : List En) (xw yw : List UInt8) (xn yn : Int) (xg yg : Bool)
    (hasc : asc own) (hl : own.length ≤ 50) (hl2 : own2.length ≤ 51) :
    Sim Try.prog none N (restC 10 (bodyOf Try.f6)) ([.top, .top, .top, .top, .top, .top, .bool false, .sl N 0 own.length 3 false, .ptr (N + 1) 0, .ptr (N + 2) 0, .sl (N + 3) 0 own2.length 3 false] ++ List.replicate 183 .top)
      (A ++ [.cells true (ensA own), .cells true [.str xw, .int .u32 xn, .bool xg], .cells true [.str yw, .int .u32 yn, .bool yg], .cells true (ensA own2)]) (Ends Try.prog Try.f6 N (.bool true) A) := by
  simp only [bodyOf, Try.f6, Option.getD_some, restC]
  have hal : ∀ L : AHeap, N ≤ (A ++ L).length := fun L => by rw [List.length_append]; omega
  obtain ⟨one, hone⟩ : ∃ l, withE own [(xw, xn, xg), (yw, yn, yg)] = l := ⟨_, rfl⟩
  obtain ⟨two, htwo⟩ : ∃ l, withE own [(yw, yn, yg), (xw, xn, xg)] = l := ⟨_, rfl⟩
  have hol : one.length ≤ 52 := by rw [← hone]; have := withE_length [(xw, xn, xg), (yw, yn, yg)] own; simp at this; omega
  have r0 : ∀ T : AHeap, rowEns (A ++ .cells true (ensA own) :: T) (.sl N 0 own.length 3 false) = some own := fun T => rowEns_tail hA 0 (o := true) (T := .cells true (ensA own) :: T) rfl
  have w1 : ∀ B1 B2 B3 : ABlk, withS [.sl N 0 own.length 3 false, .slice (N + 4) 0 2 3 true] (A ++ [.cells true (ensA own), B1, B2, B3, .cells true [.str xw, .int .u32 xn, .bool xg, .str yw, .int .u32 yn, .bool yg]]) =
      some (.sl (N + 5) 0 one.length 3 false, A ++ [.cells true (ensA own), B1, B2, B3, .cells true [.str xw, .int .u32 xn, .bool xg, .str yw, .int .u32 yn, .bool yg], .cells true (ensA one)], []) := fun B1 B2 B3 => by
    have h4 := rowEns_slice hA 4 (o := true) (T := [.cells true (ensA own), B1, B2, B3, .cells true [.str xw, .int .u32 xn, .bool xg, .str yw, .int .u32 yn, .bool yg]]) (es := [(xw, xn, xg), (yw, yn, yg)]) rfl
    have := withS_at (r0 _) h4 (by omega) (by simp) hasc
    rw [hone] at this
    simpa [hA] using this
  have w2 : ∀ B1 B2 B3 B4 B5 : ABlk, withS [.sl N 0 own.length 3 false, .slice (N + 6) 0 2 3 true] (A ++ [.cells true (ensA own), B1, B2, B3, B4, B5, .cells true [.str yw, .int .u32 yn, .bool yg, .str xw, .int .u32 xn, .bool xg]]) =
      some (.sl (N + 7) 0 two.length 3 false, A ++ [.cells true (ensA own), B1, B2, B3, B4, B5, .cells true [.str yw, .int .u32 yn, .bool yg, .str xw, .int .u32 xn, .bool xg], .cells true (ensA two)], []) := fun B1 B2 B3 B4 B5 => by
    have h4 := rowEns_slice hA 6 (o := true) (T := [.cells true (ensA own), B1, B2, B3, B4, B5, .cells true [.str yw, .int .u32 yn, .bool yg, .str xw, .int .u32 xn, .bool xg]]) (es := [(yw, yn, yg), (xw, xn, xg)]) rfl
    have := withS_at (r0 _) h4 (by omega) (by simp) hasc
    rw [htwo] at this
    simpa [hA] using this
  have hsc : ∀ k, A.all (belowB (N + k)) = true := fun k => by
    rw [List.all_eq_true]
    intro x hx
    obtain ⟨o, l, rfl, hl⟩ := hf x hx
    simpa [belowB] using belows_mono (by omega) l hl
  have f0 : ∀ n, free (.sl N 0 n 3 false) = false := fun _ => rfl
  have hne : (N + 1 != N) = true := by simp
  have hd5 : ∀ (B0 B1 B2 B3 B4 : ABlk) (T : AHeap), List.drop (N + 5) (A ++ B0 :: B1 :: B2 :: B3 :: B4 :: T) = T := fun _ _ _ _ _ _ => by rw [← hA, List.drop_append]; simp
  have hd7 : ∀ (B0 B1 B2 B3 B4 B5 B6 : ABlk) (T : AHeap), List.drop (N + 7) (A ++ B0 :: B1 :: B2 :: B3 :: B4 :: B5 :: B6 :: T) = T := fun _ _ _ _ _ _ _ _ => by rw [← hA, List.drop_append]; simp
  refine Sim.step hmix ewΓ_ok (n := 0) (by simp (decide := true) [ewΓ, hA, w1, w2, hsc, f0, hne, hd5, hd7]; exact ⟨drawOkG_splitU (by kernel_rfl) (by simp [apartF] <;> omega) (by simp <;> omega), rfl, rfl⟩) (hal _) ?_
  have hrN : ∀ (k : Nat) h, (List.range N ++ [N + k])[N]'h = N + k := fun k h => by rw [List.getElem_append_right (by simp)]; simp
  refine Sim.seq (Sim.mono (Q := fun e F' H' => e = .normal ∧ Weak N F' H' ([.top, .top, .top, .top, .top, .top, .top, .top, .top, .top, .sl N 0 own2.length 3 false] ++ List.replicate 183 .top) (A ++ [.cells true (ensA own2)])) ?_ ?_)
  · by_cases hxy : xw = yw
    · subst hxy
      obtain ⟨three, hthree⟩ : ∃ l, withE own [(xw, yn, yg)] = l := ⟨_, rfl⟩
      have h13 : one = three := by rw [← hone, ← hthree]; exact ins_twice hasc rfl
      have w3 : ∀ B1 B2 B3 B4 B5 B6 B7 : ABlk, withS [.sl N 0 own.length 3 false, .slice (N + 8) 0 1 3 true] (A ++ [.cells true (ensA own), B1, B2, B3, B4, B5, B6, B7, .cells true [.str xw, .int .u32 yn, .bool yg]]) =
          some (.sl (N + 9) 0 three.length 3 false, A ++ [.cells true (ensA own), B1, B2, B3, B4, B5, B6, B7, .cells true [.str xw, .int .u32 yn, .bool yg], .cells true (ensA three)], []) := fun B1 B2 B3 B4 B5 B6 B7 => by
        have h4 := rowEns_slice hA 8 (o := true) (T := [.cells true (ensA own), B1, B2, B3, B4, B5, B6, B7, .cells true [.str xw, .int .u32 yn, .bool yg]]) (es := [(xw, yn, yg)]) rfl
        have := withS_at (r0 _) h4 (by omega) (by simp) hasc
        rw [hthree] at this
        simpa [hA] using this
      have s3 : ∀ B0 B1 B2 B3 B4 B6 B7 B8 : ABlk, sameS [.sl (N + 5) 0 one.length 3 false, .sl (N + 9) 0 three.length 3 false] (A ++ [B0, B1, B2, B3, B4, .cells true (ensA one), B6, B7, B8, .cells true (ensA three)]) = some (.bool true, A ++ [B0, B1, B2, B3, B4, .cells true (ensA one), B6, B7, B8, .cells true (ensA three)], []) := fun B0 B1 B2 B3 B4 B6 B7 B8 => by
        rw [sameS_at (rowEns_tail hA 5 (o := true) rfl) (rowEns_tail hA 9 (o := true) rfl) (by omega), decide_eq_true h13]
      refine Sim.exec hmix ewΓ_ok (n := 0) (by simp (decide := true) [ewΓ, hA, w3, s3]; exact ⟨rfl, rfl, rfl⟩) (hal _) ?_
      exact ⟨rfl, Weak.tail hA hf [3] (by decide) (by simp [AWs, AW, hrN]) (by simp [AWg, AWb, hA])⟩
    · have hxb : (xw == yw) = false := by simpa using hxy
      have h12 : one = two := by rw [← hone, ← htwo]; exact ins_comm hasc hxy
      have s3 : ∀ B0 B1 B2 B3 B4 B6 : ABlk, sameS [.sl (N + 5) 0 one.length 3 false, .sl (N + 7) 0 two.length 3 false] (A ++ [B0, B1, B2, B3, B4, .cells true (ensA one), B6, .cells true (ensA two)]) = some (.bool true, A ++ [B0, B1, B2, B3, B4, .cells true (ensA one), B6, .cells true (ensA two)], []) := fun B0 B1 B2 B3 B4 B6 => by
        rw [sameS_at (rowEns_tail hA 5 (o := true) rfl) (rowEns_tail hA 7 (o := true) rfl) (by omega), decide_eq_true h12]
      refine Sim.exec hmix ewΓ_ok (n := 0) (by simp (decide := true) [ewΓ, hA, s3, hxb]; exact ⟨rfl, rfl, rfl⟩) (hal _) ?_
      exact ⟨rfl, Weak.tail hA hf [3] (by decide) (by simp [AWs, AW, hrN]) (by simp [AWg, AWb, hA])⟩
  rintro e F' H' hlen ⟨rfl, hwk⟩
  dsimp only
  refine Sim.weak hwk hlen ?_
  clear hwk hlen
  obtain ⟨live, hlive⟩ : ∃ l, liveE own2 = l := ⟨_, rfl⟩
  have hll : live.length ≤ 51 := by rw [← hlive]; have := liveE_length own2; omega
  have hlv : liveS [.sl N 0 own2.length 3 false] (A ++ [.cells true (ensA own2)]) = some (.sl (N + 1) 0 live.length 3 false, A ++ [.cells true (ensA own2), .cells true (ensA live)], []) := by
    have q0 : rowEns (A ++ [.cells true (ensA own2)]) (.sl N 0 own2.length 3 false) = some own2 := rowEns_tail hA 0 (o := true) rfl
    rw [liveS_at q0 (by omega), hlive]
    simp [hA]
  refine Sim.step hmix ewΓ_ok (n := 0) (by simp [ewΓ, hlv]; exact ⟨rfl, rfl⟩) (hal _) ?_
  refine Sim.seq (Sim.step hmix ewΓ_ok (n := 0) (by simp; exact ⟨rfl, rfl⟩) (hal _) ?_)
  refine Sim.block (Sim.loopW (fun k : Nat => k ≤ own2.length)
    (fun k => [.top, .top, .top, .top, .top, .top, .top, .top, .top, .top, .sl N 0 own2.length 3 false, .top, .top, .top, .top, .top, .top, .top, .top, .top, .top, .top, .sl (N + 1) 0 live.length 3 false, .int .i64 (liveE (own2.take k)).length, .int .i64 k] ++ List.replicate 169 .top)
    (fun _ => A ++ [.cells true (ensA own2), .cells true (ensA live)]) (fun k => own2.length - k) 0 (hal _) (by omega) (Weak.tail hA hf [0, 1] (by decide) (by simp [AWs, AW, liveE]) (by simp [AWg, AWb, hA])) fun k hk => ?_)
  by_cases hlt : k < own2.length
  · have hlti : (k : Int) < own2.length := by omega
    obtain ⟨e, he⟩ : ∃ e, own2[k] = e := ⟨_, rfl⟩
    have he' : own2[k]? = some e := by rw [List.getElem?_eq_getElem hlt, he]
    have hnext := liveE_snoc own2 k e he'
    have hla := fun h => live_at he' h
    obtain ⟨m, hm⟩ : ∃ m, (liveE (own2.take k)).length = m := ⟨_, rfl⟩
    have hnl := congrArg List.length hnext
    rw [List.length_append, hm] at hnl
    rw [hlive, hm] at hla
    rw [hm]
    have g1 := ens_get own2 k hlt
    rw [he] at g1
    have k1 : k * 3 + 3 ≤ own2.length * 3 := by omega
    have hw : IntKind.i64.wrap ((k : Int) + 1) = k + 1 := wr_i64 (by omega) (by omega)
    obtain ⟨wd, wt, gn⟩ := e
    have c2 := ens_cell he' 2 (by omega)
    simp only [enA, List.getElem?_cons_succ, List.getElem?_cons_zero] at c2
    refine Sim.step hmix ewΓ_ok (n := 0) (by simp [hlti]; exact ⟨rfl, rfl⟩) (hal _) ?_
    refine Sim.seq (Sim.block ?_)
    cases gn with
    | true =>
      simp only [if_true, List.append_nil] at hnext
      have hnm : (liveE (own2.take (k + 1))).length = m := by rw [hnext, hm]
      refine Sim.exec hmix ewΓ_ok (n := 0) (by simp (decide := true) [hA, hlt, c2]; exact ⟨rfl, rfl, rfl⟩) (hal _) ?_
      dsimp only
      rw [if_pos rfl]
      refine Sim.exec hmix ewΓ_ok (n := 0) (by simp [hw]; exact ⟨rfl, rfl, rfl⟩) (hal _) ?_
      dsimp only
      exact ⟨k + 1, by omega, Weak.tail hA hf [0, 1] (by decide) (by simp [AWs, AW, hnm]) (by simp [AWg, AWb, hA]), by omega⟩
    | false =>
      have hlm := hla rfl
      obtain ⟨hml, hme⟩ := List.getElem?_eq_some_iff.1 hlm
      have g2 := ens_get live m hml
      rw [hme] at g2
      have k2 : m * 3 + 3 ≤ live.length * 3 := by omega
      have hmi : (m : Int) < live.length := by omega
      have hml2 : ¬ live.length ≤ m := by omega
      have hnm : (liveE (own2.take (k + 1))).length = m + 1 := by rw [hnl]; rfl
      have hwm : IntKind.i64.wrap ((m : Int) + 1) = m + 1 := wr_i64 (by omega) (by omega)
      refine Sim.step hmix ewΓ_ok (n := 0) (by simp (decide := true) [hA, hlt, c2]; exact ⟨rfl, rfl⟩) (hal _) ?_
      refine Sim.seq (Sim.step hmix ewΓ_ok (n := 0) (by simp (decide := true) [hA, hlt, g1, k1, g2, k2, hml2, hmi, enA]; exact ⟨drawOkG_splitU (by kernel_rfl) (by simp) (by simp), rfl, rfl⟩) (hal _) ?_)
      refine Sim.exec hmix ewΓ_ok (n := 0) (by simp; exact ⟨rfl, rfl, rfl⟩) (hal _) ?_
      dsimp only
      refine Sim.exec hmix ewΓ_ok (n := 0) (by simp [hwm]; exact ⟨rfl, rfl, rfl⟩) (hal _) ?_
      dsimp only
      refine Sim.exec hmix ewΓ_ok (n := 0) (by simp [hw]; exact ⟨rfl, rfl, rfl⟩) (hal _) ?_
      dsimp only
      exact ⟨k + 1, by omega, Weak.tail hA hf [0, 1] (by decide) (by simp [AWs, AW, hnm]) (by simp [AWg, AWb, hA]), by omega⟩
  · have hlti : ¬ (k : Int) < own2.length := by omega
    have hkn : k = own2.length := by omega
    have hlk : (liveE (own2.take k)).length = live.length := by rw [hkn, List.take_length, hlive]
    refine Sim.exec hmix ewΓ_ok (n := 0) (by simp [hlti]; exact ⟨rfl, rfl, rfl⟩) (hal _) ?_
    dsimp only
    rw [if_pos rfl]
    refine Sim.exec hmix ewΓ_ok (n := 0) (by simp [hlk]; exact ⟨rfl, rfl, rfl⟩) (hal _) ?_
    have hwk := Weak.tail (T := [.cells true (ensA own2), .cells true (ensA live)]) (Tn := []) (F := [AV.bool true]) (Fn := [AV.bool true]) hA hf [] (by decide) (by simp) (by simp [AWg])
    rw [List.append_nil] at hwk
    exact ⟨.inr rfl, _, by simp, hwk⟩

end Go.Proofs.Ytndkhkponamplaa
