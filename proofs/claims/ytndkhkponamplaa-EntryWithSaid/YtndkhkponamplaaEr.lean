/- The law cedillalaw05.EntryWith: the walk. -/
import Derived.Test.YtndkhkponamplaaEv
namespace Go.Proofs.Ytndkhkponamplaa
open Go
set_option maxRecDepth 100000
attribute [-simp] drawOk_eq adraw qrun acode aops

theorem dE_bare (ls : List Nat) (n : Int) (g : Bool) : bareE (dE ls n g) = dE ls n g := bare_bare _
theorem dE_word (ls : List Nat) (n : Int) (g : Bool) : okW (dE ls n g).1 = true := (dE_ok ls 0 g rfl).1

set_option maxHeartbeats 8000000 in
theorem ewith_ct (ds : List Dr) (la lb : List Nat) (na nb : Int) (ga gb : Bool) (hd : DrOk ds) (hl : ds.length ≤ 9223372036854775807) (_hda : ∀ d ∈ ds, 0 ≤ d.2.1 ∧ d.2.1 < 4294967296)
    (ha : ∀ c ∈ la, c < 256) (hb : ∀ c ∈ lb, c < 256) (hla : la.length ≤ 9223372036854775807) (hlb : lb.length ≤ 9223372036854775807) (_ba : 0 ≤ na ∧ na < 4294967296) (_bb : 0 ≤ nb ∧ nb < 4294967296) :
    ∃ H', Ct Try.prog 6 [.sl 0 0 ds.length 3 false, .agg [.sl (ds.length + 1) 0 la.length 1 false, .int .u32 na, .bool ga], .agg [.sl (ds.length + 2) 0 lb.length 1 false, .int .u32 nb, .bool gb]] (drH ds ++ [.cells false (la.map aB), .cells false (lb.map aB)]) (.bool true) H' := by
  obtain ⟨N, hN⟩ : ∃ N, ds.length + 1 = N := ⟨_, rfl⟩
  have hXl := drH_length ds
  have hXf := drH_flat ds
  rw [hN] at hXl hXf
  refine ⟨drH ds ++ [.cells false (la.map aB), .cells false (lb.map aB)], ?_⟩
  refine ct_of_sim Try.func6 rfl ?_
  simp only [Try.ntmps6, List.length_cons, List.length_nil, Nat.reduceAdd, Nat.reduceSub, List.replicate, List.cons_append, List.nil_append]
  rw [show ds.length + 2 = N + 1 by omega, hN]
  have hent := fun T => entriesS_at (args := [.sl 0 0 ds.length 3 false, .int .i64 (50 : Nat)]) (H := drH ds ++ T) (ds := ds) (m := 50) ⟨rfl, ⟨T, rfl⟩, by omega, hd, hl⟩
  obtain ⟨X, hX⟩ : ∃ X, drH ds = X := ⟨_, rfl⟩
  obtain ⟨es, hes⟩ : ∃ es, dEs (ds.take 50) = es := ⟨_, rfl⟩
  have hel : es.length ≤ 50 := by rw [← hes]; simp [dEs]; omega
  rw [hX] at hXl hXf ⊢
  simp only [hX, hes] at hent
  have hent' : ∀ T, entriesS [.sl 0 0 ds.length 3 false, .int .i64 50] (X ++ T) = some (.sl (X ++ T).length 0 es.length 3 false, X ++ T ++ [.cells true (ensA es)], []) := fun T => by simpa using hent T
  refine Sim.step hmix ewΓ_ok (n := 0) (by simp; exact ⟨rfl, rfl⟩) (by simp) ?_
  refine Sim.seq (Sim.step hmix ewΓ_ok (n := 0) (by simp [ewΓ, trueK]; exact ⟨rfl, rfl⟩) (by simp) ?_)
  refine Sim.exec hmix ewΓ_ok (n := 0) (by simp; exact ⟨rfl, rfl, rfl⟩) (by simp) ?_
  dsimp only
  have hre : ∀ (T1 T2 : AHeap) (k : Nat), T1.length = k → rowEns (X ++ (T1 ++ .cells true (ensA es) :: T2)) (.sl (N + k) 0 es.length 3 false) = some es := fun T1 T2 k hk => rowEns_at (o := true) (by
    rw [← hXl, at_tail, ← hk]; simp)
  have hwith : ∀ (T : AHeap) (k : Nat), T.length = k → withS [.nils, .sl (N + k) 0 es.length 3 false] (X ++ (T ++ [.cells true (ensA es)])) = some (.sl (N + k + 1) 0 (withE [] es).length 3 false, X ++ (T ++ [.cells true (ensA es), .cells true (ensA (withE [] es))]), []) := fun T k hk => by
    have := hre T [] k hk
    have he1 : es.length ≤ 100000 := by omega
    simp [withS, readNewS, rowEns, ascB, shA, shB, hXl, hk, he1, shAs_ens]
    omega
  obtain ⟨own, hown⟩ : ∃ own, withE [] es = own := ⟨_, rfl⟩
  have hasc : asc own := by rw [← hown]; exact withE_asc es List.Pairwise.nil
  have howl : own.length ≤ 50 := by rw [← hown]; have := withE_length es []; simp at this; omega
  have hw := hwith [.cells false (la.map aB), .cells false (lb.map aB), .cells true [.sl N 0 la.length 1 false, .int .u32 na, .bool ga], .cells true [.sl (N + 1) 0 lb.length 1 false, .int .u32 nb, .bool gb]] 4 rfl
  simp only [List.cons_append, List.nil_append, hown] at hw
  rw [show N + 4 + 1 = N + 5 from rfl] at hw
  refine Sim.step hmix ewΓ_ok (n := 0) (by simp [ewΓ, hent', hXl, hw]; exact ⟨rfl, rfl⟩) (by simp) ?_
  obtain ⟨xw, xn, xg, hxe⟩ : ∃ xw xn xg, dE la na ga = (xw, xn, xg) := ⟨_, _, _, rfl⟩
  obtain ⟨yw, yn, yg, hye⟩ : ∃ yw yn yg, dE lb nb gb = (yw, yn, yg) := ⟨_, _, _, rfl⟩
  have d1 : ∀ T : AHeap, draftS [.agg [.sl N 0 la.length 1 false, .int .u32 na, .bool ga]] (X ++ .cells false (la.map aB) :: T) = some (.agg [.str xw, .int .u32 xn, .bool xg], X ++ .cells false (la.map aB) :: T, []) := fun T => by
    rw [draftOf_at _ N la na ga false (by have := at_tail X (.cells false (la.map aB) :: T) 0; rw [hXl] at this; simpa using this) ha hla, hxe]; rfl
  have d2 : ∀ (B : ABlk) (T : AHeap), draftS [.agg [.sl (N + 1) 0 lb.length 1 false, .int .u32 nb, .bool gb]] (X ++ B :: .cells false (lb.map aB) :: T) = some (.agg [.str yw, .int .u32 yn, .bool yg], X ++ B :: .cells false (lb.map aB) :: T, []) := fun B T => by
    rw [draftOf_at _ (N + 1) lb nb gb false (by have := at_tail X (B :: .cells false (lb.map aB) :: T) 1; rw [hXl] at this; simpa using this) hb hlb, hye]; rfl
  have f0 : free (.sl N 0 la.length 1 false) = false := rfl
  have f1 : free (.sl (N + 1) 0 lb.length 1 false) = false := rfl
  have hsc : X.all (belowB (N + 6)) = true := by
    rw [List.all_eq_true]
    intro x hx
    obtain ⟨o, l, rfl, hl⟩ := hXf x hx
    simpa [belowB] using belows_mono (by omega) l hl
  have hdr : ∀ L : AHeap, L.length ≤ 6 → (X ++ L).drop (N + 6) = [] := fun L h => List.drop_eq_nil_of_le (by rw [List.length_append]; omega)
  refine Sim.step hmix ewΓ_ok (n := 0) (by simp (decide := true) [ewΓ, hXl, d1, d2, f0, f1, hsc, hdr]; exact ⟨drawOkG_splitU (by kernel_rfl) (by simp [apartF] <;> omega) (by simp <;> omega), rfl, rfl⟩) (by simp) ?_
  have rown : ∀ (B0 B1 B2 B3 B4 : ABlk) (T : AHeap), rowEns (X ++ B0 :: B1 :: B2 :: B3 :: B4 :: .cells true (ensA own) :: T) (.sl (N + 5) 0 own.length 3 false) = some own := fun B0 B1 B2 B3 B4 T => rowEns_at (o := true) (by
    have := at_tail X (B0 :: B1 :: B2 :: B3 :: B4 :: .cells true (ensA own) :: T) 5
    rw [hXl] at this
    simpa using this)
  obtain ⟨own2, hown2⟩ : ∃ l, withE own [(xw, xn, xg)] = l := ⟨_, rfl⟩
  have hasc2 : asc own2 := by rw [← hown2]; exact withE_asc _ hasc
  have howl2 : own2.length ≤ 51 := by rw [← hown2]; have := withE_length [(xw, xn, xg)] own; simp at this; omega
  have hw2 : ∀ B0 B1 B2 B3 B4 B6 B7 : ABlk, withS [.sl (N + 5) 0 own.length 3 false, .slice (N + 8) 0 1 3 true] (X ++ [B0, B1, B2, B3, B4, .cells true (ensA own), B6, B7, .cells true [.str xw, .int .u32 xn, .bool xg]]) =
      some (.sl (N + 9) 0 own2.length 3 false, X ++ [B0, B1, B2, B3, B4, .cells true (ensA own), B6, B7, .cells true [.str xw, .int .u32 xn, .bool xg], .cells true (ensA own2)], []) := fun B0 B1 B2 B3 B4 B6 B7 => by
    have h8 : (X ++ [B0, B1, B2, B3, B4, .cells true (ensA own), B6, B7, .cells true [.str xw, .int .u32 xn, .bool xg]])[N + 8]? = some (.cells true [.str xw, .int .u32 xn, .bool xg]) := by
      rw [← hXl, at_tail]; rfl
    have hy : rowEns (X ++ [B0, B1, B2, B3, B4, .cells true (ensA own), B6, B7, .cells true [.str xw, .int .u32 xn, .bool xg]]) (.slice (N + 8) 0 1 3 true) = some [(xw, xn, xg)] := by
      simp [rowEns, h8, ensOf]
    have := withS_at (rown B0 B1 B2 B3 B4 [B6, B7, .cells true [.str xw, .int .u32 xn, .bool xg]]) hy (by omega) (by simp) hasc
    rw [hown2] at this
    simpa [hXl] using this
  refine Sim.step hmix ewΓ_ok (n := 0) (by simp [ewΓ, hXl, hw2]; exact ⟨rfl, rfl⟩) (by simp) ?_
  have hbx : bareE (xw, xn, xg) = (xw, xn, xg) := by rw [← hxe]; exact dE_bare ..
  have hck : chkE own2 = (-1, 0) := by
    refine chk_asc hasc2 fun e he => ?_
    rw [← hown2] at he
    rcases mem_with e _ hasc he with h1 | ⟨d, h1, rfl⟩
    · rw [← hown] at h1
      rcases mem_with e _ List.Pairwise.nil h1 with h2 | ⟨d, h2, rfl⟩
      · cases h2
      · rw [← hes] at h2
        obtain ⟨q, _, rfl⟩ := List.mem_map.1 h2
        rw [dE_bare]
        exact dE_word ..
    · rcases List.mem_singleton.1 h1 with rfl
      rw [hbx, ← hxe]
      exact dE_word ..
  have rown2 : ∀ (B0 B1 B2 B3 B4 B5 B6 B7 B8 : ABlk) (T : AHeap), rowEns (X ++ B0 :: B1 :: B2 :: B3 :: B4 :: B5 :: B6 :: B7 :: B8 :: .cells true (ensA own2) :: T) (.sl (N + 9) 0 own2.length 3 false) = some own2 := fun B0 B1 B2 B3 B4 B5 B6 B7 B8 T => rowEns_at (o := true) (by
    have := at_tail X (B0 :: B1 :: B2 :: B3 :: B4 :: B5 :: B6 :: B7 :: B8 :: .cells true (ensA own2) :: T) 9
    rw [hXl] at this
    simpa using this)
  have hl2 : own2.length ≤ 1000000 := by omega
  refine Sim.step hmix ewΓ_ok (n := 0) (by simp [ewΓ, chkS, readS, rown2, hl2, hck]; exact ⟨rfl, rfl⟩) (by simp) ?_
  have hB := ewB (X ++ [.cells false (la.map aB), .cells false (lb.map aB)]) (N + 2) (by simp [hXl]) (by
    intro z hz
    rcases List.mem_append.1 hz with h | h
    · obtain ⟨o, l, rfl, hl⟩ := hXf z h
      exact ⟨o, l, rfl, belows_mono (by omega) l hl⟩
    · simp only [List.mem_cons, List.not_mem_nil, or_false] at h
      rcases h with rfl | rfl
      · exact ⟨_, _, rfl, belows_free _ _ (frees_aB _)⟩
      · exact ⟨_, _, rfl, belows_free _ _ (frees_aB _)⟩) own own2 xw yw xn yn xg yg hasc howl hbx hown2
  simp only [bodyOf, Try.f6, Option.getD_some, restC] at hB
  have hN2 : List.length (X ++ [ABlk.cells false (la.map aB), .cells false (lb.map aB)]) = N + 2 := by simp [hXl]
  rw [hN2]
  refine Sim.weak ?_ ?_ hB
  · have hsp : ∀ T : AHeap, X ++ ABlk.cells false (la.map aB) :: .cells false (lb.map aB) :: T = (X ++ [.cells false (la.map aB), .cells false (lb.map aB)]) ++ T := fun T => by simp
    rw [hsp [_, _, _, _, _, _, _, _]]
    refine Weak.tail hN2 ?_ [3, 4, 5, 7] (by decide) (by simp [AWs, AW]) (by simp [AWg, AWb, hXl, Nat.add_assoc])
    intro z hz
    rcases List.mem_append.1 hz with h | h
    · obtain ⟨o, l, rfl, hl⟩ := hXf z h
      exact ⟨o, l, rfl, belows_mono (by omega) l hl⟩
    · simp only [List.mem_cons, List.not_mem_nil, or_false] at h
      rcases h with rfl | rfl
      · exact ⟨_, _, rfl, belows_free _ _ (frees_aB _)⟩
      · exact ⟨_, _, rfl, belows_free _ _ (frees_aB _)⟩
  · simp [hXl]


theorem entryWith_law : ∀ xs H, AbsArgs2 entryWith_shape 0 xs H → ∃ H', Ct Try.prog 6 xs H (.bool true) H' :=
  entryWith_open fun ds la lb na nb ga gb h1 h2 h3 h4 h5 h6 h7 h8 h9 => ewith_ct ds la lb na nb ga gb h1 h2 h3 h4 h5 h6 h7 h8 h9

end Go.Proofs.Ytndkhkponamplaa
