/- Parts of the proof of ReplayReads: lemmas, each with its own conditions. -/
import Derived.Test.YthafeihjlamhhaaGreatDoorY7
import Derived.Test.YthafeihjlamhhaaGreatDoorY10
import Derived.Test.YthafeihjlamhhaaGreatDoorY12
import Derived.Test.YthafeihjlamhhaaGreatDoorY13
import Derived.Test.YthafeihjlamhhaaGreatDoorY14
import Derived.Test.YthafeihjlamhhaaGreatDoorY17
namespace Go.Proofs.YthafeihjlamhhaaGreatDoor
open Go
def pairOkU (before : Bool) (si sk : List Nat) (di dk : Option Nat) (qi qk : QF) : Bool :=
  (match di with
   | some d => !sk.contains d || before
   | none => true) &&
  (match dk with
   | some d => (!si.contains d || before) && dk != di
   | none => true) &&
  (match qi.st with
   | some _ => !qk.call
   | none => true) &&
  (match qk.st with
   | some _ => !qi.call || before
   | none => true) &&
  (!qi.call || !qk.grows || before || qi.sc)
def drawOkU (ops : List Oper) (slots : List (List Nat)) (qs : List QF) (pr : List Nat) : Bool :=
  (List.range ops.length).all fun k =>
    ((ops.getD k default).after.toList.all fun e => !Region.binds .any e || e.on < k) &&
    (List.range k).all fun i =>
      pairOkU ((pr.getD k 0).testBit i) (slots.getD i []) (slots.getD k []) (ops.getD i default).dst (ops.getD k default).dst (qs.getD i ⟨none, none, false, false, false⟩) (qs.getD k ⟨none, none, false, false, false⟩)
def drawOkGU (ops : List Oper) (slots : List (List Nat)) (qs : List QF) : Bool := presGoF (drawOkU ops slots qs) ops []
theorem pairOkU_T {b : Bool} {si sk : List Nat} {di dk : Option Nat} {qi qk : QF} (h : pairOkU b si sk di dk qi qk = true) (h1 : ∀ s, qi.st = some s → (qk.rd != some s.1) = true) (h2 : ∀ s, qk.st = some s → (qi.rd != some s.1) = true) : pairOkT b si sk di dk qi qk = true := by
  unfold pairOkU at h
  unfold pairOkT
  simp only [Bool.and_eq_true] at h ⊢
  refine ⟨⟨⟨h.1.1.1, ?_⟩, ?_⟩, h.2⟩
  · have h3 := h.1.1.2
    cases hs : qi.st with
    | none => rfl
    | some s =>
      rw [hs] at h3
      simp only [Bool.and_eq_true]
      exact ⟨h1 s hs, h3⟩
  · have h3 := h.1.2
    cases hs : qk.st with
    | none => rfl
    | some s =>
      rw [hs] at h3
      simp only [Bool.and_eq_true, Bool.or_eq_true] at h3 ⊢
      exact ⟨.inl (h2 s hs), h3⟩
theorem drawOkG_splitU {ops : List Oper} {slots : List (List Nat)} {qs : List QF} (h : drawOkGU ops slots qs = true) (hp : (qs.filterMap (·.st)).Pairwise fun a b => apartF a b = true)
    (hr : ∀ r ∈ qs.filterMap (·.rd), ∀ s ∈ qs.filterMap (·.st), r ≠ s.1) : drawOkG ops slots qs = true := by
  refine drawOkG_split ?_ hp
  unfold drawOkGU at h
  unfold drawOkGT
  rw [presGoF_eq] at h ⊢
  unfold drawOkU at h
  unfold drawOkT
  rw [List.all_eq_true] at h ⊢
  intro k hk
  have := h k hk
  rw [Bool.and_eq_true] at this ⊢
  refine ⟨this.1, ?_⟩
  rw [List.all_eq_true]
  intro i hi
  have key : ∀ a b s, (qs.getD a ⟨none, none, false, false, false⟩).st = some s → ((qs.getD b ⟨none, none, false, false, false⟩).rd != some s.1) = true := by
    intro a b s hs
    have ha : s ∈ qs.filterMap (·.st) := by
      rcases Nat.lt_or_ge a qs.length with h3 | h3
      · rw [List.getD_eq_getElem?_getD, List.getElem?_eq_getElem h3] at hs
        exact List.mem_filterMap.2 ⟨_, List.getElem_mem h3, hs⟩
      · rw [List.getD_eq_getElem?_getD, List.getElem?_eq_none h3] at hs; cases hs
    rw [bne_iff_ne]
    intro hb
    have hb' : s.1 ∈ qs.filterMap (·.rd) := by
      rcases Nat.lt_or_ge b qs.length with h3 | h3
      · rw [List.getD_eq_getElem?_getD, List.getElem?_eq_getElem h3] at hb
        exact List.mem_filterMap.2 ⟨_, List.getElem_mem h3, hb⟩
      · rw [List.getD_eq_getElem?_getD, List.getElem?_eq_none h3] at hb; cases hb
    exact hr _ hb' _ ha rfl
  exact pairOkU_T (List.all_eq_true.1 this.2 i hi) (fun s hs => key i k s hs) (fun s hs => key k i s hs)
end Go.Proofs.YthafeihjlamhhaaGreatDoor
namespace Go.Proofs.YthafeihjlamhhaaGreatDoor
open Go Go.Lib
set_option maxRecDepth 100000
attribute [-simp] drawOk_eq adraw qrun acode aops
def okNs (l : List En) : Prop := ∀ x ∈ l, okN x.2.1 = true
open Classical in
noncomputable def rframesS : Summ := readS fun args H => match args with
  | [x] => match rowEns H x with
    | some l => if l.length ≤ 1000 ∧ okNs l then some (.str (Rp.bytes l)) else none
    | none => none
  | _ => none
theorem rframes_sound : Sound Tryz.prog 62 rframesS := by
  refine sound_read (enter_of Tryz.func62 rfl (by decide)) fun args H v h => ?_
  split at h <;> try cases h
  rename_i x
  split at h <;> try cases h
  rename_i l hx
  split at h <;> cases h
  rename_i hc
  obtain ⟨b1, o1, w1, g1⟩ := rowEns_win hx
  refine ct_win (rframes_ct l (by omega) hc.2) rfl [(b1, o1)] ?_ ?_
  · exact ⟨w1 0 _ rfl, trivial⟩
  · exact ⟨g1, frees_ens _, trivial⟩
theorem rframesS_at {H : AHeap} {x : AV} {l : List En} (hx : rowEns H x = some l) (hl : l.length ≤ 1000) (ho : okNs l) : rframesS [x] H = some (.str (Rp.bytes l), H, []) := by
  simp [rframesS, readS, hx, hl, ho]
theorem dEs_okN {ds : List Dr} (h : ∀ d ∈ ds, 0 ≤ d.2.1 ∧ d.2.1 < 4294967296) (m : Nat) : okNs (dEs (ds.take m)) := fun e he => by
  obtain ⟨d, hd, rfl⟩ := List.mem_map.1 he
  have := h d (List.mem_of_mem_take hd)
  exact (dE_ok d.1 d.2.1 d.2.2 (by simp [okN]; omega)).2.1
noncomputable def rdΓ : Gam := gams [(65, trueK_U1), (16, entriesS), (62, rframesS), (63, readsR), (64, readsR), (46, sameS_Ez)]
theorem rdΓ_ok : GOk Tryz.prog rdΓ := goks_cons rplWS0_sound (goks_cons entries_sound (goks_cons rframes_sound (goks_cons read_sound (goks_cons rread_sound (goks_cons same_sound_Ez goks_nil)))))
def five (a b c d e : List UInt8) (k : Nat) : List UInt8 := [a, b, c, d, e].getD k []
set_option maxHeartbeats 64000000 in
theorem rreads_ct (ds : List Dr) (hds : DrOk ds) (hdn : ∀ d ∈ ds, 0 ≤ d.2.1 ∧ d.2.1 < 4294967296) (hdl : ds.length ≤ 9223372036854775807) (raw : List UInt8) (p q by_ m : Int) (hp : 0 ≤ p ∧ p ≤ 65535) (hq : 0 ≤ q ∧ q ≤ 65535) :
    ∃ H', Ct Tryz.prog 12 [.str raw, .sl 0 0 ds.length 3 false, .agg [.int .u16 p, .int .u16 q, .int .u8 by_, .int .i64 m]] (drH ds) (.bool true) H' := by
  have hΓ := rdΓ_ok
  refine ⟨drH ds, ct_of_sim Tryz.func12 rfl ?_⟩
  have hXl := drH_length ds
  have hXf := drH_flat ds
  obtain ⟨all, hall⟩ : ∃ all, dEs (ds.take 30) = all := ⟨_, rfl⟩
  have hent : ∀ T, entriesS [.sl 0 0 ds.length 3 false, .int .i64 30] (drH ds ++ T) = some (.sl (drH ds ++ T).length 0 all.length 3 false, drH ds ++ T ++ [.cells true (ensA all)], []) := fun T => by
    have := entriesS_at (args := [.sl 0 0 ds.length 3 false, .int .i64 30]) (H := drH ds ++ T) (ds := ds) (m := 30) ⟨rfl, ⟨T, rfl⟩, by decide, hds, hdl⟩
    rw [hall] at this
    exact this
  have hokE : okNs all := by rw [← hall]; exact dEs_okN hdn 30
  have hL30 : all.length ≤ 30 := by rw [← hall]; simp [dEs]; omega
  obtain ⟨N, hN⟩ : ∃ N, ds.length + 1 = N := ⟨_, rfl⟩
  have hN0 : 0 < N := by omega
  rw [hN] at hXl hXf
  obtain ⟨X, hX⟩ : ∃ X, drH ds = X := ⟨_, rfl⟩
  rw [hX] at hXl hXf hent ⊢
  rw [hXl]
  have hXg : ∀ (T : AHeap) (j : Nat), (X ++ T)[N + j]? = T[j]? := fun T j => by rw [List.getElem?_append_right (by omega), hXl]; congr 1; omega
  have hXg0 : ∀ (T : AHeap), (X ++ T)[N]? = T[0]? := fun T => hXg T 0
  have hXs : ∀ (T : AHeap) (j : Nat) v, (X ++ T).set (N + j) v = X ++ T.set j v := fun T j v => by rw [List.set_append_right _ _ (by omega), hXl]; congr 2; omega
  have hXs0 : ∀ (T : AHeap) v, (X ++ T).set N v = X ++ T.set 0 v := fun T v => hXs T 0 v
  have hsb := Rp.bytes_le all
  obtain ⟨s, hs⟩ : ∃ s, Rp.bytes all = s := ⟨_, rfl⟩
  rw [hs] at hsb
  have hs6 : s.length ≤ 100000 := by omega
  have hfr : ∀ T B, rframesS [.sl (N + 1) 0 all.length 3 false] (X ++ B :: .cells true (ensA all) :: T) = some (.str s, X ++ B :: .cells true (ensA all) :: T, []) := fun T B => by
    rw [rframesS_at (rowEns_tail hXl 1 (o := true) rfl) (by omega) hokE, hs]
  obtain ⟨m1, e1, l1, k1, _⟩ := cut_len_Kn raw 300 300 rfl
  obtain ⟨A, hA⟩ : ∃ x, raw.take m1 = x := ⟨_, rfl⟩
  have lA : A.length ≤ 300 := by rw [← hA]; simp; omega
  simp only [Tryz.ntmps12, List.length_cons, List.length_nil, Nat.reduceAdd, Nat.reduceSub, List.replicate, List.cons_append, List.nil_append]
  refine Sim.step hmix hΓ (n := 0) (by simp [hXl]; exact ⟨rfl, rfl⟩) (by simp [hXl]) ?_
  refine Sim.step hmix hΓ (n := 0) (by simp [e1, k1, hA]; exact ⟨rfl, rfl⟩) (by simp [hXl]) ?_
  refine Sim.step hmix hΓ (n := 0) (by simp [rdΓ, hent, hXl, hfr]; exact ⟨rfl, rfl⟩) (by simp [hXl]) ?_
  have p2 : s.length ≤ 9223372036854775807 := by omega
  refine Sim.step hmix hΓ (n := 0) (by simp [p2, hXl]; exact ⟨rfl, rfl⟩) (by simp [hXl]) ?_
  have w0 : IntKind.i64.wrap p = p := wr_i64 (by omega) (by omega)
  have w0c : IntKind.i64.wrap q = q := wr_i64 (by omega) (by omega)
  obtain ⟨c, hc, lc⟩ := rem_nat_Ko q (s.length + 1) hq.1 (by omega) ((s.length : Int) + 1) (by omega)
  have w2 : IntKind.i64.wrap ((s.length : Int) + 1) = (s.length : Int) + 1 := wr_i64 (by omega) (by omega)
  have w5 : IntKind.i64.wrap (c : Int) = c := wr_i64 (by omega) (by omega)
  have z2 : ¬ ((s.length : Int) + 1 = 0) := by omega
  have c2 : c ≤ s.length := by omega
  have c3 : (c : Int) ≤ (s.length : Int) := by omega
  have p5 : s.length + A.length ≤ 9223372036854775807 := by omega
  have hXid : ∀ rn : List Nat, (∀ i, i < N → rn[i]? = some i) → ∀ B ∈ X, AWb rn B B := fun rn hr B hB => by
    obtain ⟨o, l, rfl, hl⟩ := hXf B hB
    exact ⟨id, AWs.pre hr _ hl⟩
  have rb : ∀ (ts : List Nat) (i : Nat), (List.range N ++ ts)[N + i]? = ts[i]? := fun ts i => by rw [List.getElem?_append_right (by simp)]; congr 1; simp
  have rb0 : ∀ ts : List Nat, (List.range N ++ ts)[N]? = ts[0]? := fun ts => rb ts 0
  have hfe : frees (ensA all) = true := frees_ens all
  have hA1 : ∀ rn : List Nat, AWs rn (ensA all) (ensA all) := fun rn => AWs.refl _ _ hfe
  have hwk : ∀ (BS : List AV) (F Fn : List AV), frees BS = true → (∀ rn : List Nat, (∀ i, i < N → rn[i]? = some i) → rn[N]? = some N → rn[N + 1]? = some (N + 1) → rn[N + 2]? = some (N + 2) → AWs rn Fn F) →
      Weak N F (X ++ [.cells true [.int .u16 p, .int .u16 q, .int .u8 by_, .int .i64 m], .cells true (ensA all), .cells true BS]) Fn (X ++ [.cells true [.int .u16 p, .int .u16 q, .int .u8 by_, .int .i64 m], .cells true (ensA all), .cells true BS]) := fun BS F Fn hfb hF => by
    have hB1 : ∀ rn : List Nat, AWs rn BS BS := fun rn => AWs.refl _ _ hfb
    refine Weak.tail hXl hXf [0, 1, 2] (by decide) (hF _ (fun i hi => ?_) (by first | (simp; done) | simpa using rb0 _) (by first | (simp; done) | simpa using rb _ 1) (by first | (simp; done) | simpa using rb _ 2)) ?_
    · rw [List.getElem?_append_left (by simpa using hi), List.getElem?_range hi]
    · simp [AWg, AWb, AWs, AW, hXl, hB1]
  refine Sim.seq (Sim.mono (Q := fun e' F' H' => ∃ BS U, BS.length = s.length ∧ bytesOf BS = some U ∧ U.length ≤ 100000 ∧ frees BS = true ∧ e' = .normal ∧ Weak N F' H' ([.str A, .top, .top, .top, .top, .ptr N 0, .top, .str s, .slice (N + 2) 0 s.length 1 false] ++ List.replicate 73 .top) (X ++ [.cells true [.int .u16 p, .int .u16 q, .int .u8 by_, .int .i64 m], .cells true (ensA all), .cells true BS])) ?_ ?_)
  · by_cases hz : s.length = 0
    · have hz2 : ¬ 0 < s.length := by omega
      refine Sim.step hmix hΓ (n := 0) (by simp [hz2]; exact ⟨rfl, rfl⟩) (by simp [hXl]) ?_
      refine Sim.exec hmix hΓ (n := 0) (by simp (decide := true); exact ⟨rfl, rfl, rfl⟩) (by simp [hXl]) ?_
      refine ⟨bytesA s, s, by simp, by simp, by omega, by simp, rfl, hwk _ _ _ (by simp) fun rn h0 h1 h2 h3 => ?_⟩
      simp [AWs, AW, h1, h3]
    · have hz2 : 0 < s.length := by omega
      obtain ⟨i, hi, li⟩ := rem_nat_Ko p s.length hp.1 hz2 (s.length : Int) rfl
      have w7 : IntKind.i64.wrap (i : Int) = i := wr_i64 (by omega) (by omega)
      have z3 : ¬ ((s.length : Int) = 0) := by omega
      have z4 : ¬ s = [] := fun h => by rw [h] at hz; exact hz rfl
      have g1 := get_bytesA s i li
      have li2 : i + 1 ≤ s.length := by omega
      refine Sim.step hmix hΓ (n := 0) (by simp [hz2]; exact ⟨rfl, rfl⟩) (by simp [hXl]) ?_
      refine Sim.cond (t := true) (by simp) ?_
      rw [if_pos rfl]
      refine Sim.draw hmix (by simp [hXl]) ?_
      refine SimR.many hΓ 13 (by simp [stageOps]; rfl) (by omega) (by kernel_rfl) (by simp (decide := true) [hXl, w0, hi, z4, li]; first | exact ⟨rfl, rfl⟩ | exact ⟨by kernel_rfl, rfl, rfl⟩) ?_
      refine SimR.one hΓ _ rfl (by kernel_rfl) (by simp (decide := true) [hXl, hXs, li2]; exact ⟨rfl, rfl⟩) ?_
      refine SimR.done rfl ?_
      obtain ⟨v, hv⟩ : ∃ v, bitsA BinOp.xor IntKind.u8 (s[i].toNat : Int) by_ = v := ⟨_, rfl⟩
      rw [hv]
      refine ⟨bytesA (s.take i) ++ AV.int .u8 v :: bytesA (s.drop (i + 1)), s.take i ++ UInt8.ofNat v.toNat :: s.drop (i + 1), by simp; omega, by simp, by simp; omega, by simp, rfl, ?_⟩
      refine hwk _ _ _ (by simp) fun rn h0 h1 h2 h3 => ?_
      simp [AWs, AW, h1, h3]
  · rintro e' F' H' hl ⟨BS, U, hb1, hb2, hUl, hbf, rfl, hw⟩
    dsimp only
    refine Sim.weak hw hl ?_
    clear hw hl F' H'
    have hb3 : BS.take s.length = BS := by rw [← hb1, List.take_length]
    have hUl2 : U.length ≤ 9223372036854775807 := by omega
    refine Sim.seq (Sim.step hmix hΓ (n := 0) (by simp (decide := true) [hXl, p5, w0c, w2, hc, z2, c3, hb1, hb2, hb3]; exact ⟨drawOkG_splitU (by kernel_rfl) (by simp [apartF] <;> omega) (by simp <;> omega), rfl, rfl⟩) (by simp [hXl]) ?_)
    have hlen5 : ∀ k, k < 5 → (five A (s ++ A) U (s.take c) s k).length ≤ 1000000 := fun k hk => by
      rcases (by omega : k = 0 ∨ k = 1 ∨ k = 2 ∨ k = 3 ∨ k = 4) with rfl | rfl | rfl | rfl | rfl <;> simp [five] <;> omega
    refine Sim.block (Sim.loopW (fun k : Nat => k ≤ 5)
      (fun k => List.replicate 57 .top ++ [.agg [.str A, .str (s ++ A), .str U, .str (s.take c), .str s], .int .i64 k] ++ List.replicate 23 .top)
      (fun _ => X ++ [.cells true (ensA all)]) (fun k => 5 - k) 0 (by simp [hXl]) (by omega) ?_ fun k hk => ?_)
    · exact Weak.tail hXl hXf [1] (by decide) (by simp [AWs, AW]) (by simp [AWg, AWb, hXl])
    · by_cases hlt : k < 5
      · have hlti : (k : Int) < 5 := by omega
        have hk1 : ((k : Int) + 1) = ((k + 1 : Nat) : Int) := by omega
        have hw : IntKind.i64.wrap ((k : Int) + 1) = ((k + 1 : Nat) : Int) := by rw [wr_i64 (by omega) (by omega)]; omega
        obtain ⟨V, hV⟩ : ∃ V, five A (s ++ A) U (s.take c) s k = V := ⟨_, rfl⟩
        have hVl := hlen5 k hlt
        rw [hV] at hVl
        have hV6 : V.length ≤ 1000000000 := by omega
        have hix : ([AV.str A, .str (s ++ A), .str U, .str (s.take c), .str s])[k]? = some (.str V) := by
          rw [← hV]
          rcases (by omega : k = 0 ∨ k = 1 ∨ k = 2 ∨ k = 3 ∨ k = 4) with rfl | rfl | rfl | rfl | rfl <;> rfl
        have hix' : ∀ h, ([AV.str A, .str (s ++ A), .str U, .str (s.take c), .str s])[k]'h = .str V := fun h => by
          rw [List.getElem?_eq_getElem h] at hix
          exact Option.some.inj hix
        have hRl := Rp.len_le V
        obtain ⟨⟨R, g⟩, hR⟩ : ∃ r, Rp.rd V 0 = r := ⟨_, rfl⟩
        rw [hR] at hRl
        dsimp only at hRl
        have hsame : sameS_Ez [.sl (N + 1) 0 R.length 3 false, .sl (N + 2) 0 R.length 3 false] (X ++ [.cells true (ensA all), .cells true (ensA R), .cells true (ensA R)]) = some (.bool true, X ++ [.cells true (ensA all), .cells true (ensA R), .cells true (ensA R)], []) := by
          rw [sameS_at (rowEns_tail hXl 1 (o := true) rfl) (rowEns_tail hXl 2 (o := true) rfl) (by omega), decide_eq_true rfl]
        have hsx : ∀ j l, shAs j (ensA l) = ensA l := fun j l => shAs_ens j l
        refine Sim.step hmix hΓ (n := 0) (by simp [hlti]; exact ⟨rfl, rfl⟩) (by simp [hXl]) ?_
        refine Sim.exec hmix hΓ (n := 0) (by simp (decide := true) [rdΓ, readsR, newS, shA, shB, hsx, hlt, hlti, hix', hV6, hR, hXl, hsame, hw]; exact ⟨rfl, rfl, rfl⟩) (by simp [hXl]) ?_
        dsimp only
        exact ⟨k + 1, by omega, Weak.tail hXl hXf [0] (by decide) (by simp [AWs, AW]) (by simp [AWg, AWb, hXl]), by omega⟩
      · have hke : k = 5 := by omega
        subst hke
        refine Sim.exec hmix hΓ (n := 0) (by simp (decide := true); exact ⟨rfl, rfl, rfl⟩) (by simp [hXl]) ?_
        dsimp only
        rw [if_pos rfl]
        refine Sim.exec hmix hΓ (n := 0) (by simp (decide := true) [rdΓ, trueK_U1, pureS]; exact ⟨rfl, rfl, rfl⟩) (by simp [hXl]) ?_
        exact ⟨.inr rfl, _, by simp [Tryz.f12] <;> rfl, by
          have := Weak.tail (T := [.cells true (ensA all)]) (Tn := []) (F := [AV.bool true]) (Fn := [AV.bool true]) hXl hXf [] (by decide) (by simp [AWs, AW]) (by simp [AWg])
          simpa using this⟩
abbrev rdr_ct : List CT := [.row [.int .u8], .one (.int .u32), .one .bool]
def replayReads_shape : List AS := [.flat false [.one .str], .rows rdr_ct, .flat true [.one (.int .u16), .one (.int .u16), .one (.int .u8), .one (.int .i64)]]
theorem replayReads_law : ∀ xs H, AbsArgs2 replayReads_shape 0 xs H → ∃ H', Ct Tryz.prog 12 xs H (.bool true) H' := by
  intro xs H h0
  obtain ⟨x, ys0, rfl, ⟨raw, rfl, _⟩, h1⟩ := absArgs2_one h0
  obtain ⟨x0, y0, n0, ys, H1, H2, rfl, hx0, hm0, hd0, rfl, h2⟩ := absArgs2_rows h1
  obtain ⟨ds, rfl, e2, e3, rfl, e5⟩ := row_drafts _ _ _ _ hd0
  obtain ⟨z1, y1, H1, H2, rfl, k0, rfl, h3⟩ := absArgs2_agg h2
  obtain ⟨x1, w1, rfl, ⟨p, rfl, hp⟩, k1⟩ := absOk_one k0
  obtain ⟨x2, w2, rfl, ⟨q, rfl, hq⟩, k2⟩ := absOk_one k1
  obtain ⟨x3, w3, rfl, ⟨b, rfl, hb⟩, k3⟩ := absOk_one k2
  obtain ⟨x4, w4, rfl, ⟨m, rfl, hm⟩, k4⟩ := absOk_one k3
  obtain ⟨rfl, rfl⟩ := absOk_nil k4
  obtain ⟨rfl, rfl⟩ := absArgs2_nil h3
  have bp := bounds_u16 hp
  have bq := bounds_u16 hq
  unfold maxLen at hm0
  obtain ⟨H', h⟩ := rreads_ct ds e2 e3 (by omega) raw p q b m (by omega) (by omega)
  refine ⟨H', ct_weak ?_ h⟩
  have := drafts_weakG (ds := ds) (T := []) (F := [.str raw, x0, .agg [.int .u16 p, .int .u16 q, .int .u8 b, .int .i64 m]]) (Fn := [.str raw, .sl 0 0 ds.length 3 false, .agg [.int .u16 p, .int .u16 q, .int .u8 b, .int .i64 m]]) e5 (by simp) fun rn hr => ⟨rfl, drafts_arg hx0 (hr 0 (by omega)), by simp [AW, AWs], trivial⟩
  simpa using this
end Go.Proofs.YthafeihjlamhhaaGreatDoor
