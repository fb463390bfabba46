/- The law cedillalaw08.DiskArmed: the walk. -/
import Derived.Test.YtjolihoakdifoaaJx
import Derived.Test.YtjolihoakdifoaaJw
import Derived.Test.YtjolihoakdifoaaSp
namespace Go.Proofs.Ytjolihoakdifoaa
open Go Go.Lib
set_option maxRecDepth 100000
attribute [-simp] drawOk_eq adraw qrun acode aops

/-- Behind a row of acts, things are forgotten and renamed. -/
theorem das_tail (l : List DA) {T Tn : AHeap} {F Fn : List AV} (ts : List Nat) (hts : ts.Nodup)
    (hF : AWs (List.range (l.length + 1) ++ ts.map (l.length + 1 + ·)) Fn F) (hlen : Tn.length = ts.length)
    (hT : ∀ (i t : Nat) x y, ts[i]? = some t → Tn[i]? = some x → T[t]? = some y → AWb (List.range (l.length + 1) ++ ts.map (l.length + 1 + ·)) x y) : Weak (l.length + 1) F (dasH l ++ T) Fn (dasH l ++ Tn) := by
  have hN := dasH_length l
  refine Weak.tailG hN (fun rn hr => dasH_id l rn hr) ts hts hF (AWg.of _ _ (by simp [hlen]) fun i x b hx hb hlt => ?_)
  rw [List.getElem?_map] at hb
  obtain ⟨t, ht, rfl⟩ := Option.map_eq_some_iff.1 hb
  rw [List.length_append, hN] at hlt
  have htl : t < T.length := by omega
  rw [List.getD_eq_getElem?_getD, List.getElem?_append_right (by omega), hN, Nat.add_sub_cancel_left, List.getElem?_eq_getElem htl]
  exact hT i t x _ ht hx (List.getElem?_eq_getElem htl)
theorem rk0 (n : Nat) (ts : List Nat) : (List.range (n + 1) ++ ts)[0]? = some 0 := range_at _ _ (by omega)
theorem rk1 (n : Nat) (ts : List Nat) : (List.range (n + 1) ++ ts)[n + 1]? = ts[0]? := range_beh0 _ _
theorem rk2 (n : Nat) (ts : List Nat) : (List.range (n + 1) ++ ts)[n + 2]? = ts[1]? := range_beh (n + 1) ts 1

noncomputable def arΓ : Gam := gams [(24, trueK), (25, dnewS), (26, darmS), (27, nameDS), (28, ddownS), (29, dcreS), (30, dapp1S), (31, dsyncS),
  (32, dlistS), (33, dusedS), (34, dsizeDS), (35, dremS), (36, dsyncDS), (38, dfilesS), (37, sameDS), (39, drestS)]
theorem arΓ_ok : GOk Try.prog arΓ := goks_cons dworksS0_sound (goks_cons dnew_sound (goks_cons darm_sound (goks_cons nameD_sound (goks_cons ddown_sound (goks_cons dcre_sound (goks_cons dapp1_sound (goks_cons dsync_sound
  (goks_cons dlist_sound (goks_cons dused_sound (goks_cons dsizeD_sound (goks_cons drem_sound (goks_cons dsyncD_sound (goks_cons dfiles_sound (goks_cons sameD_sound (goks_cons drest_sound goks_nil)))))))))))))))

abbrev arF (L : Nat) (n : Int) (A0 s i : Nat) : List AV := [.sl 0 0 L 6 false, .int .u8 n, .top, .top, .bool false, .int .i64 A0, .ptr (L + 1) 0, .ptr (L + 2) 0, .int .i64 s, .int .i64 i] ++ List.replicate 195 .top

/-- What holds in a round. -/
structure ArI (L A0 : Nat) (r : Nat × Nat × DS × DS) : Prop where
  i1 : r.1 ≤ L
  i2 : r.1 ≤ 30
  s1 : r.2.1 ≤ A0
  ar : Ar ((A0 : Int) - r.2.1) r.2.2.1 r.2.2.2
  ok : r.2.2.1.ok (10 * r.1) (200 * r.1)
  okf : r.2.2.2.ok (10 * r.1) (200 * r.1)

set_option maxHeartbeats 64000000 in
theorem armed_ct (l : List DA) (hok : ∀ x ∈ l, x.ok) (_hl : l.length ≤ 9223372036854775807) (n : Int) (hn : 0 ≤ n ∧ n ≤ 255) :
    ∃ H', Ct Try.prog 5 [.sl 0 0 l.length 6 false, .int .u8 n] (dasH l) (.bool true) H' := by
  have hΓ := arΓ_ok
  refine ⟨dasH l, ct_of_sim Try.func5 rfl ?_⟩
  simp only [Try.ntmps5, List.length_cons, List.length_nil, Nat.reduceAdd, Nat.reduceSub, List.replicate, List.cons_append, List.nil_append]
  have hAl := dasH_length l
  rw [hAl]
  obtain ⟨L, hL⟩ : ∃ L, l.length = L := ⟨_, rfl⟩
  have tl := fun {T Tn F Fn} => das_tail l (T := T) (Tn := Tn) (F := F) (Fn := Fn)
  have hA0 : ∀ T : AHeap, (dasH l ++ T)[0]? = some (.cells false (dasA 1 l)) := fun T => rfl
  have hX := behindX (dasH l) hAl
  rw [hL] at hAl tl hX ⊢
  have hXg := hX.get
  have hXg0 := hX.get0
  have hXs := hX.set
  have hXs0 := hX.set0
  obtain ⟨A, hA⟩ : ∃ A, dasH l = A := ⟨_, rfl⟩
  rw [hA] at hAl tl hA0 hXg hXg0 hXs hXs0 ⊢
  have hA0' : A[0]? = some (.cells false (dasA 1 l)) := by have := hA0 []; rwa [List.append_nil] at this
  have hA00 : ∀ h, A[0]'h = .cells false (dasA 1 l) := fun h => by rw [List.getElem?_eq_getElem h] at hA0'; exact Option.some.inj hA0'
  have hend : ∀ T : AHeap, Weak (L + 1) [.bool true] (A ++ T) [.bool true] A := fun T => by
    have := tl (T := T) (Tn := []) (F := [.bool true]) (Fn := [.bool true]) [] (by decide) (by simp) rfl (fun j t x y h => by simp at h)
    rwa [List.append_nil] at this
  obtain ⟨q, hq⟩ : ∃ q : Nat, n.tmod 20 = q := ⟨(n.tmod 20).toNat, by rw [Int.tmod_eq_emod_of_nonneg hn.1]; omega⟩
  have hq20 : q < 20 := by rw [Int.tmod_eq_emod_of_nonneg hn.1] at hq; omega
  have w1 : IntKind.u8.wrap (q : Int) = q := wr_u8 (by omega) (by omega)
  have w2 : IntKind.i64.wrap (q : Int) = q := wr_i64 (by omega) (by omega)
  obtain ⟨A0, hA0e⟩ : ∃ A0, 1 + q = A0 := ⟨_, rfl⟩
  have w3 : IntKind.i64.wrap (1 + (q : Int)) = A0 := by rw [wr_i64 (by omega) (by omega)]; omega
  have hAr0 : Ar (A0 : Int) ((DS.new 200).arm A0) (DS.new 200) := ⟨rfl, rfl, rfl, rfl, rfl, rfl, by simp only [DS.arm]; omega, by simp [DS.arm, DS.new]; omega⟩
  refine Sim.step hmix hΓ (n := 0) (by simp; exact ⟨rfl, rfl⟩) (by simp [hAl]) ?_
  refine Sim.step hmix hΓ (n := 0) (by simp [arΓ, trueK]; exact ⟨rfl, rfl⟩) (by simp [hAl]) ?_
  refine Sim.step hmix hΓ (n := 0) (by simp (decide := true) [hq, w2, w3]; exact ⟨rfl, rfl⟩) (by simp [hAl]) ?_
  refine Sim.step hmix hΓ (n := 0) (by simp (decide := true) [arΓ, dnewS, newS, hAl]; exact ⟨rfl, rfl⟩) (by simp [hAl]) ?_
  refine Sim.step hmix hΓ (n := 0) (by simp; exact ⟨rfl, rfl⟩) (by simp [hAl]) ?_
  refine Sim.step hmix hΓ (n := 0) (by simp (decide := true) [arΓ, darmS, hXs0, hAl]; exact ⟨rfl, rfl⟩) (by simp [hAl]) ?_
  refine Sim.step hmix hΓ (n := 0) (by simp; exact ⟨rfl, rfl⟩) (by simp [hAl]) ?_
  refine Sim.seq (Sim.mono (Q := fun e F' H' => e = .normal ∧ ∃ r, ArI L A0 r ∧ Weak (L + 1) F' H' (arF L n A0 r.2.1 r.1) (A ++ [.obj true r.2.2.1.blks, .obj true r.2.2.2.blks])) (Sim.step hmix hΓ (n := 0) (by simp; exact ⟨rfl, rfl⟩) (by simp [hAl]) ?_) ?_)
  · refine Sim.block (Sim.loopW (fun r : Nat × Nat × DS × DS => ArI L A0 r) (fun r => arF L n A0 r.2.1 r.1) (fun r => A ++ [.obj true r.2.2.1.blks, .obj true r.2.2.2.blks]) (fun r => 30 - r.1) (0, 0, (DS.new 200).arm A0, DS.new 200) (by simp [hAl]) ?_ ?_ fun r hr => ?_)
    · exact ⟨Nat.zero_le _, Nat.zero_le _, Nat.zero_le _, by simpa using hAr0, DS.ok_arm (DS.ok_new 200 (by decide) (by decide)) _ (by omega), DS.ok_new 200 (by decide) (by decide)⟩
    · refine tl [0, 1] (by decide) ?_ rfl fun j t x y h1 h2 h3 => ?_
      · simp [AW]
      · match j, h1, h2 with
        | 0, h1, h2 => cases h1; cases h2; cases h3; exact ⟨rfl, rfl⟩
        | 1, h1, h2 => cases h1; cases h2; cases h3; exact ⟨rfl, rfl⟩
    · obtain ⟨i, s, d, f⟩ := r
      obtain ⟨i1, i2, s1, har, hdo, hfo⟩ := hr
      dsimp only at i1 i2 s1 har hdo hfo ⊢
      have keep : ∀ (i : Nat) (s : Nat) (d f : DS) (T : AHeap), Weak (L + 1) (arF L n A0 s i) (A ++ .obj true d.blks :: .obj true f.blks :: T) (arF L n A0 s i) (A ++ [.obj true d.blks, .obj true f.blks]) := fun i s d f T => by
        refine tl [0, 1] (by decide) ?_ rfl fun j t x y h1 h2 h3 => ?_
        · simp [AW]
        · match j, h1, h2 with
          | 0, h1, h2 => cases h1; cases h2; cases h3; exact ⟨rfl, rfl⟩
          | 1, h1, h2 => cases h1; cases h2; cases h3; exact ⟨rfl, rfl⟩
      have keepF : ∀ (i : Nat) (s : Nat) (d f : DS) (T : AHeap) (F : List AV), AWs (List.range (L + 1) ++ [0, 1].map (L + 1 + ·)) (arF L n A0 s i) F → Weak (L + 1) F (A ++ .obj true d.blks :: .obj true f.blks :: T) (arF L n A0 s i) (A ++ [.obj true d.blks, .obj true f.blks]) := fun i s d f T F hF => by
        refine tl [0, 1] (by decide) hF rfl fun j t x y h1 h2 h3 => ?_
        match j, h1, h2 with
        | 0, h1, h2 => cases h1; cases h2; cases h3; exact ⟨rfl, rfl⟩
        | 1, h1, h2 => cases h1; cases h2; cases h3; exact ⟨rfl, rfl⟩
      clear keep
      by_cases hlt : i < L ∧ i < 30
      rotate_left
      · by_cases h1 : i < L
        · have hltI : (i : Int) < L := by omega
          have h30 : ¬ (i : Int) < 30 := by omega
          refine Sim.exec hmix hΓ (n := 0) (by simp [hltI, h30]; exact ⟨rfl, rfl, rfl⟩) (by simp [hAl]) ?_
          dsimp only
          rw [if_pos rfl]
          exact ⟨by trivial, (i, s, d, f), ⟨i1, i2, s1, har, hdo, hfo⟩, keepF i s d f [] _ (by simp [AW])⟩
        · have hltI : ¬ (i : Int) < L := by omega
          refine Sim.exec hmix hΓ (n := 0) (by simp [hltI]; exact ⟨rfl, rfl, rfl⟩) (by simp [hAl]) ?_
          dsimp only
          rw [if_pos rfl]
          exact ⟨by trivial, (i, s, d, f), ⟨i1, i2, s1, har, hdo, hfo⟩, keepF i s d f [] _ (by simp [AW])⟩
      obtain ⟨hlt, h30⟩ := hlt
      have hltI : (i : Int) < L := by omega
      have h30I : (i : Int) < 30 := by omega
      have hil : i < l.length := by omega
      obtain ⟨x, hx⟩ : ∃ x, l[i] = x := ⟨_, rfl⟩
      have hxo := hok x (by rw [← hx]; exact List.getElem_mem hil)
      have g1 := das_get l 1 i hil
      rw [hx] at g1
      obtain ⟨xw, xa, xb, xs, xn, xl⟩ := x
      obtain ⟨b1, b2, b3, b4, b5, _, _⟩ := hxo
      dsimp only at b1 b2 b3 b4 b5
      simp only [daA] at g1
      have k1 : i * 6 + 6 ≤ L * 6 := by omega
      have ia2 : (xa : Int) ≤ 255 := by omega
      have y1 : IntKind.i64.wrap ((i : Int) + 1) = i + 1 := wr_i64 (by omega) (by omega)
      have y2 : IntKind.i64.wrap ((s : Int) + 1) = s + 1 := wr_i64 (by omega) (by omega)
      have hq2 : ∀ k : Nat, 1 + i < L + 1 + k := fun k => by omega
      have hds : d.small := DS.ok_mono hdo (by omega) (by omega)
      have hfs : f.small := DS.ok_mono hfo (by omega) (by omega)
      obtain ⟨nm, hnm⟩ : ∃ nm, nmD xs xa = nm := ⟨_, rfl⟩
      have hnml : nm.length ≤ 9223372036854775807 := by
        rw [← hnm]
        unfold nmD
        split
        · exact b4
        · have : xa % 4 < 4 := Nat.mod_lt _ (by decide)
          have h4 : ∀ p, p < 4 → (([[97], [98], [99], [108, 111, 103]] : List (List UInt8)).getD p []).length ≤ 3 := by decide
          have := h4 _ this
          omega
      obtain ⟨z, hz⟩ : ∃ z, 1 + i = z := ⟨_, rfl⟩
      rw [hz] at g1 hq2
      refine Sim.step hmix hΓ (n := 0) (by simp [hltI, h30I]; exact ⟨rfl, rfl⟩) (by simp [hAl]) ?_
      refine Sim.seq (Sim.block ?_)
      refine Sim.step hmix hΓ (n := 0) (by simp (decide := true) [hlt, hL, hA00, hAl, k1, g1]; exact ⟨rfl, rfl⟩) (by simp [hAl]) ?_
      refine Sim.step hmix hΓ (n := 0) (by simp (decide := true) [arΓ, nameDS, hAl, hq2, ia2, hnm]; exact ⟨rfl, rfl⟩) (by simp [hAl]) ?_
      by_cases hsA : s = A0
      · -- it is down
        subst hsA
        rw [Int.sub_self] at har
        obtain ⟨c1, a1⟩ := har.zero fun d => if (d.fd.create nm).2.2 = 0 then (⟨(d.fd.create nm).1, d.fs ++ [((d.fd.create nm).2.1, ⟨[], []⟩)], d.quota, d.steps, d.armed, d.down⟩, 0) else (⟨(d.fd.create nm).1, d.fs, d.quota, d.steps, d.armed, d.down⟩, (d.fd.create nm).2.2)
        have hc1 : d.create nm = (d.count, 13) := c1
        have o1 := DS.ok_count hdo
        obtain ⟨d1, hd1⟩ : ∃ d1, d.count = d1 := ⟨_, rfl⟩
        rw [hd1] at hc1 a1 o1
        obtain ⟨c2, a2⟩ := a1.zero (ofG nm fun d f => if d.room < xs.length then (f.add (xs.take d.room), 10) else (f.add xs, 0))
        have hc2 : d1.append nm xs = (d1.count, 13) := c2
        have o2 := DS.ok_count o1
        obtain ⟨d2, hd2⟩ : ∃ d2, d1.count = d2 := ⟨_, rfl⟩
        rw [hd2] at hc2 a2 o2
        obtain ⟨c3, a3⟩ := a2.zero (ofG nm fun _ f => (⟨f.now, []⟩, 0))
        have hc3 : d2.sync nm = (d2.count, 13) := c3
        have o3 := DS.ok_count o2
        obtain ⟨d3, hd3⟩ : ∃ d3, d2.count = d3 := ⟨_, rfl⟩
        rw [hd3] at hc3 a3 o3
        have s1' : d1.small := DS.ok_mono o1 (by omega) (by omega)
        have s2' : d2.small := DS.ok_mono o2 (by omega) (by omega)
        have s3' : d3.small := DS.ok_mono o3 (by omega) (by omega)
        have q1 : d1.quota ≤ 1000000000000 := by rw [a1.q1]; decide
        have w0 : d.down = true := by rw [har.dw]; rfl
        have w3' : d3.down = true := by rw [a3.dw]; rfl
        have l3 : d3.list = [] := by unfold DS.list; rw [w3']; rfl
        have u3 : d3.used = 0 := by unfold DS.used; rw [l3]; rfl
        refine Sim.seq (Sim.step hmix hΓ (n := 0) (by simp; exact ⟨rfl, rfl⟩) (by simp [hAl]) (Sim.cond (t := true) (by simp) ?_))
        rw [if_pos rfl]
        refine Sim.seq (Sim.seq (Sim.plain (by simp [hAl]) ?_))
        refine SimP.many hΓ 9 rfl rfl (by simp (decide := true) [arΓ, ddownS, dcreS, hXs0, hAl, w0, hds, hnml, hc1]; exact ⟨rfl, rfl⟩) ?_
        refine SimP.many hΓ 9 rfl rfl (by simp (decide := true) [arΓ, dapp1S, flatsA, flatA, hXs0, hAl, s1', q1, b4, hc2]; exact ⟨rfl, rfl⟩) ?_
        refine SimP.many hΓ 6 rfl rfl (by simp (decide := true) [arΓ, dsyncS, hXs0, hAl, s2', hc3]; exact ⟨rfl, rfl⟩) ?_
        refine SimP.many hΓ 11 rfl rfl (by simp (decide := true) [arΓ, dlistS, dusedS, hXs0, hAl, s3', l3, u3]; exact ⟨rfl, rfl⟩) ?_
        refine SimP.done ?_
        dsimp only
        refine Sim.exec hmix hΓ (n := 0) (by simp; exact ⟨rfl, rfl, rfl⟩) (by simp [hAl]) ?_
        dsimp only
        refine Sim.step hmix hΓ (n := 0) (by simp (decide := true) [arΓ, dsizeDS, hXs0, hAl, w3']; exact ⟨rfl, rfl⟩) (by simp [hAl]) ?_
        refine Sim.exec hmix hΓ (n := 0) (by simp (decide := true); exact ⟨rfl, rfl, rfl⟩) (by simp [hAl]) ?_
        dsimp only
        refine Sim.exec hmix hΓ (n := 0) (by simp [y1]; exact ⟨rfl, rfl, rfl⟩) (by simp [hAl]) ?_
        dsimp only
        refine ⟨(i + 1, s, d3, f), ⟨by dsimp only; omega, by dsimp only; omega, by dsimp only; omega, by dsimp only; rw [Int.sub_self]; exact a3, DS.ok_mono o3 (by dsimp only; omega) (by dsimp only; omega), DS.ok_mono hfo (by dsimp only; omega) (by dsimp only; omega)⟩, keepF (i + 1) s d3 f _ _ (by simp [AW]), by dsimp only; omega⟩
      -- it is up
      have hsl : s < A0 := by omega
      have hsI : ((s : Int) == (A0 : Int)) = false := by simp; omega
      have hsN : ¬ (s : Int) = A0 := by omega
      obtain ⟨p, hp⟩ : ∃ p, xw % 4 = p := ⟨_, rfl⟩
      have hp4 : p < 4 := by omega
      have v1 : (xw : Int).tmod 4 = p := by rw [Int.tmod_eq_emod_of_nonneg (by omega)]; omega
      have v2 : IntKind.u8.wrap (p : Int) = p := wr_u8 (by omega) (by omega)
      have qd : d.quota ≤ 1000000000000 := by rw [har.q1]; decide
      have qf : f.quota ≤ 1000000000000 := by rw [har.q2]; decide
      refine Sim.step hmix hΓ (n := 0) (by simp [hsI]; exact ⟨rfl, rfl⟩) (by simp [hAl]) ?_
      refine Sim.step hmix hΓ (n := 0) (by simp [y2]; exact ⟨rfl, rfl⟩) (by simp [hAl]) ?_
      refine Sim.step hmix hΓ (n := 0) (by simp; exact ⟨rfl, rfl⟩) (by simp [hAl]) ?_
      refine Sim.seq (Sim.mono (Q := fun e F' H' => e = .normal ∧ ∃ (d' f' : DS) (e e' : Int), (s + 1 < A0 ∧ e = e' ∨ s + 1 = A0 ∧ e = 13) ∧ Ar ((A0 : Int) - ((s : Int) + 1)) d' f' ∧ d'.ok (10 * (i + 1)) (200 * (i + 1)) ∧ f'.ok (10 * (i + 1)) (200 * (i + 1)) ∧
        Weak (L + 1) F' H' ([.sl 0 0 L 6 false, .int .u8 n, .top, .top, .bool false, .int .i64 A0, .ptr (L + 1) 0, .ptr (L + 2) 0, .int .i64 ((s : Int) + 1), .int .i64 i, .top, .top, .top, .top, .int .i64 e, .int .i64 e'] ++ List.replicate 189 .top) (A ++ [.obj true d'.blks, .obj true f'.blks])) (Sim.step hmix hΓ (n := 0) (by simp (decide := true) [hAl, v1]; exact ⟨rfl, rfl⟩) (by simp [hAl]) (Sim.block ?_)) ?_)
      · have fin : ∀ (d' f' : DS) (e e' : Int) (T : AHeap) (F : List AV), AWs (List.range (L + 1) ++ [0, 1].map (L + 1 + ·)) ([.sl 0 0 L 6 false, .int .u8 n, .top, .top, .bool false, .int .i64 A0, .ptr (L + 1) 0, .ptr (L + 2) 0, .int .i64 ((s : Int) + 1), .int .i64 i, .top, .top, .top, .top, .int .i64 e, .int .i64 e'] ++ List.replicate 189 .top) F →
            Weak (L + 1) F (A ++ .obj true d'.blks :: .obj true f'.blks :: T) ([.sl 0 0 L 6 false, .int .u8 n, .top, .top, .bool false, .int .i64 A0, .ptr (L + 1) 0, .ptr (L + 2) 0, .int .i64 ((s : Int) + 1), .int .i64 i, .top, .top, .top, .top, .int .i64 e, .int .i64 e'] ++ List.replicate 189 .top) (A ++ [.obj true d'.blks, .obj true f'.blks]) := fun d' f' e e' T F hF => by
          refine tl [0, 1] (by decide) hF rfl fun j t x y h1 h2 h3 => ?_
          match j, h1, h2 with
          | 0, h1, h2 => cases h1; cases h2; cases h3; exact ⟨rfl, rfl⟩
          | 1, h1, h2 => cases h1; cases h2; cases h3; exact ⟨rfl, rfl⟩
        by_cases hs1 : s + 1 < A0
        · have hs1I : (s : Int) + 1 < A0 := by omega
          have ha1 : (1 : Int) < (A0 : Int) - s := by omega
          have hae : (A0 : Int) - s - 1 = (A0 : Int) - ((s : Int) + 1) := by omega
          match p, hp4 with
          | 0, _ =>
            have hm : (d.create nm).2 = (f.create nm).2 ∧ Ar ((A0 : Int) - s - 1) (d.create nm).1 (f.create nm).1 := har.more ha1 (stepG_create nm)
            have o1 := DS.ok_create hdo nm
            have o2 := DS.ok_create hfo nm
            obtain ⟨d', e, hcd⟩ : ∃ d' e, d.create nm = (d', e) := ⟨_, _, rfl⟩
            obtain ⟨f', e', hcf⟩ : ∃ f' e', f.create nm = (f', e') := ⟨_, _, rfl⟩
            rw [hcd, hcf] at hm
            rw [hcd] at o1
            rw [hcf] at o2
            rw [hae] at hm
            refine Sim.exec hmix hΓ (n := 0) (by simp (decide := true) [arΓ, dcreS, hXs0, hAl, hs1I, hds, hfs, hcd, hcf, hnml]; exact ⟨rfl, rfl, rfl⟩) (by simp [hAl]) ?_
            dsimp only
            exact ⟨by trivial, d', f', e, e', .inl ⟨hs1, hm.1⟩, hm.2, DS.ok_mono o1 (by omega) (by omega), DS.ok_mono o2 (by omega) (by omega), fin d' f' e e' _ _ (by simp [AW])⟩
          | 1, _ =>
            have hm : (d.remove nm).2 = (f.remove nm).2 ∧ Ar ((A0 : Int) - s - 1) (d.remove nm).1 (f.remove nm).1 := har.more ha1 (stepG_remove nm)
            have o1 := DS.ok_remove hdo nm
            have o2 := DS.ok_remove hfo nm
            obtain ⟨d', e, hcd⟩ : ∃ d' e, d.remove nm = (d', e) := ⟨_, _, rfl⟩
            obtain ⟨f', e', hcf⟩ : ∃ f' e', f.remove nm = (f', e') := ⟨_, _, rfl⟩
            rw [hcd, hcf] at hm
            rw [hcd] at o1
            rw [hcf] at o2
            rw [hae] at hm
            refine Sim.exec hmix hΓ (n := 0) (by simp (decide := true) [arΓ, dremS, hXs0, hAl, hs1I, hds, hfs, hcd, hcf]; exact ⟨rfl, rfl, rfl⟩) (by simp [hAl]) ?_
            dsimp only
            exact ⟨by trivial, d', f', e, e', .inl ⟨hs1, hm.1⟩, hm.2, DS.ok_mono o1 (by omega) (by omega), DS.ok_mono o2 (by omega) (by omega), fin d' f' e e' _ _ (by simp [AW])⟩
          | 2, _ =>
            have hm : (d.syncDir).2 = (f.syncDir).2 ∧ Ar ((A0 : Int) - s - 1) (d.syncDir).1 (f.syncDir).1 := har.more ha1 stepG_syncDir
            have o1 := DS.ok_syncDir hdo
            have o2 := DS.ok_syncDir hfo
            obtain ⟨d', e, hcd⟩ : ∃ d' e, d.syncDir = (d', e) := ⟨_, _, rfl⟩
            obtain ⟨f', e', hcf⟩ : ∃ f' e', f.syncDir = (f', e') := ⟨_, _, rfl⟩
            rw [hcd, hcf] at hm
            rw [hcd] at o1
            rw [hcf] at o2
            rw [hae] at hm
            refine Sim.exec hmix hΓ (n := 0) (by simp (decide := true) [arΓ, dsyncDS, hXs0, hAl, hs1I, hds, hfs, hcd, hcf]; exact ⟨rfl, rfl, rfl⟩) (by simp [hAl]) ?_
            dsimp only
            exact ⟨by trivial, d', f', e, e', .inl ⟨hs1, hm.1⟩, hm.2, DS.ok_mono o1 (by omega) (by omega), DS.ok_mono o2 (by omega) (by omega), fin d' f' e e' _ _ (by simp [AW])⟩
          | 3, _ =>
            have hm : (d.append nm xs).2 = (f.append nm xs).2 ∧ Ar ((A0 : Int) - s - 1) (d.append nm xs).1 (f.append nm xs).1 := har.more ha1 (stepG_append nm xs)
            have o1 := DS.ok_append hdo nm xs 200 (by decide) (by rw [har.q1]; decide)
            have o2 := DS.ok_append hfo nm xs 200 (by decide) (by rw [har.q2]; decide)
            obtain ⟨d', e, hcd⟩ : ∃ d' e, d.append nm xs = (d', e) := ⟨_, _, rfl⟩
            obtain ⟨f', e', hcf⟩ : ∃ f' e', f.append nm xs = (f', e') := ⟨_, _, rfl⟩
            rw [hcd, hcf] at hm
            rw [hcd] at o1
            rw [hcf] at o2
            rw [hae] at hm
            refine Sim.exec hmix hΓ (n := 0) (by simp (decide := true) [arΓ, dapp1S, flatsA, flatA, hXs0, hAl, hs1I, hds, hfs, hcd, hcf, b4, qd, qf]; exact ⟨rfl, rfl, rfl⟩) (by simp [hAl]) ?_
            dsimp only
            exact ⟨by trivial, d', f', e, e', .inl ⟨hs1, hm.1⟩, hm.2, DS.ok_mono o1 (by omega) (by omega), DS.ok_mono o2 (by omega) (by omega), fin d' f' e e' _ _ (by simp [AW])⟩
        · have hs1I : ¬ (s : Int) + 1 < A0 := by omega
          have hs1e : s + 1 = A0 := by omega
          rw [show (A0 : Int) - s = 1 by omega] at har
          have hae : (0 : Int) = (A0 : Int) - ((s : Int) + 1) := by omega
          match p, hp4 with
          | 0, _ =>
            obtain ⟨hm1, hm2⟩ := har.one (fun d => if (d.fd.create nm).2.2 = 0 then (⟨(d.fd.create nm).1, d.fs ++ [((d.fd.create nm).2.1, ⟨[], []⟩)], d.quota, d.steps, d.armed, d.down⟩, 0) else (⟨(d.fd.create nm).1, d.fs, d.quota, d.steps, d.armed, d.down⟩, (d.fd.create nm).2.2))
            have hcd : d.create nm = (d.count, 13) := hm1
            have o1 := DS.ok_count hdo
            obtain ⟨d', hd'⟩ : ∃ d', d.count = d' := ⟨_, rfl⟩
            rw [hd'] at hcd hm2 o1
            rw [hae] at hm2
            refine Sim.exec hmix hΓ (n := 0) (by simp (decide := true) [arΓ, dcreS, hXs0, hAl, hs1I, hds, hcd, hnml]; exact ⟨rfl, rfl, rfl⟩) (by simp [hAl]) ?_
            dsimp only
            exact ⟨by trivial, d', f, 13, 0, .inr ⟨hs1e, rfl⟩, hm2, DS.ok_mono o1 (by omega) (by omega), DS.ok_mono hfo (by omega) (by omega), fin d' f 13 0 _ _ (by simp [AW])⟩
          | 1, _ =>
            obtain ⟨hm1, hm2⟩ := har.one (fun d => (⟨(d.fd.remove nm).1, d.fs, d.quota, d.steps, d.armed, d.down⟩, (d.fd.remove nm).2))
            have hcd : d.remove nm = (d.count, 13) := hm1
            have o1 := DS.ok_count hdo
            obtain ⟨d', hd'⟩ : ∃ d', d.count = d' := ⟨_, rfl⟩
            rw [hd'] at hcd hm2 o1
            rw [hae] at hm2
            refine Sim.exec hmix hΓ (n := 0) (by simp (decide := true) [arΓ, dremS, hXs0, hAl, hs1I, hds, hcd]; exact ⟨rfl, rfl, rfl⟩) (by simp [hAl]) ?_
            dsimp only
            exact ⟨by trivial, d', f, 13, 0, .inr ⟨hs1e, rfl⟩, hm2, DS.ok_mono o1 (by omega) (by omega), DS.ok_mono hfo (by omega) (by omega), fin d' f 13 0 _ _ (by simp [AW])⟩
          | 2, _ =>
            obtain ⟨hm1, hm2⟩ := har.one (fun d => (⟨d.fd.survive d.fd.acts.length, d.fs, d.quota, d.steps, d.armed, d.down⟩, 0))
            have hcd : d.syncDir = (d.count, 13) := hm1
            have o1 := DS.ok_count hdo
            obtain ⟨d', hd'⟩ : ∃ d', d.count = d' := ⟨_, rfl⟩
            rw [hd'] at hcd hm2 o1
            rw [hae] at hm2
            refine Sim.exec hmix hΓ (n := 0) (by simp (decide := true) [arΓ, dsyncDS, hXs0, hAl, hs1I, hds, hcd]; exact ⟨rfl, rfl, rfl⟩) (by simp [hAl]) ?_
            dsimp only
            exact ⟨by trivial, d', f, 13, 0, .inr ⟨hs1e, rfl⟩, hm2, DS.ok_mono o1 (by omega) (by omega), DS.ok_mono hfo (by omega) (by omega), fin d' f 13 0 _ _ (by simp [AW])⟩
          | 3, _ =>
            obtain ⟨hm1, hm2⟩ := har.one (ofG nm fun d f => if d.room < xs.length then (f.add (xs.take d.room), 10) else (f.add xs, 0))
            have hcd : d.append nm xs = (d.count, 13) := hm1
            have o1 := DS.ok_count hdo
            obtain ⟨d', hd'⟩ : ∃ d', d.count = d' := ⟨_, rfl⟩
            rw [hd'] at hcd hm2 o1
            rw [hae] at hm2
            refine Sim.exec hmix hΓ (n := 0) (by simp (decide := true) [arΓ, dapp1S, flatsA, flatA, hXs0, hAl, hs1I, hds, hcd, b4, qd]; exact ⟨rfl, rfl, rfl⟩) (by simp [hAl]) ?_
            dsimp only
            exact ⟨by trivial, d', f, 13, 0, .inr ⟨hs1e, rfl⟩, hm2, DS.ok_mono o1 (by omega) (by omega), DS.ok_mono hfo (by omega) (by omega), fin d' f 13 0 _ _ (by simp [AW])⟩
      rintro e F' H' hlen1 ⟨rfl, d', f', e, e', hee, har', hdo', hfo', hwk⟩
      dsimp only
      refine Sim.weak hwk hlen1 ?_
      clear hwk hlen1
      simp only [List.cons_append, List.nil_append, List.replicate]
      have hds' : d'.small := DS.ok_mono hdo' (by omega) (by omega)
      have hfs' : f'.small := DS.ok_mono hfo' (by omega) (by omega)
      have last : ∀ (T : AHeap) (F : List AV), AWs (List.range (L + 1) ++ [0, 1].map (L + 1 + ·)) (arF L n A0 (s + 1) (i + 1)) F → ∃ s', ArI L A0 s' ∧ Weak (L + 1) F (A ++ .obj true d'.blks :: .obj true f'.blks :: T) (arF L n A0 s'.2.1 s'.1) (A ++ [.obj true s'.2.2.1.blks, .obj true s'.2.2.2.blks]) ∧ 30 - s'.1 < 30 - i := fun T F hF =>
        ⟨(i + 1, s + 1, d', f'), ⟨by dsimp only; omega, by dsimp only; omega, by dsimp only; omega, by dsimp only; rw [show ((s + 1 : Nat) : Int) = (s : Int) + 1 by omega]; exact har', hdo', hfo'⟩, keepF (i + 1) (s + 1) d' f' T F hF, by dsimp only; omega⟩
      rcases hee with ⟨hs1, rfl⟩ | ⟨hs1, rfl⟩
      · have hs1I : (s : Int) + 1 < A0 := by omega
        have hne : ((s : Int) + 1 == (A0 : Int)) = false := by simp; omega
        have hnn : ¬ (s : Int) + 1 = A0 := by omega
        have hdn : d'.down = false := by rw [har'.dw]; simp; omega
        have hfe : d'.files = f'.files := har'.files (by omega)
        have hfl := DS.list_le hfo'
        have hlx : f'.files.length ≤ 9223372036854775807 := by simp [DS.files]; omega
        refine Sim.seq (Sim.plain (by simp [hAl]) ?_)
        refine SimP.many hΓ 17 rfl rfl (by simp (decide := true) [hs1I, hne]; exact ⟨rfl, rfl⟩) ?_
        refine SimP.many hΓ 9 rfl rfl (by simp (decide := true) [arΓ, ddownS, hXs0, hAl, hdn, hne]; exact ⟨rfl, rfl⟩) ?_
        refine SimP.many hΓ 12 rfl rfl (by simp (decide := true) [arΓ, dfilesS, sameDS, hAl, hs1I, hds', hfs', hfe, hlx]; exact ⟨rfl, rfl⟩) ?_
        refine SimP.done ?_
        dsimp only
        refine Sim.exec hmix hΓ (n := 0) (by simp; exact ⟨rfl, rfl, rfl⟩) (by simp [hAl]) ?_
        dsimp only
        refine Sim.exec hmix hΓ (n := 0) (by simp [y1]; exact ⟨rfl, rfl, rfl⟩) (by simp [hAl]) ?_
        dsimp only
        exact last _ _ (by simp [AW])
      · have hs1I : ¬ (s : Int) + 1 < A0 := by omega
        have hne : ((s : Int) + 1 == (A0 : Int)) = true := by simp; omega
        have hnn : (s : Int) + 1 = A0 := by omega
        have hdn : d'.down = true := by rw [har'.dw]; simp; omega
        refine Sim.seq (Sim.plain (by simp [hAl]) ?_)
        refine SimP.many hΓ 17 rfl rfl (by simp (decide := true) [hnn]; exact ⟨rfl, rfl⟩) ?_
        refine SimP.many hΓ 9 rfl rfl (by simp (decide := true) [arΓ, ddownS, hXs0, hAl, hdn]; exact ⟨rfl, rfl⟩) ?_
        refine SimP.many hΓ 12 rfl rfl (by simp (decide := true); exact ⟨rfl, rfl⟩) ?_
        refine SimP.done ?_
        dsimp only
        refine Sim.exec hmix hΓ (n := 0) (by simp; exact ⟨rfl, rfl, rfl⟩) (by simp [hAl]) ?_
        dsimp only
        refine Sim.exec hmix hΓ (n := 0) (by simp [y1]; exact ⟨rfl, rfl, rfl⟩) (by simp [hAl]) ?_
        dsimp only
        exact last _ _ (by simp [AW, hnn])
  rintro e F' H' hlen1 ⟨rfl, r, hr, hwk⟩
  dsimp only
  refine Sim.weak hwk hlen1 ?_
  clear hwk hlen1
  simp only [arF, List.cons_append, List.nil_append, List.replicate]
  obtain ⟨i, s, d, f⟩ := r
  obtain ⟨i1, i2, s1, har, hdo, hfo⟩ := hr
  dsimp only at i1 i2 s1 har hdo hfo ⊢
  have hds : d.small := DS.ok_mono hdo (by omega) (by omega)
  have hfs : f.small := DS.ok_mono hfo (by omega) (by omega)
  have hfl : f.list = d.fd.names := by unfold DS.list; rw [har.fw, har.fd]; rfl
  have hro := DS.ok_restart hdo [60000, 60000, 60000, 60000, 60000, 60000, 60000, 60000, 60000, 60000, 60000, 60000, 60000]
  have hrd : (d.restart [60000, 60000, 60000, 60000, 60000, 60000, 60000, 60000, 60000, 60000, 60000, 60000, 60000]).down = false := rfl
  have hrf : f.list.length ≤ 5 → (d.restart [60000, 60000, 60000, 60000, 60000, 60000, 60000, 60000, 60000, 60000, 60000, 60000, 60000]).files = f.files := fun h => by
    have := (restart_all hdo (by omega) (by omega) 12 (by rw [← hfl]; omega)).1
    refine Eq.trans this (files_eq har.fd har.fs ?_)
    rw [har.fw]
  obtain ⟨D, hD⟩ : ∃ D, d.restart [60000, 60000, 60000, 60000, 60000, 60000, 60000, 60000, 60000, 60000, 60000, 60000, 60000] = D := ⟨_, rfl⟩
  rw [hD] at hro hrd hrf
  have hDs : D.small := DS.ok_mono hro (by omega) (by omega)
  have hfll := DS.list_le hfo
  have hffl : f.files.length = f.list.length := by simp [DS.files]
  refine Sim.step hmix hΓ (n := 0) (by simp (decide := true) [arΓ, drestS, rowArg, numsOf, hXs0, hAl, hds, hD]; exact ⟨rfl, rfl⟩) (by simp [hAl]) ?_
  by_cases h5 : f.list.length ≤ 5
  · have h5i : ¬ (5 : Int) < f.list.length := by omega
    have h5n : ¬ 5 < f.list.length := by omega
    have hfe := hrf h5
    have hlx : f.files.length ≤ 9223372036854775807 := by omega
    refine Sim.exec hmix hΓ (n := 0) (by simp (decide := true) [arΓ, ddownS, hrd, dlistS, dfilesS, sameDS, hXs0, hAl, hDs, hfs, h5i, hfe, hlx]; exact ⟨rfl, rfl, rfl⟩) (by simp [hAl]) ?_
    refine ⟨.inr rfl, _, by simp [Try.f5] <;> rfl, ?_⟩
    exact hend _
  · have h5i : (5 : Int) < f.list.length := by omega
    have h5n : 5 < f.list.length := by omega
    refine Sim.exec hmix hΓ (n := 0) (by simp (decide := true) [arΓ, ddownS, hrd, dlistS, hXs0, hAl, hfs, h5i]; exact ⟨rfl, rfl, rfl⟩) (by simp [hAl]) ?_
    refine ⟨.inr rfl, _, by simp [Try.f5] <;> rfl, ?_⟩
    exact hend _

def diskArmed_shape : List AS := [.rows da_ct, .flat false [.one (.int .u8)]]

theorem diskArmed_law : ∀ xs H, AbsArgs2 diskArmed_shape 0 xs H → ∃ H', Ct Try.prog 5 xs H (.bool true) H' := by
  intro xs H h0
  obtain ⟨x0, y0, n0, ys, H1, H2, rfl, hx0, hm0, hd0, rfl, h1⟩ := absArgs2_rows h0
  obtain ⟨l, rfl, e2, rfl, e5⟩ := row_das _ _ _ _ hd0
  obtain ⟨x1, y1, rfl, ⟨a, rfl, ha⟩, h2⟩ := absArgs2_one h1
  obtain ⟨rfl, rfl⟩ := absArgs2_nil h2
  have ba := bounds_u8 ha
  unfold maxLen at hm0
  obtain ⟨H', h⟩ := armed_ct l e2 (by omega) a (by omega)
  refine ⟨H', ct_weak ?_ h⟩
  have := das_weak (T := []) (rest := [.int .u8 a]) (restN := [.int .u8 a]) hx0 e5 (fun B hB => by cases hB) (fun rn _ => by simp)
  simpa using this

end Go.Proofs.Ytjolihoakdifoaa
