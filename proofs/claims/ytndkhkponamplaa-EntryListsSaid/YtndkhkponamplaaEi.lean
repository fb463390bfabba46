/- slices.Insert of one entry, over abstract heaps. -/
import Derived.Test.YtndkhkponamplaaIn
import Derived.Test.YtndkhkponamplaaEa
namespace Go.Proofs.Ytndkhkponamplaa
open Go Go.RowKit Go.Lib
set_option maxRecDepth 100000
attribute [-simp] drawOk_eq adraw qrun acode aops

theorem setCells_append (b : Nat) : ∀ (A B : List Value) (o : Nat) (w : World), w.setCells b o (A ++ B) = (w.setCells b o A).setCells b (o + A.length) B
  | [], B, o, w => by simp [World.setCells]
  | v :: A, B, o, w => by
    simp only [List.cons_append, World.setCells, List.length_cons]
    rw [setCells_append b A B, show o + 1 + A.length = o + (A.length + 1) by omega]

/-- A row whose end moves on by three cells, and three that are written in. -/
theorem shift_step {j : Inj} {H : AHeap} {w : World} (hR : R j H w) {bo : Nat} {l : List AV} {p : JB} (hb : H[bo]? = some (.cells true l)) (hp : j bo = some p) (i : Nat) (vs tail : List Value) (xs : List AV)
    (hx : VRs j xs vs) (h3 : xs.length = 3) (hi : i + 3 ≤ l.length) (room : p.base + l.length + 3 ≤ p.size) (ht : VRs j (l.drop i) tail) :
    Step H.length j H w (jput j H.length ⟨p.blk, p.base, p.size⟩) (H.set bo .dead ++ [.cells true (l.take i ++ xs ++ l.drop i)]) ((w.setCells p.blk (p.base + (i + 3)) tail).setCells p.blk (p.base + i) vs) := by
  have hlt : bo < H.length := (List.getElem?_eq_some_iff.1 hb).1
  have htl : tail.length = l.length - i := by have := (VRs_iff.1 ht).1; rw [List.length_drop] at this; omega
  obtain ⟨m, hm⟩ : ∃ m, l.length - i - 3 = m := ⟨_, rfl⟩
  have hA := ht.take m
  have hB := ht.drop m
  have hAl : ((l.drop i).take m).length = m := by rw [List.length_take, List.length_drop]; omega
  have hBl : ((l.drop i).drop m).length = 3 := by rw [List.length_drop, List.length_drop]; omega
  have htA : (tail.take m).length = m := by rw [List.length_take]; omega
  have st1 := step_store hR hb hp (i + 3) _ _ hA (by rw [hAl]; omega)
  obtain ⟨l1, hl1⟩ : ∃ l1, l1 = l.take (i + 3) ++ (l.drop i).take m ++ l.drop (i + 3 + ((l.drop i).take m).length) := ⟨_, rfl⟩
  rw [← hl1] at st1
  have e0 : l.drop (i + 3 + ((l.drop i).take m).length) = [] := by rw [hAl]; exact List.drop_of_length_le (by omega)
  rw [e0, List.append_nil] at hl1
  have hl1l : l1.length = l.length := by rw [hl1, List.length_append, hAl, List.length_take]; omega
  have hb1 : (H.set bo (.cells true l1))[bo]? = some (.cells true l1) := by rw [List.getElem?_set_self hlt]
  have st2 := step_room st1.rel hb1 hp 0 (Nat.zero_le _) _ _ hB (by rw [hl1l, hBl]; omega)
  rw [List.length_set, List.set_set, List.drop_zero, hl1l] at st2
  obtain ⟨l2, hl2⟩ : ∃ l2, l2 = l1 ++ (l.drop i).drop m := ⟨_, rfl⟩
  rw [← hl2] at st2
  have hb2 : (H.set bo .dead ++ [ABlk.cells true l2])[H.length]? = some (.cells true l2) := by
    rw [List.getElem?_append_right (by simp)]; simp
  have hp2 : jput j H.length ⟨p.blk, p.base + 0, p.size⟩ H.length = some ⟨p.blk, p.base + 0, p.size⟩ := jput_same _ _ _
  have hle : JLe j (jput j H.length ⟨p.blk, p.base + 0, p.size⟩) := jput_le (hR.dom _ (Nat.le_refl _))
  have hl2l : l2.length = l.length + 3 := by rw [hl2, List.length_append, hBl, hl1l]
  have st3 := step_store st2.rel hb2 hp2 i xs vs (VRs.mono hle _ _ hx) (by rw [h3, hl2l]; omega)
  have e1 : l2.take i = l.take i := by
    rw [hl2, hl1, List.append_assoc, List.take_append_of_le_length (by rw [List.length_take]; omega), List.take_take, Nat.min_eq_left (by omega)]
  have e2 : l2.drop (i + xs.length) = l.drop i := by
    rw [h3, hl2, hl1, List.append_assoc, List.drop_append, List.length_take, Nat.min_eq_left (by omega), List.drop_of_length_le (by rw [List.length_take]; omega), Nat.sub_self, List.drop_zero, List.nil_append, List.take_append_drop]
  rw [e1, e2] at st3
  have e3 : (H.set bo .dead ++ [ABlk.cells true l2]).set H.length (.cells true (l.take i ++ xs ++ l.drop i)) = H.set bo .dead ++ [.cells true (l.take i ++ xs ++ l.drop i)] := by
    rw [List.set_append_right _ _ (by simp)]; simp
  rw [e3] at st3
  have e4 : w.setCells p.blk (p.base + (i + 3)) tail = (w.setCells p.blk (p.base + (i + 3)) (tail.take m)).setCells p.blk (p.base + l.length) (tail.drop m) := by
    conv => lhs; rw [← List.take_append_drop m tail]
    rw [setCells_append, htA, show p.base + (i + 3) + m = p.base + l.length by omega]
  rw [e4]
  have st12 := st1.trans st2 (by simp)
  have st123 := st12.trans st3 (by simp)
  simpa using st123

/-- A row that was made behind all that was there. -/
theorem step_rowE {j : Inj} {H : AHeap} {w w' : World} (h : R j H w) (hb : RowKit.Below w.heap.size w w') {g T : Nat} {cur : Array Value} (hg : w.heap.size ≤ g) (hc : w'.heap[g]? = some (.cells cur T (0, 0))) {l : List AV} (hle0 : l.length ≤ cur.size)
    (hl : VRs j l (cur.toList.take l.length)) : Step H.length j H w (jput j H.length ⟨g, 0, cur.size⟩) (H ++ [.cells true l]) w' := by
  have hnone : j H.length = none := h.dom _ (Nat.le_refl _)
  have hle : JLe j (jput j H.length ⟨g, 0, cur.size⟩) := jput_le hnone
  have hold : ∀ c, c < w.heap.size → w'.heap[c]? = w.heap[c]? := fun c hc => hb.block c hc
  have hcase : ∀ c y q, (H ++ [ABlk.cells true l])[c]? = some y → jput j H.length ⟨g, 0, cur.size⟩ c = some q → (c = H.length ∧ y = .cells true l ∧ q = ⟨g, 0, cur.size⟩) ∨ (c ≠ H.length ∧ H[c]? = some y ∧ j c = some q) := by
    intro c y q hc hq
    rw [List.getElem?_append] at hc
    split at hc <;> rename_i hlt
    · exact .inr ⟨by omega, hc, by rw [jput_at, if_neg (by omega)] at hq; exact hq⟩
    · have hc0 : c = H.length := by
        rcases Nat.lt_or_ge (c - H.length) 1 with h1 | h1
        · omega
        · rw [List.getElem?_eq_none (by simpa using h1)] at hc; cases hc
      subst hc0
      simp at hc
      rw [jput_same] at hq
      cases hq
      exact .inl ⟨rfl, hc.symm, rfl⟩
  refine Step.make h ⟨?_, ?_, ?_⟩ ?_ (by simp) ⟨hb.os, hb.tape, hb.output, hb.size, fun c hc _ => hold c hc⟩ ?_
  · intro b hb
    simp at hb
    rw [jput_at, if_neg (by omega)]
    exact h.dom b (by omega)
  · intro b y p hb hp
    rcases hcase b y p hb hp with ⟨rfl, rfl, rfl⟩ | ⟨_, hb', hp'⟩
    · refine ⟨cur, T, (0, 0), hc, rfl, by simpa using hle0, fun i x hx => ?_, fun _ i _ hh => by simp at hh⟩
      obtain ⟨v, hv, hr⟩ := hl.at hx
      refine ⟨v, ?_, hr.mono hle⟩
      rw [List.getElem?_take] at hv
      split at hv
      · simpa using hv
      · cases hv
    · exact (h.blk b y p hb' hp').mono hle fun hx => hold _ (h.ltx hb' hx hp')
  · intro b b' y z p p' hb hy hb' hx hne hp hp'
    rcases hcase b y p hb hp with ⟨rfl, rfl, rfl⟩ | ⟨e1, h1, h2⟩ <;> rcases hcase b' z p' hb' hp' with ⟨rfl, rfl, rfl⟩ | ⟨e2, k1, k2⟩
    · exact absurd rfl hne
    · have := h.ltx k1 hx k2; dsimp only; omega
    · have := h.ltx h1 (own_nd hy) h2; dsimp only; omega
    · exact h.inj b b' y z p p' h1 hy k1 hx hne h2 k2
  · intro b hb
    rw [jput_at, if_neg (by omega)]
  · intro b y p hb hy hp
    rcases hcase b y p hb hp with ⟨rfl, rfl, rfl⟩ | ⟨_, hb', hp'⟩
    · exact .inl ⟨hg, rfl⟩
    · exact .inr ⟨b, y, p, hb', hy, hp', rfl, id, fun _ => ⟨rfl, rfl, rfl, rfl⟩⟩

mutual
theorem reA_free (g : Nat → Nat) : ∀ x : AV, free x = true → reA g x = x
  | .top, _ | .bool _, _ | .int _ _, _ | .str _, _ | .nilp, _ | .nils, _ | .nilm, _ | .nilf, _ => rfl
  | .ptr .., h | .slice .., h | .sl .., h | .map _, h | .yld _, h => by simp [free] at h
  | .func f xs ys, h => by simp at h; simp [reAs_free g xs h.1, reAs_free g ys h.2]
  | .agg l, h => by simp at h; simp [reAs_free g l h]
  | .tuple l, h => by simp at h; simp [reAs_free g l h]
theorem reAs_free (g : Nat → Nat) : ∀ xs : List AV, frees xs = true → reAs g xs = xs
  | [], _ => rfl
  | x :: xs, h => by simp at h; simp [reA_free g x h.1, reAs_free g xs h.2]
end

/-- At the end of the row it is an append. -/
theorem insEnd_ct (own : List En) (e : En) (hl : own.length ≤ 1000000) :
    Ct Try.prog 40 [.sl 0 0 own.length 3 false, .int .i64 own.length, .slice 1 0 1 3 true] [.cells true (ensA own), .cells true (enA e)] (.sl 2 0 (own.length + 1) 3 false) [.dead, .cells true (enA e), .cells true (ensA own ++ enA e)] := by
  have b1 : (own.length + 1) * 24 ≤ 140737488355328 := by omega
  have b2 : own.length + 1 ≤ 9223372036854775807 := by omega
  have hfr : frees (ensA own ++ [AV.str e.1, AV.int .u32 e.2.1, AV.bool e.2.2]) = true := by have := frees_ens (own ++ [e]); simpa [ensA, enA] using this
  refine ct_runE hmix goks_nil (n := 0) Try.func40 ?_
  unfold Try.f40
  exact ⟨_, _, (by simp [b1, b2, enA]; exact ⟨rfl, rfl⟩), Weak.mk' [0, 1, 2] (by decide) rfl (by simp) (by simp [enA, hfr])⟩

/-- slices.Insert of one entry that lies in a block of its own, plain memory. -/
theorem insE_call {j : Inj} {H : AHeap} {w : World} (hR : R j H w) {bo bv : Nat} {own : List En} {e : En} {i : Nat} (hbo : H[bo]? = some (.cells true (ensA own))) (hbv : H[bv]? = some (.cells true (enA e))) (hne : bo ≠ bv) (hi : i ≤ own.length) (hl : own.length ≤ 1000000)
    (hv : ∀ pv, j bv = some pv → pv.base = 0 ∧ ∃ cs T, w.heap[pv.blk]? = some (.cells cs T (0, 0))) {cargs : Array Value} (hargs : VRs j [.sl bo 0 own.length 3 false, .int .i64 i, .slice bv 0 1 3 true] cargs.toList) :
    Calls Try.prog 40 cargs w fun x w' => ∃ cv j', x = .returned cv ∧ VR j' (.sl H.length 0 (own.length + 1) 3 false) cv ∧ Step H.length j H w j' (H.set bo .dead ++ [.cells true (ensA (own.take i ++ e :: own.drop i))]) w' := by
  have hbol : bo < H.length := (List.getElem?_eq_some_iff.1 hbo).1
  have hbvl : bv < H.length := (List.getElem?_eq_some_iff.1 hbv).1
  have hbo' : H.getD bo .dead = .cells true (ensA own) := by rw [List.getD_eq_getElem?_getD, hbo]; rfl
  have hbv' : H.getD bv .dead = .cells true (enA e) := by rw [List.getD_eq_getElem?_getD, hbv]; rfl
  have hfe : frees (enA e) = true := rfl
  by_cases hin : i = own.length
  · subst hin
    have h := ct_frame (H := H) (args := [.sl bo 0 own.length 3 false, .int .i64 own.length, .slice bv 0 1 3 true]) (insEnd_ct own e hl) [bo, bv] (by simp [hne]) (by simp [AWs, AW]) (by
      refine ⟨?_, hbol, ?_, hbvl, trivial⟩
      · rw [hbo']; exact ⟨id, AWs.refl _ _ (frees_ens own)⟩
      · rw [hbv']; exact ⟨id, AWs.refl _ _ hfe⟩) (by simp [allOwn, ABlk.own])
    refine (h j w cargs hR hargs).mono ?_
    rintro x w' ⟨cv, j', rfl, h1, h2⟩
    refine ⟨cv, j', rfl, ?_, ?_⟩
    · simpa [reA, nameG] using h1
    · have e1 : (H.set bo .dead).set bv (.cells true (enA e)) = H.set bo .dead := by
        apply List.ext_getElem?
        intro k
        rw [List.getElem?_set]
        split
        · rename_i hk
          subst hk
          rw [if_pos (by simpa using hbvl), List.getElem?_set_ne hne, hbv]
        · rfl
      have e2 : ensA (own.take own.length ++ e :: own.drop own.length) = ensA own ++ enA e := by simp [ensA]
      have e3 : frees (ensA own ++ enA e) = true := by rw [← e2]; exact frees_ens _
      rw [e2]
      simpa [setOwn, ABlk.own, reB, reAs_free _ _ hfe, reAs_free _ _ e3, e1] using h2
  have hlt : i < own.length := by omega
  obtain ⟨cs0, vr, hcs0, hs, h1⟩ : ∃ v vs, cargs.toList = v :: vs ∧ VR j (.sl bo 0 own.length 3 false) v ∧ VRs j [.int .i64 i, .slice bv 0 1 3 true] vs := by
    obtain ⟨v, vs, e1, e2, e3⟩ := hargs; exact ⟨v, vs, e1, e2, e3⟩
  obtain ⟨ci, vr2, rfl, h2, cvv, vr3, rfl, h3, rfl⟩ := h1
  simp only [VR] at hs h2 h3
  subst h2
  rcases hs with ⟨h0, _⟩ | ⟨p, a, cap, hp, rfl, hcap, _, hmax, hroom⟩
  · omega
  rcases hroom with h0 | ⟨rfl, hsz⟩
  · omega
  obtain ⟨pv, av, capv, hpv, rfl, hcv, hcv2, _, hrv⟩ := h3
  have hcv3 := hcv2 trivial
  subst hcv3
  rcases hrv with h0 | ⟨rfl, hszv⟩
  · omega
  obtain ⟨hpb, csv, Tv, hwv⟩ := hv pv hpv
  obtain ⟨cs0, T0, fz0, g1, g2, g3, g4, g5⟩ := hR.blk bo _ p hbo hp
  obtain ⟨csv', Tv', fzv', k1, k2, k3, k4, k5⟩ := hR.blk bv _ pv hbv hpv
  rw [hwv] at k1
  cases k1
  have hblk : p.blk ≠ pv.blk := hR.inj bo bv _ _ p pv hbo rfl hbv (by simp) hne hp hpv
  obtain ⟨cs, hcsv, hcsl, hcs⟩ := hR.cells hbo hp 0 (own.length * 3) (by simp)
  obtain ⟨vs, hvsv, hvsl, hvs⟩ := hR.cells hbv hpv 0 3 (by simp [enA])
  rw [List.drop_zero, take_ensA] at hcsv
  rw [List.drop_zero, show List.take 3 (enA e) = enA e from rfl] at hvsv
  have hec : cargs = #[.slice (some ⟨p.blk, p.base + 0, none⟩) own.length cap, .int .i64 i, .slice (some ⟨pv.blk, 0, none⟩) 1 1] := by
    apply Array.ext'; rw [hcs0, hpb]
  subst hec
  have c1 : ∀ v ∈ cs, v.oneCell' = true := isCell_all (cells_ens own) hcsv
  have c2 : ∀ v ∈ vs, v.oneCell' = true := isCell_all (show (enA e).all isCell = true from rfl) hvsv
  have d1 : ∀ (k : Nat) v, cs[k]? = some v → w.cell? ⟨p.blk, p.base + 0 + k, none⟩ = some v := fun k v hk => by have := hcs k v hk; rwa [ptr_add] at this
  have d2 : ∀ (k : Nat) v, vs[k]? = some v → w.cell? ⟨pv.blk, k, none⟩ = some v := fun k v hk => by have := hvs k v hk; rw [ptr_add, hpb] at this; simpa using this
  have hcl2 : cs.length = own.length * 3 := hcsl
  have eL : ensA (own.take i ++ e :: own.drop i) = (ensA own).take (i * 3) ++ enA e ++ (ensA own).drop (i * 3) := by rw [ens_take, ens_drop]; simp [ensA]
  have hml : cap ≤ 9223372036854775807 := by unfold maxLen at hmax; omega
  rw [eL]
  by_cases hr : own.length + 1 ≤ cap
  · have hbig : ∀ k, k < (own.length + 1) * 3 → p.base + 0 + k < cs0.size := fun k hk => by
      have : (own.length + 1) * 3 ≤ cap * 3 := Nat.mul_le_mul_right _ hr
      omega
    refine (insE_shift p.blk (p.base + 0) own.length cap i pv.blk cs vs w hlt hr hml (Ne.symm hblk) hcl2 hvsl d1
      (fun k hk => by have := hbig k hk; simp [World.cell?, g1, Array.getElem?_eq_getElem (show p.base + k < cs0.size by omega)])
      (fun k hk => by
        have h6 := hbig k hk
        have h7 := g5 rfl (p.base + k) (by omega)
        simp only [World.frozen?, g1, Nat.add_zero, Bool.and_eq_false_iff, decide_eq_false_iff_not]
        omega)
      d2 c1 c2 Tv T0 csv.size cs0.size (by simp [World.shape?, hwv]) (by simp [World.shape?, g1]) (by have := hbig 0 (by omega); omega) (by simp [World.frozen?, hwv]) (by simp [World.frozen?, hwv])).mono ?_
    rintro x w' ⟨rfl, rfl⟩
    have st := shift_step (w := w.drew) (hR.heapEq rfl) hbo hp (i * 3) vs (cs.drop (i * 3)) (enA e) hvsv rfl (by rw [ensA_length]; omega) (by
      rw [ensA_length]
      have : (own.length + 1) * 3 ≤ cap * 3 := Nat.mul_le_mul_right _ hr
      omega) (VRs.drop hcsv (i * 3))
    refine ⟨_, _, rfl, ?_, step_drew (w := w) (by simpa [Nat.add_mul] using st)⟩
    simp only [VR]
    exact .inr ⟨_, _, cap, jput_same _ _ _, rfl, hr, by simp, hmax, .inr ⟨by simp, by simpa using hsz⟩⟩
  · refine (insE_grow p.blk (p.base + 0) own.length cap i pv.blk cs vs w hlt hcap (by omega) (by omega) hcl2 hvsl d1 d2 c1 c2).mono ?_
    rintro x w' ⟨rfl, rfl⟩
    obtain ⟨G, hG⟩ : ∃ G, G = grownCap w (own.length + 1) cap 24 := ⟨_, rfl⟩
    have hGn : own.length + 1 ≤ G := by rw [hG]; exact grownCap_ge w _ _ _
    have hGm : G ≤ maxLen := by rw [hG]; exact grownCap_le_maxLen w _ _ _ (by unfold maxLen; omega)
    rw [← hG]
    obtain ⟨ROW, hROW⟩ : ∃ ROW : Array Value, ROW = (cs.take (i * 3)).toArray ++ Builtin.zeroCells zE (own.length + 1 - i) ++ Builtin.zeroCells zE (G - (own.length + 1)) := ⟨_, rfl⟩
    rw [← hROW]
    have hzs : ∀ k, (Builtin.zeroCells zE k).size = k * 3 := fun k => by simp [Builtin.zeroCells, show zE.size = 3 from rfl]
    have hRs : ROW.size = G * 3 := by
      rw [hROW]
      simp only [Array.size_append, List.size_toArray, List.length_take, hzs]
      omega
    have hR0 : (w.alloc (.cells ROW 24)).drew.heap[w.heap.size]? = some (.cells ROW 24 (0, 0)) := by
      show (w.heap.push _)[_]? = _
      simp
    obtain ⟨A1, a1, a2, a3⟩ := heap_setCells w.heap.size vs (i * 3) _ ROW hR0
    obtain ⟨A2, b1, b2, b3⟩ := heap_setCells w.heap.size (cs.drop (i * 3)) ((i + 1) * 3) (((w.alloc (.cells ROW 24)).drew.setCells w.heap.size (i * 3) vs).drew) A1 a1
    obtain ⟨W2, hW2⟩ : ∃ W2, W2 = (((w.alloc (.cells ROW 24)).drew.setCells w.heap.size (i * 3) vs).drew).setCells w.heap.size ((i + 1) * 3) (cs.drop (i * 3)) := ⟨_, rfl⟩
    rw [← hW2] at b1 ⊢
    have hbelow : RowKit.Below w.heap.size w W2 := by
      obtain ⟨s1, s2, s3, s4⟩ := setCells_rest w.heap.size vs (i * 3) (w.alloc (.cells ROW 24)).drew
      obtain ⟨r1, r2, r3, r4⟩ := setCells_rest w.heap.size (cs.drop (i * 3)) ((i + 1) * 3) (((w.alloc (.cells ROW 24)).drew.setCells w.heap.size (i * 3) vs).drew)
      rw [← hW2] at r1 r2 r3 r4
      refine ⟨r1.trans s1, r2.trans s2, r3.trans s3, ?_, fun k hk => ?_⟩
      · rw [r4]
        show _ ≤ ((w.alloc (.cells ROW 24)).drew.setCells w.heap.size (i * 3) vs).heap.size
        rw [s4]
        show _ ≤ (w.heap.push _).size
        simp
      · rw [hW2, heap_setCells_other _ _ _ _ _ (by omega)]
        show ((w.alloc (.cells ROW 24)).drew.setCells w.heap.size (i * 3) vs).heap[k]? = _
        rw [heap_setCells_other _ _ _ _ _ (by omega)]
        show (w.heap.push _)[k]? = _
        rw [Array.getElem?_push, if_neg (by omega)]
    have hdl : (cs.drop (i * 3)).length = (own.length - i) * 3 := by rw [List.length_drop, hcl2]; omega
    have hG3 : (own.length + 1) * 3 ≤ G * 3 := Nat.mul_le_mul_right _ hGn
    have hcur : A2.toList.take ((own.length + 1) * 3) = cs.take (i * 3) ++ vs ++ cs.drop (i * 3) := by
      apply List.ext_getElem?
      intro k
      rw [List.getElem?_take]
      split
      · rename_i hk
        have hkA : k < A1.size := by omega
        rw [Array.getElem?_toList, b3 k hkA, a3 k (by omega), hdl, hvsl, List.append_assoc, List.getElem?_append, List.length_take, hcl2]
        by_cases h1 : k < i * 3
        · rw [if_neg (by omega), if_neg (by omega), if_pos (by omega), hROW, Array.append_assoc, Array.getElem?_append]
          rw [if_pos (by simp; omega)]
          simp
        · rw [if_neg (show ¬ k < min (i * 3) (own.length * 3) by omega), List.getElem?_append, hvsl]
          by_cases h2 : k < (i + 1) * 3
          · rw [if_neg (by omega), if_pos (by omega), if_pos (by omega), Nat.min_eq_left (by omega)]
          · rw [if_pos (by omega), if_neg (by omega), Nat.min_eq_left (by omega)]
            congr 1
            omega
      · rename_i hk
        rw [List.getElem?_eq_none]
        simp only [List.length_append, List.length_take, hdl, hvsl, hcl2]
        omega
    have hLl : ((ensA own).take (i * 3) ++ enA e ++ (ensA own).drop (i * 3)).length = (own.length + 1) * 3 := by
      simp only [List.length_append, List.length_take, List.length_drop, ensA_length, show (enA e).length = 3 from rfl]
      omega
    have st := step_rowE hR hbelow (Nat.le_refl _) b1 (l := (ensA own).take (i * 3) ++ enA e ++ (ensA own).drop (i * 3)) (by rw [hLl]; omega) (by
      rw [hLl, hcur]
      exact ((VRs.take hcsv (i * 3)).append hvsv).append (VRs.drop hcsv (i * 3)))
    have st2 := step_kill st.rel bo
    rw [List.set_append_left _ _ hbol] at st2
    refine ⟨_, _, rfl, ?_, st.trans st2 (by simp)⟩
    simp only [VR]
    exact .inr ⟨_, _, G, jput_same _ _ _, rfl, hGn, by simp, hGm, .inr ⟨by simp, by simp; omega⟩⟩

end Go.Proofs.Ytndkhkponamplaa
