/- Abstract append. -/
import Derived.Test.YtbbgmaklmlagcaaAn
namespace Go.Proofs.Ytbbgmaklmlagcaa

theorem step_kill {j : Inj} {H : AHeap} {w : World} (h : R j H w) (b : Nat) : Step H.length j H w j (H.set b .dead) w := by
  have hsub : ∀ (c : Nat) (y : ABlk), (H.set b .dead)[c]? = some y → y ≠ .dead → H[c]? = some y := by
    intro c y hc hy
    rw [List.getElem?_set] at hc
    split at hc
    · split at hc
      · cases hc; exact absurd rfl hy
      · cases hc
    · exact hc
  refine ⟨⟨fun c hc => h.dom c (by simpa using hc), fun c x p hc hp => ?_, fun c c' y x p p' hc hy hc' hd hne hp hp' => h.inj c c' y x p p' (hsub _ _ hc (own_nd hy)) hy (hsub _ _ hc' hd) hd hne hp hp'⟩, fun _ _ => rfl, by simp, Keeps.refl _ _ _, fun c y p hc hy hp => .inr ⟨c, y, p, hsub _ _ hc (own_nd hy), hy, hp, rfl⟩⟩
  cases x with
  | dead => trivial
  | cells o l => exact h.blk c _ p (hsub _ _ hc (by simp)) hp
  | loop _ _ _ _ _ _ => exact h.blk c _ p (hsub _ _ hc (by simp)) hp
  | map _ => exact h.blk c _ p (hsub _ _ hc (by simp)) hp

/-- A row goes on in its own place. -/
theorem step_room {j : Inj} {H : AHeap} {w : World} (h : R j H w) {b : Nat} {l : List AV} {p : JB} (hb : H[b]? = some (.cells true l)) (hp : j b = some p) (off : Nat) (hoff : off ≤ l.length) (xs : List AV) (vs : List Value)
    (hx : VRs j xs vs) (hn : p.base + l.length + xs.length ≤ p.size) :
    Step H.length j H w (jput j H.length ⟨p.blk, p.base + off, p.size⟩) (H.set b .dead ++ [.cells true (l.drop off ++ xs)]) (w.setCells p.blk (p.base + l.length) vs) := by
  obtain ⟨cs, T, fz, h1, h2, h3, h4, h5⟩ := h.blk b _ p hb hp
  have hlt : b < H.length := (List.getElem?_eq_some_iff.1 hb).1
  obtain ⟨cs', e1, e2, e3⟩ := heap_setCells p.blk vs (p.base + l.length) w cs h1
  obtain ⟨s1, s2, s3, s4⟩ := setCells_rest p.blk vs (p.base + l.length) w
  have hxl := (VRs_iff.1 hx).1
  have hnone : j H.length = none := h.dom _ (Nat.le_refl _)
  have hle : JLe j (jput j H.length ⟨p.blk, p.base + off, p.size⟩) := jput_le hnone
  have hcase : ∀ (c : Nat) (y : ABlk) (q : JB), (H.set b .dead ++ [ABlk.cells true (l.drop off ++ xs)])[c]? = some y → y ≠ .dead → jput j H.length ⟨p.blk, p.base + off, p.size⟩ c = some q →
      (c = H.length ∧ y = .cells true (l.drop off ++ xs) ∧ q = ⟨p.blk, p.base + off, p.size⟩) ∨ (H[c]? = some y ∧ j c = some q ∧ c ≠ b) := by
    intro c y q hc hy hq
    rw [List.getElem?_append] at hc
    split at hc <;> rename_i hlt'
    · simp at hlt'
      have hq' : j c = some q := by unfold jput at hq; rw [if_neg (by omega)] at hq; exact hq
      rw [List.getElem?_set] at hc
      by_cases hne : b = c
      · subst hne
        simp [hlt] at hc
        exact absurd hc.symm hy
      · rw [if_neg hne] at hc
        exact .inr ⟨hc, hq', fun e => hne e.symm⟩
    · simp at hlt' hc
      have hc0 : c = H.length := by
        rcases Nat.lt_or_ge (c - H.length) 1 with h6 | h6
        · omega
        · rw [List.getElem?_eq_none (by simpa using h6)] at hc; cases hc
      subst hc0
      simp at hc
      rw [jput_same] at hq
      cases hq
      exact .inl ⟨rfl, hc.symm, rfl⟩
  have hother : ∀ (c : Nat) (y : ABlk) (q : JB), H[c]? = some y → y ≠ .dead → j c = some q → c ≠ b → q.blk ≠ p.blk := fun c y q hc hy hq hne e => h.inj b c _ y p q hb rfl hc hy (Ne.symm hne) hp hq e.symm
  refine ⟨⟨?_, ?_, ?_⟩, ?_, by simp, ⟨s1, s2, s3, by omega, ?_⟩, ?_⟩
  · intro c hc
    simp at hc
    unfold jput
    rw [if_neg (by omega)]
    exact h.dom c (by omega)
  · intro c x q hc hq
    cases x with
    | dead => trivial
    | cells o m =>
      rcases hcase c _ q hc (by simp) hq with ⟨rfl, e, rfl⟩ | ⟨k1, k2, k3⟩
      · cases e
        refine ⟨cs', T, fz, e1, by rw [e2, h2], by simp; omega, fun i x hxi => ?_, h5⟩
        have hi := (List.getElem?_eq_some_iff.1 hxi).1
        simp at hi
        dsimp only
        rw [e3 _ (by omega)]
        rw [List.getElem?_append] at hxi
        split at hxi <;> rename_i hio
        · simp at hio
          rw [if_neg (by omega)]
          rw [List.getElem?_drop] at hxi
          obtain ⟨v, hv, hr⟩ := h4 _ x hxi
          exact ⟨v, by rw [show p.base + off + i = p.base + (off + i) by omega]; exact hv, hr.mono hle⟩
        · simp at hio
          rw [if_pos (by omega)]
          obtain ⟨v, hv, hr⟩ := hx.at hxi
          exact ⟨v, by rw [show p.base + off + i - (p.base + l.length) = i - (l.drop off).length by simp; omega]; exact hv, hr.mono hle⟩
      · exact (h.blk c _ q k1 k2).mono hle fun _ => heap_setCells_other _ _ _ _ _ (hother c _ q k1 (by simp) k2 k3)
    | loop _ _ _ _ _ _ =>
      rcases hcase c _ q hc (by simp) hq with ⟨rfl, e, rfl⟩ | ⟨k1, k2, k3⟩
      · cases e
      · exact (h.blk c _ q k1 k2).mono hle fun _ => heap_setCells_other _ _ _ _ _ (hother c _ q k1 (by simp) k2 k3)
    | map _ =>
      rcases hcase c _ q hc (by simp) hq with ⟨rfl, e, rfl⟩ | ⟨k1, k2, k3⟩
      · cases e
      · exact (h.blk c _ q k1 k2).mono hle fun _ => heap_setCells_other _ _ _ _ _ (hother c _ q k1 (by simp) k2 k3)
  · intro c c' l' x q q' hc hy hc' hd hne hq hq'
    rcases hcase c _ q hc (own_nd hy) hq with ⟨rfl, _, rfl⟩ | ⟨k1, k2, k3⟩ <;> rcases hcase c' _ q' hc' hd hq' with ⟨rfl, _, rfl⟩ | ⟨g1, g2, g3⟩
    · exact absurd rfl hne
    · exact (hother c' _ q' g1 hd g2 g3).symm
    · exact hother c _ q k1 (own_nd hy) k2 k3
    · exact h.inj c c' l' x q q' k1 hy g1 hd hne k2 g2
  · intro c hc
    unfold jput
    rw [if_neg (by omega)]
  · intro c _ ho
    exact heap_setCells_other _ _ _ _ _ (fun e => ho b _ p hb rfl hp e.symm)
  · intro c l' q hc hy hq
    rcases hcase c _ q hc (own_nd hy) hq with ⟨rfl, _, rfl⟩ | ⟨k1, k2, k3⟩
    · exact .inr ⟨b, _, p, hb, rfl, hp, rfl⟩
    · exact .inr ⟨c, l', q, k1, hy, k2, rfl⟩

/-- What is appended: so many elements, and their cells. -/
def srcA (H : AHeap) (sz : Nat) : AV → Option (Nat × List AV)
  | .nils => some (0, [])
  | .slice b off n sz' _ =>
    if sz' = sz then
      match H[b]? with
      | some (.cells _ l) => if off + n * sz ≤ l.length then some (n, (l.drop off).take (n * sz)) else none
      | _ => none
    else none
  | .sl b off n sz' _ =>
    if sz' = sz then
      match H[b]? with
      | some (.cells _ l) => if off + n * sz ≤ l.length then some (n, (l.drop off).take (n * sz)) else if n = 0 then some (0, []) else none
      | _ => if n = 0 then some (0, []) else none
    else none
  | _ => none

/-- Append slices. -/
def appendA0 (P : Program) (H : AHeap) (t : TypeId) (s x : AV) : Option (AV × AHeap) :=
  match P.underlying t with
  | some (.slice e) =>
    match sizeA P e, bytesSz P e, (zeroA P e).bind cellsA with
    | some isz, some iby, some z =>
      if z.length = isz ∧ 0 < isz then
        match srcA H isz x with
        | none => none
        | some (m, news) =>
          match s with
          | .nils => if m = 0 then some (s, H) else if news.all isCell ∧ m * iby ≤ 140737488355328 ∧ m ≤ 9223372036854775807 then some (.slice H.length 0 m isz false, H ++ [.cells true news]) else none
          | .slice b off len sz clip =>
            if m = 0 then some (s, H) else
            if sz = isz ∧ news.all isCell ∧ (len + m) * iby ≤ 140737488355328 ∧ len + m ≤ 9223372036854775807 then
              match H[b]? with
              | some (.cells own l) =>
                if clip then (if off + len * sz ≤ l.length then some (.slice H.length 0 (len + m) sz false, H ++ [.cells true ((l.drop off).take (len * sz) ++ news)]) else none)
                else if own && off + len * sz == l.length then some (.slice H.length 0 (len + m) sz false, H.set b .dead ++ [.cells true (l.drop off ++ news)]) else none
              | _ => none
            else none
          | _ => none
      else none
    | _, _, _ => none
  | _ => none

theorem src_run {j : Inj} {H : AHeap} {w : World} (hR : R j H w) {sz m : Nat} {x : AV} {cx : Value} {news : List AV} (h : srcA H sz x = some (m, news)) (hx : VR j x cx) :
    (m = 0 ∧ news = [] ∧ ∃ a c, cx = .slice a 0 c) ∨ (∃ vs ad c, 0 < m ∧ cx = .slice (some ad) m c ∧ VRs j news vs ∧ vs.length = m * sz ∧ ∀ (k : Nat) v, vs[k]? = some v → w.cell? (ad.add k) = some v) := by
  unfold srcA at h
  split at h
  · cases h
    simp only [VR] at hx
    exact .inl ⟨rfl, rfl, none, 0, hx⟩
  · rename_i b off n sz' c
    simp only [VR] at hx
    obtain ⟨p, ad, cap, hp, rfl, hlc, hclip, hm, hadr⟩ := hx
    split at h
    rotate_left
    · cases h
    rename_i hsz
    subst hsz
    split at h
    rotate_left
    · cases h
    rename_i own l hb
    split at h <;> cases h
    rename_i hle
    rcases Nat.eq_zero_or_pos m with h0 | h0
    · subst h0
      exact .inl ⟨rfl, by simp, _, _, rfl⟩
    · obtain ⟨vs, v1, v2, v3⟩ := hR.cells hb hp off (m * sz') hle
      rcases hadr with h1 | ⟨rfl, _⟩
      · omega
      exact .inr ⟨vs, _, _, h0, rfl, v1, v2, v3⟩
  · rename_i b off n sz' c
    split at h
    rotate_left
    · cases h
    rename_i hsz
    subst hsz
    have zero : n = 0 → some (0, ([] : List AV)) = some (m, news) → (m = 0 ∧ news = [] ∧ ∃ a c, cx = .slice a 0 c) := by
      intro hn0 e
      cases e
      subst hn0
      rcases VR_sl hx with ⟨_, hx'⟩ | hx'
      · exact ⟨rfl, rfl, none, 0, hx'⟩
      · simp only [VR] at hx'
        obtain ⟨p, ad, cap, hp, rfl, _⟩ := hx'
        exact ⟨rfl, rfl, _, _, rfl⟩
    split at h
    · rename_i own l hb
      split at h
      · rename_i hle
        by_cases hn0 : n = 0
        · subst hn0
          exact .inl (zero rfl (by rw [← h]; simp))
        · cases h
          have hx' := VR_sl_pos (by omega) hx
          simp only [VR] at hx'
          obtain ⟨p, ad, cap, hp, rfl, hlc, hclip, hm, hadr⟩ := hx'
          obtain ⟨vs, v1, v2, v3⟩ := hR.cells hb hp off (m * sz') hle
          rcases hadr with h1 | ⟨rfl, _⟩
          · omega
          exact .inr ⟨vs, _, _, by omega, rfl, v1, v2, v3⟩
      · split at h
        · exact .inl (zero ‹_› h)
        · cases h
    · split at h
      · exact .inl (zero ‹_› h)
      · cases h
  · cases h

theorem appendA0_ok {P : Program} {j : Inj} {H H' : AHeap} {w : World} (hR : R j H w) {t ty : TypeId} {s x r : AV} {cs cx : Value} (h : appendA0 P H t s x = some (r, H')) (hs : VR j s cs) (hx : VR j x cx) :
    ∃ cv j' w', (Builtin.append_ #[t, t] ty #[cs, cx]).run P w = .ok cv w' ∧ VR j' r cv ∧ Step H.length j H w j' H' w' := by
  unfold appendA0 at h
  split at h
  rotate_left
  · cases h
  rename_i e ht
  split at h
  rotate_left
  · cases h
  rename_i isz iby z hsi hby hz
  split at h
  rotate_left
  · cases h
  rename_i hzl
  obtain ⟨hzl, hsz0⟩ := hzl
  obtain ⟨za, hza, hzc⟩ := Option.bind_eq_some_iff.1 hz
  obtain ⟨i, cz, hi, hiz, hrz, hvz⟩ := zeroA_ok hza j w
  obtain ⟨i', hi', e1⟩ := Option.map_eq_some_iff.1 hsi
  rw [hi] at hi'
  cases hi'
  obtain ⟨i', hi', e2⟩ := Option.map_eq_some_iff.1 hby
  rw [hi] at hi'
  cases hi'
  subst e1; subst e2
  clear hby
  have hcz := cellsA_ok hzc hvz
  have hczl : cz.cells.size = i.size := by have := hcz.length; simp at this; omega
  split at h
  · cases h
  rename_i m news hsrc
  have hsr := src_run hR hsrc hx
  -- nothing is appended
  have hnil : ∀ a n c d, m = 0 → cs = .slice d n c → n ≤ c → cx = .slice a 0 0 ∨ cx = .slice a 0 (match cx with | .slice _ _ c => c | _ => 0) → (Builtin.append_ #[t, t] ty #[cs, cx]).run P w = .ok cs w := by
    intro a n c d hm hcs hnc hcx
    have hcx' : ∃ c', cx = .slice a 0 c' := by rcases hcx with h | h <;> exact ⟨_, h⟩
    obtain ⟨c', rfl⟩ := hcx'
    subst hcs
    cases d <;> cases a <;> simp [Builtin.append_, run_underlying ht, sizeOf, typeInfo, hi, Builtin.lenOf, Builtin.firstCells, hnc, loadCells, loadCellsFrom, storeCells]
  split at h
  · -- onto nil
    simp only [VR] at hs
    subst hs
    split at h
    · rename_i h0
      cases h
      subst h0
      rcases hsr with ⟨_, _, a, c, rfl⟩ | ⟨vs, ad, c, h1, _⟩
      · exact ⟨_, j, w, hnil a 0 0 none rfl rfl (Nat.le_refl _) (.inr rfl), by simp [VR], Step.refl hR (Nat.le_refl _)⟩
      · omega
    · rename_i h0
      split at h <;> cases h
      rename_i hc
      obtain ⟨hall, hby, hmx⟩ := hc
      rcases hsr with ⟨h1, _⟩ | ⟨vs, ad, c, h1, rfl, v1, v2, v3⟩
      · exact absurd h1 h0
      have hrun := run_append_nil (P := P) w t ty e i cz ht hi hiz ad m c vs v2 v3 h1 (by omega) (by omega)
      have hge := grownCap_ge w m 0 e
      have hnl : news.length = vs.length := v1.length
      refine ⟨_, _, _, hrun, ?_, step_newG (w' := w.drew.alloc _) hR true news _ e (0, 0) rfl rfl rfl rfl (by simp; omega) ?_ (fun _ k _ hh => by simp at hh)⟩
      · refine ⟨_, _, _, jput_same _ _ _, rfl, hge, by simp, grownCap_le_maxLen w m 0 e hmx, .inr ⟨rfl, ?_⟩⟩
        simp [Builtin.zeroCells, hczl, v2]
        rw [← Nat.add_mul]
        exact Nat.le_of_eq (by congr 1; omega)
      · rw [hnl]
        simp only [Array.toList_append]
        rw [List.take_append_of_le_length (Nat.le_refl _), List.take_length]
        exact v1
  · rename_i b off len sz clip
    simp only [VR] at hs
    obtain ⟨p, ad0, cap, hp, rfl, hlc, hclip, hcm, hadr⟩ := hs
    split at h
    · rename_i h0
      cases h
      subst h0
      rcases hsr with ⟨_, _, a, c, rfl⟩ | ⟨vs, ad, c, h1, _⟩
      · refine ⟨_, j, w, hnil a len cap _ rfl rfl hlc (.inr rfl), ?_, Step.refl hR (Nat.le_refl _)⟩
        simp only [VR]
        exact ⟨p, _, _, hp, rfl, hlc, hclip, hcm, hadr⟩
      · omega
    rename_i h0
    split at h
    rotate_left
    · cases h
    rename_i hc
    obtain ⟨rfl, hall, hby, hmx⟩ := hc
    rcases hsr with ⟨h1, _⟩ | ⟨vs, ad, c, h1, rfl, v1, v2, v3⟩
    · exact absurd h1 h0
    have hnl : news.length = vs.length := v1.length
    split at h
    rotate_left
    · cases h
    rename_i own l hb
    -- the row that grows
    have grow : ∀ (H1 : AHeap) (hR1 : R j H1 w) (hH1 : H1.length = H.length) (hst : Step H.length j H w j H1 w), off + len * i.size ≤ l.length → cap < len + m →
        ∃ cv j' w', (Builtin.append_ #[t, t] ty #[.slice (some ad0) len cap, .slice (some ad) m c]).run P w = .ok cv w' ∧ VR j' (.slice H.length 0 (len + m) i.size false) cv ∧ Step H.length j H w j' (H1 ++ [.cells true ((l.drop off).take (len * i.size) ++ news)]) w' := by
      intro H1 hR1 hH1 hst hfit hg
      obtain ⟨os, o1, o2, o3⟩ := hR.cells hb hp off (len * i.size) hfit
      have hold : ∀ (k : Nat) v, os[k]? = some v → w.cell? (ad0.add k) = some v := by
        intro k v hk
        have hkl := (List.getElem?_eq_some_iff.1 hk).1
        rcases hadr with h6 | ⟨rfl, _⟩
        · have : len = 0 := by omega
          subst this
          simp at o2
          rw [o2] at hkl
          simp at hkl
        · exact o3 k v hk
      have hrun := run_append_grow (P := P) w t ty e i cz ht hi hiz ad0 len cap os o2 hold ad m c vs v2 v3 hg (by omega) (growslice_fits hg hby)
      have hge := grownCap_ge w (len + m) cap e
      have hall2 := o1.append v1
      have hlen2 := hall2.length
      refine ⟨_, _, _, hrun, ?_, hst.trans (step_newG (w' := w.drew.alloc _) hR1 true ((l.drop off).take (len * i.size) ++ news) _ e (0, 0) rfl rfl rfl rfl (by rw [hlen2]; simp) ?_ (fun _ k _ hh => by simp at hh)) (by omega)⟩
      · rw [← hH1]
        refine ⟨_, _, _, jput_same _ _ _, rfl, hge, by simp, grownCap_le_maxLen w (len + m) cap e hmx, .inr ⟨rfl, ?_⟩⟩
        simp [Builtin.zeroCells, hczl, v2, o2]
        rw [← Nat.add_mul, ← Nat.add_mul]
        exact Nat.le_of_eq (by congr 1; omega)
      · have e9 : (os.toArray ++ vs.toArray ++ Builtin.zeroCells cz.cells (grownCap w (len + m) cap e - (len + m))).toList.take ((l.drop off).take (len * i.size) ++ news).length = os ++ vs := by
          rw [hlen2]
          simp only [Array.toList_append]
          rw [List.take_append_of_le_length (by simp), List.take_of_length_le (by simp)]
        rw [e9]
        exact hall2
    split at h
    · rename_i hcl
      split at h <;> cases h
      rename_i hfit
      exact grow H hR rfl (Step.refl hR (Nat.le_refl _)) hfit (by have := hclip hcl; omega)
    · split at h <;> cases h
      rename_i hown
      simp only [Bool.and_eq_true, beq_iff_eq] at hown
      obtain ⟨rfl, hend⟩ := hown
      rcases Nat.lt_or_ge cap (len + m) with hg | hg
      · have := grow (H.set b .dead) (step_kill hR b).rel (by simp) (step_kill hR b) (by omega) hg
        rw [List.take_of_length_le (by simp; omega)] at this
        exact this
      · rcases hadr with h6 | ⟨rfl, hroom⟩
        · omega
        obtain ⟨cs, T, fz, g1, g2, g3, g4, g5⟩ := hR.blk b _ p hb hp
        have hmul : (len + m) * i.size ≤ cap * i.size := Nat.mul_le_mul_right _ hg
        rw [Nat.add_mul] at hmul
        have hrun := run_append_room_cells (P := P) w t ty e i ht hi p.blk (p.base + off) len cap ad m c vs v2 v3 (isCell_all hall v1) hg
          (fun k hk => by
            simp [World.cell?, g1]
            omega)
          (fun k hk => by
            have := g5 rfl (p.base + off + len * i.size + k) (by omega)
            obtain ⟨f1, f2⟩ := fz
            simp [World.frozen?, g1] at this ⊢
            omega)
        have hstep := step_room hR hb hp off (by omega) news vs v1 (by omega)
        rw [show p.base + off + len * i.size = p.base + l.length by omega] at hrun
        refine ⟨_, _, _, hrun, ?_, hstep⟩
        refine ⟨_, _, _, jput_same _ _ _, rfl, hg, by simp, hcm, .inr ⟨rfl, ?_⟩⟩
        simp only [Nat.add_zero]
        omega
  · cases h

/-- Of a row, less is known. -/
theorem step_trunc {j : Inj} {H : AHeap} {w : World} (h : R j H w) (b : Nat) {own : Bool} {l : List AV} (hb : H[b]? = some (.cells own l)) (k : Nat) : Step H.length j H w j (H.set b (.cells own (l.take k))) w := by
  have hlt : b < H.length := (List.getElem?_eq_some_iff.1 hb).1
  have hof : ∀ (c : Nat) (z : ABlk), (H.set b (.cells own (l.take k)))[c]? = some z → (c = b ∧ z = .cells own (l.take k)) ∨ H[c]? = some z := by
    intro c z hc
    rw [List.getElem?_set] at hc
    by_cases e : b = c
    · subst e
      simp [hlt] at hc
      exact .inl ⟨rfl, hc.symm⟩
    · rw [if_neg e] at hc
      exact .inr hc
  have hback : ∀ (c : Nat) (z : ABlk), (H.set b (.cells own (l.take k)))[c]? = some z → ∃ z', H[c]? = some z' ∧ (z.own = true → z'.own = true) ∧ (z ≠ .dead → z' ≠ .dead) := by
    intro c z hc
    rcases hof c z hc with ⟨rfl, rfl⟩ | h1
    · exact ⟨_, hb, fun ho => ho, fun _ => by simp⟩
    · exact ⟨z, h1, id, id⟩
  refine ⟨⟨fun c hc => h.dom c (by simpa using hc), fun c z p hc hp => ?_, fun c c' y z p p' hc hy hc' hd hne hp hp' => ?_⟩, fun _ _ => rfl, by simp, Keeps.refl _ _ _, fun c y p hc hy hp => ?_⟩
  · rcases hof c z hc with ⟨rfl, rfl⟩ | h1
    · obtain ⟨cs, T, fz, g1, g2, g3, g4, g5⟩ := h.blk c _ p hb hp
      refine ⟨cs, T, fz, g1, g2, by simp; omega, fun i x hx => ?_, g5⟩
      rw [List.getElem?_take] at hx
      split at hx
      · exact g4 i x hx
      · cases hx
    · exact h.blk c z p h1 hp
  · obtain ⟨y', k1, k2, _⟩ := hback c y hc
    obtain ⟨z', g1, _, g2⟩ := hback c' z hc'
    exact h.inj c c' y' z' p p' k1 (k2 hy) g1 (g2 hd) hne hp hp'
  · obtain ⟨y', k1, k2, _⟩ := hback c y hc
    exact .inr ⟨c, y', p, k1, k2 hy, hp, rfl⟩

/-- Append onto a part of a row of its own: what stood behind it is no more known. -/
def appendB (P : Program) (H : AHeap) (t : TypeId) (s x : AV) : Option (AV × AHeap) :=
  match s with
  | .slice b off len sz false =>
    match H[b]? with
    | some (.cells true l) => if off + len * sz < l.length then appendA0 P (H.set b (.cells true (l.take (off + len * sz)))) t s x else appendA0 P H t s x
    | _ => appendA0 P H t s x
  | s => appendA0 P H t s x

theorem appendB_ok {P : Program} {j : Inj} {H H' : AHeap} {w : World} (hR : R j H w) {t ty : TypeId} {s x r : AV} {cs cx : Value} (h : appendB P H t s x = some (r, H')) (hs : VR j s cs) (hx : VR j x cx) :
    ∃ cv j' w', (Builtin.append_ #[t, t] ty #[cs, cx]).run P w = .ok cv w' ∧ VR j' r cv ∧ Step H.length j H w j' H' w' := by
  unfold appendB at h
  split at h
  · split at h
    · rename_i hb
      split at h
      · obtain ⟨cv, j', w', h1, h2, h3⟩ := appendA0_ok (ty := ty) (step_trunc hR _ hb _).rel h hs hx
        exact ⟨cv, j', w', h1, h2, (step_trunc hR _ hb _).trans h3 (by simp)⟩
      · exact appendA0_ok hR h hs hx
    · exact appendA0_ok hR h hs hx
  · exact appendA0_ok hR h hs hx

/-- Append slices, onto what may be nil too. -/
def appendS (P : Program) (H : AHeap) (t : TypeId) (s x : AV) : Option (AV × AHeap) :=
  match s with
  | .sl b off len sz clip =>
    match P.underlying t with
    | some (.slice e) =>
      match sizeA P e, srcA H sz x with
      | some isz, some (m, _) =>
        if isz = sz then
          if m = 0 then (appendA0 P H t .nils x).map fun _ => (.sl b off len sz clip, H)
          else match H[b]? with
            | some (.cells own l) => if clip || (own && off + len * sz == l.length) then appendA0 P H t (.slice b off len sz clip) x else none
            | _ => none
        else none
      | _, _ => none
    | _ => none
  | s => appendB P H t s x

theorem appendS_ok {P : Program} {j : Inj} {H H' : AHeap} {w : World} (hR : R j H w) {t ty : TypeId} {s x r : AV} {cs cx : Value} (h : appendS P H t s x = some (r, H')) (hs : VR j s cs) (hx : VR j x cx) :
    ∃ cv j' w', (Builtin.append_ #[t, t] ty #[cs, cx]).run P w = .ok cv w' ∧ VR j' r cv ∧ Step H.length j H w j' H' w' := by
  unfold appendS at h
  split at h
  rotate_left
  · exact appendB_ok hR h hs hx
  rename_i b off len sz clip
  split at h
  rotate_left
  · cases h
  rename_i e ht
  split at h
  rotate_left
  · cases h
  rename_i isz m news hsi hsrc
  split at h
  rotate_left
  · cases h
  rename_i hss
  subst hss
  have onnil : ∀ r1 H1, appendA0 P H t .nils x = some (r1, H1) → (m = 0 → r1 = .nils ∧ H1 = H) ∧ (m ≠ 0 → r1 = .slice H.length 0 m isz false ∧ H1 = H ++ [.cells true news]) := by
    intro r1 H1 h1
    unfold appendA0 at h1
    rw [ht] at h1
    dsimp only at h1
    split at h1
    rotate_left
    · cases h1
    rename_i isz' iby z hsi' hby hz
    rw [hsi] at hsi'
    cases hsi'
    split at h1
    rotate_left
    · cases h1
    rw [hsrc] at h1
    dsimp only at h1
    split at h1
    · rename_i h0
      cases h1
      exact ⟨fun _ => ⟨rfl, rfl⟩, fun hn => absurd h0 hn⟩
    · rename_i h0
      split at h1 <;> cases h1
      exact ⟨fun hm => absurd hm h0, fun _ => ⟨rfl, rfl⟩⟩
  split at h
  · rename_i hm
    subst hm
    obtain ⟨⟨r1, H1⟩, h1, e1⟩ := Option.map_eq_some_iff.1 h
    cases e1
    obtain ⟨rfl, rfl⟩ := (onnil r1 H1 h1).1 rfl
    rcases VR_sl hs with ⟨rfl, rfl⟩ | hs'
    · obtain ⟨cv, j', w', g1, g2, g3⟩ := appendA0_ok (ty := ty) (cs := .slice none 0 0) hR h1 (by simp [VR]) hx
      simp only [VR] at g2
      subst g2
      exact ⟨_, j', w', g1, .inl ⟨rfl, rfl⟩, g3⟩
    · -- nothing is appended to a slice
      simp only [VR] at hs'
      obtain ⟨p, ad0, cap, hp, rfl, hlc, hclip, hcm, hadr⟩ := hs'
      obtain ⟨i, hi, e1⟩ := Option.map_eq_some_iff.1 hsi
      rcases src_run hR hsrc hx with ⟨_, _, a, c, rfl⟩ | ⟨vs, ad, c, h2, _⟩
      · refine ⟨.slice (some ad0) len cap, j, w, ?_, .inr ⟨p, ad0, cap, hp, rfl, hlc, hclip, hcm, hadr⟩, Step.refl hR (Nat.le_refl _)⟩
        cases a <;> simp [Builtin.append_, run_underlying ht, sizeOf, typeInfo, hi, Builtin.lenOf, Builtin.firstCells, hlc, loadCells, loadCellsFrom, storeCells]
      · omega
  · rename_i hm
    split at h
    rotate_left
    · cases h
    rename_i own l hb
    split at h
    rotate_left
    · cases h
    rename_i hcond
    rcases VR_sl hs with ⟨rfl, rfl⟩ | hs'
    rotate_left
    · exact appendA0_ok hR h hs' hx
    -- onto nil
    have hres : ∃ r1 H1, appendA0 P H t .nils x = some (r1, H1) ∧ r = .slice H.length 0 m isz false ∧ ((H' = H1) ∨ (H' = H1.set b .dead)) := by
      have hb' : b < H.length := (List.getElem?_eq_some_iff.1 hb).1
      unfold appendA0 at h ⊢
      rw [ht] at h ⊢
      dsimp only at h ⊢
      split at h
      rotate_left
      · cases h
      rename_i isz' iby z hsi' hby hz
      rw [hsi] at hsi'
      cases hsi'
      split at h
      rotate_left
      · cases h
      rename_i hzl
      rw [if_pos hzl]
      rw [hsrc] at h ⊢
      dsimp only at h ⊢
      rw [if_neg hm] at h ⊢
      split at h
      rotate_left
      · cases h
      rename_i hc
      rw [if_pos ⟨hc.2.1, by simpa using hc.2.2.1, by simpa using hc.2.2.2⟩]
      rw [hb] at h
      dsimp only at h
      split at h
      · split at h <;> cases h
        exact ⟨_, _, rfl, by simp, .inl (by simp)⟩
      · rename_i hcl
        split at h <;> cases h
        rename_i hown
        simp only [Bool.and_eq_true, beq_iff_eq] at hown
        refine ⟨_, _, rfl, by simp, .inr ?_⟩
        rw [List.set_append_left _ _ hb', List.drop_of_length_le (by omega)]
        rfl
    obtain ⟨r1, H1, h1, rfl, hH⟩ := hres
    obtain ⟨rfl, rfl⟩ := (onnil r1 H1 h1).2 hm
    obtain ⟨cv, j', w', g1, g2, g3⟩ := appendA0_ok (ty := ty) (cs := .slice none 0 0) hR h1 (by simp [VR]) hx
    rcases hH with rfl | rfl
    · exact ⟨cv, j', w', g1, g2, g3⟩
    · exact ⟨cv, j', w', g1, g2, g3.trans (step_kill g3.rel b) (by simp)⟩

/-- A block that is not there. -/
theorem step_ghost {j : Inj} {H : AHeap} {w : World} (h : R j H w) (x : ABlk) : Step H.length j H w j (H ++ [x]) w := by
  have hn : j H.length = none := h.dom _ (Nat.le_refl _)
  have hof : ∀ (c : Nat) (z : ABlk) (p : JB), (H ++ [x])[c]? = some z → j c = some p → H[c]? = some z := by
    intro c z p hc hp
    rw [List.getElem?_append] at hc
    split at hc
    · exact hc
    · rename_i hlt
      rw [h.dom c (by omega)] at hp
      cases hp
  exact ⟨⟨fun c hc => h.dom c (by simp at hc; omega), fun c z p hc hp => h.blk c z p (hof c z p hc hp) hp, fun c c' y z p p' hc hy hc' hd hne hp hp' => h.inj c c' y z p p' (hof _ _ _ hc hp) hy (hof _ _ _ hc' hp') hd hne hp hp'⟩, fun _ _ => rfl, by simp, Keeps.refl _ _ _, fun c y p hc hy hp => .inr ⟨c, y, p, hof _ _ _ hc hp, hy, hp, rfl⟩⟩

/-- A row has another name. -/
theorem step_alias {j : Inj} {H : AHeap} {w : World} (h : R j H w) {b : Nat} {l : List AV} (hb : H[b]? = some (.cells true l)) (off : Nat) (hoff : off ≤ l.length) :
    Step H.length j H w (match j b with | some p => jput j H.length ⟨p.blk, p.base + off, p.size⟩ | none => j) (H.set b .dead ++ [.cells true (l.drop off)]) w := by
  have hbl : b < H.length := (List.getElem?_eq_some_iff.1 hb).1
  cases hp : j b with
  | none =>
    dsimp only
    have h1 := step_kill h b
    have h2 := step_ghost h1.rel (.cells true (l.drop off))
    exact h1.trans h2 (by simp)
  | some p =>
    dsimp only
    obtain ⟨cs, T, fz, g1, g2, g3, g4, g5⟩ := h.blk b _ p hb hp
    have := step_room h hb hp off hoff [] [] rfl (by simp; omega)
    simpa [World.setCells] using this

/-- Append onto a row of its own that may be nil: whatever is appended, the row has a new name behind it. -/
def appendM (P : Program) (H : AHeap) (t : TypeId) (b off len sz : Nat) (x : AV) : Option (AV × AHeap) :=
  match P.underlying t with
  | some (.slice e) =>
    match H[b]? with
    | some (.cells true l) =>
      match sizeA P e, bytesSz P e, (zeroA P e).bind cellsA, srcA (H.set b (.cells true (l.take (off + len * sz)))) sz x with
      | some isz, some iby, some z, some (m, news) =>
        if z.length = isz ∧ 0 < isz ∧ isz = sz ∧ off + len * sz ≤ l.length ∧ news.all isCell ∧ (len + m) * iby ≤ 140737488355328 ∧ len + m ≤ 9223372036854775807 then
          some (.sl H.length 0 (len + m) sz false, H.set b .dead ++ [.cells true ((l.drop off).take (len * sz) ++ news)])
        else none
      | _, _, _, _ => none
    | _ => none
  | _ => none

theorem appendM_ok {P : Program} {j : Inj} {H H' : AHeap} {w : World} (hR : R j H w) {t ty : TypeId} {b off len sz : Nat} {x r : AV} {cs cx : Value} (h : appendM P H t b off len sz x = some (r, H')) (hs : VR j (.sl b off len sz false) cs) (hx : VR j x cx) :
    ∃ cv j' w', (Builtin.append_ #[t, t] ty #[cs, cx]).run P w = .ok cv w' ∧ VR j' r cv ∧ Step H.length j H w j' H' w' := by
  unfold appendM at h
  split at h
  rotate_left
  · cases h
  rename_i e ht
  split at h
  rotate_left
  · cases h
  rename_i l hb
  split at h
  rotate_left
  · cases h
  rename_i isz iby z m news hsi hby hz hsrc
  split at h <;> cases h
  rename_i hc
  obtain ⟨c1, c2, rfl, c4, c5, c6, c7⟩ := hc
  have hbl : b < H.length := (List.getElem?_eq_some_iff.1 hb).1
  obtain ⟨H1, hH1⟩ : ∃ H1, H1 = H.set b (.cells true (l.take (off + len * isz))) := ⟨_, rfl⟩
  have st1 := step_trunc hR b hb (off + len * isz)
  rw [← hH1] at st1 hsrc
  have hb1 : H1[b]? = some (.cells true (l.take (off + len * isz))) := by rw [hH1, List.getElem?_set_self hbl]
  have hlen1 : H1.length = H.length := by rw [hH1]; simp
  have hset : H1.set b .dead = H.set b .dead := by rw [hH1, List.set_set]
  have hcut : (l.take (off + len * isz)).drop off = (l.drop off).take (len * isz) := by
    rw [List.drop_take, Nat.add_sub_cancel_left]
  have hl1 : (l.take (off + len * isz)).length = off + len * isz := by simp; omega
  by_cases hm : m = 0
  · subst hm
    have hn : news = [] := by
      rcases src_run st1.rel hsrc hx with ⟨_, h2, _⟩ | ⟨_, _, _, h2, _⟩
      · exact h2
      · omega
    subst hn
    have hA : appendS P H1 t (.sl b off len isz false) x = some (.sl b off len isz false, H1) := by
      unfold appendS
      simp only [ht, hsi, hsrc, if_true]
      unfold appendA0
      simp only [ht, hsi, hby, hz, hsrc, if_true, c1, c2, and_self, Option.map_some]
    obtain ⟨cv, j', w', g1, g2, g3⟩ := appendS_ok (ty := ty) st1.rel hA hs hx
    have st2 := step_alias g3.rel hb1 off (by omega)
    rw [hcut, hset, hlen1] at st2
    refine ⟨cv, _, w', g1, ?_, (st1.trans g3 (by omega)).trans (by simpa using st2) (by omega)⟩
    rcases VR_sl g2 with ⟨k1, k2⟩ | k
    · exact .inl ⟨by omega, k2⟩
    · simp only [VR] at k
      obtain ⟨p, a, cap, hp, k2, k3, k4, k5, k6⟩ := k
      rw [hp]
      exact .inr ⟨_, a, cap, jput_same _ _ _, by simpa using k2, by simpa using k3, by simp, k5, by simpa using k6⟩
  · have hA : appendS P H1 t (.sl b off len isz false) x = some (.slice H.length 0 (len + m) isz false, H.set b .dead ++ [.cells true ((l.drop off).take (len * isz) ++ news)]) := by
      unfold appendS
      simp only [ht, hsi, hsrc, if_true, hm, if_false, hb1, hl1]
      unfold appendA0
      simp only [ht, hsi, hby, hz, hsrc, if_true, hm, if_false, c1, c2, and_self, hb1, hl1, c5, c6, c7, hset, hlen1, hcut, Bool.false_eq_true, Bool.true_and, BEq.rfl, Bool.or_true]
    obtain ⟨cv, j', w', g1, g2, g3⟩ := appendS_ok (ty := ty) st1.rel hA hs hx
    exact ⟨cv, j', w', g1, VR_sl_of g2, st1.trans g3 (by omega)⟩

/-- The same onto one that is not nil. -/
def appendN (P : Program) (H : AHeap) (t : TypeId) (b off len sz : Nat) (x : AV) : Option (AV × AHeap) :=
  match appendM P H t b off len sz x with
  | some (.sl b' o' l' s' c', H') => some (.slice b' o' l' s' c', H')
  | _ => none

theorem appendN_ok {P : Program} {j : Inj} {H H' : AHeap} {w : World} (hR : R j H w) {t ty : TypeId} {b off len sz : Nat} {x r : AV} {cs cx : Value} (h : appendN P H t b off len sz x = some (r, H')) (hs : VR j (.slice b off len sz false) cs) (hx : VR j x cx) :
    ∃ cv j' w', (Builtin.append_ #[t, t] ty #[cs, cx]).run P w = .ok cv w' ∧ VR j' r cv ∧ Step H.length j H w j' H' w' := by
  unfold appendN at h
  split at h
  rotate_left
  · cases h
  rename_i b' o' l' s' c' H1' hM
  cases h
  unfold appendM at hM
  split at hM
  rotate_left
  · cases hM
  rename_i e ht
  split at hM
  rotate_left
  · cases hM
  rename_i l hb
  split at hM
  rotate_left
  · cases hM
  rename_i isz iby z m news hsi hby hz hsrc
  split at hM <;> cases hM
  rename_i hc
  obtain ⟨c1, c2, rfl, c4, c5, c6, c7⟩ := hc
  have hbl : b < H.length := (List.getElem?_eq_some_iff.1 hb).1
  obtain ⟨H1, hH1⟩ : ∃ H1, H1 = H.set b (.cells true (l.take (off + len * isz))) := ⟨_, rfl⟩
  have st1 := step_trunc hR b hb (off + len * isz)
  rw [← hH1] at st1 hsrc
  have hb1 : H1[b]? = some (.cells true (l.take (off + len * isz))) := by rw [hH1, List.getElem?_set_self hbl]
  have hlen1 : H1.length = H.length := by rw [hH1]; simp
  have hset : H1.set b .dead = H.set b .dead := by rw [hH1, List.set_set]
  have hcut : (l.take (off + len * isz)).drop off = (l.drop off).take (len * isz) := by
    rw [List.drop_take, Nat.add_sub_cancel_left]
  have hl1 : (l.take (off + len * isz)).length = off + len * isz := by simp; omega
  by_cases hm : m = 0
  · subst hm
    have hn : news = [] := by
      rcases src_run st1.rel hsrc hx with ⟨_, h2, _⟩ | ⟨_, _, _, h2, _⟩
      · exact h2
      · omega
    subst hn
    have hA : appendA0 P H1 t (.slice b off len isz false) x = some (.slice b off len isz false, H1) := by
      unfold appendA0
      simp only [ht, hsi, hby, hz, hsrc, if_true, c1, c2, and_self]
    obtain ⟨cv, j', w', g1, g2, g3⟩ := appendA0_ok (ty := ty) st1.rel hA hs hx
    have st2 := step_alias g3.rel hb1 off (by omega)
    rw [hcut, hset, hlen1] at st2
    refine ⟨cv, _, w', g1, ?_, (st1.trans g3 (by omega)).trans (by simpa using st2) (by omega)⟩
    simp only [VR] at g2
    obtain ⟨p, a, cap, hp, k2, k3, k4, k5, k6⟩ := g2
    rw [hp]
    exact ⟨_, a, cap, jput_same _ _ _, by simpa using k2, by simpa using k3, by simp, k5, by simpa using k6⟩
  · have hA : appendA0 P H1 t (.slice b off len isz false) x = some (.slice H.length 0 (len + m) isz false, H.set b .dead ++ [.cells true ((l.drop off).take (len * isz) ++ news)]) := by
      unfold appendA0
      simp only [ht, hsi, hby, hz, hsrc, if_true, hm, if_false, c1, c2, and_self, hb1, hl1, c5, c6, c7, hset, hlen1, hcut, Bool.false_eq_true, Bool.true_and, BEq.rfl]
    obtain ⟨cv, j', w', g1, g2, g3⟩ := appendA0_ok (ty := ty) st1.rel hA hs hx
    exact ⟨cv, j', w', g1, g2, st1.trans g3 (by omega)⟩

/-- Append onto nil what may be empty. -/
def appendU (P : Program) (H : AHeap) (t : TypeId) (x : AV) : Option (AV × AHeap) :=
  match P.underlying t with
  | some (.slice e) =>
    match sizeA P e, bytesSz P e, (zeroA P e).bind cellsA with
    | some isz, some iby, some z =>
      match srcA H isz x with
      | some (m, news) => if z.length = isz ∧ 0 < isz ∧ news.all isCell ∧ m * iby ≤ 140737488355328 ∧ m ≤ 9223372036854775807 then some (.sl H.length 0 m isz false, H ++ [.cells true news]) else none
      | none => none
    | _, _, _ => none
  | _ => none

theorem appendU_ok {P : Program} {j : Inj} {H H' : AHeap} {w : World} (hR : R j H w) {t ty : TypeId} {x r : AV} {cs cx : Value} (h : appendU P H t x = some (r, H')) (hs : VR j .nils cs) (hx : VR j x cx) :
    ∃ cv j' w', (Builtin.append_ #[t, t] ty #[cs, cx]).run P w = .ok cv w' ∧ VR j' r cv ∧ Step H.length j H w j' H' w' := by
  unfold appendU at h
  split at h
  rotate_left
  · cases h
  rename_i e ht
  split at h
  rotate_left
  · cases h
  rename_i isz iby z hsi hby hz
  split at h
  rotate_left
  · cases h
  rename_i m news hsrc
  split at h <;> cases h
  rename_i hc
  obtain ⟨c1, c2, c5, c6, c7⟩ := hc
  by_cases hm : m = 0
  · subst hm
    have hn : news = [] := by
      rcases src_run hR hsrc hx with ⟨_, h2, _⟩ | ⟨_, _, _, h2, _⟩
      · exact h2
      · omega
    subst hn
    have hA : appendA0 P H t .nils x = some (.nils, H) := by
      unfold appendA0
      simp only [ht, hsi, hby, hz, hsrc, if_true, c1, c2, and_self]
    obtain ⟨cv, j', w', g1, g2, g3⟩ := appendA0_ok (ty := ty) hR hA hs hx
    exact ⟨cv, j', w', g1, .inl ⟨rfl, g2⟩, g3.trans (step_ghost g3.rel _) (Nat.le_refl _)⟩
  · have hA : appendA0 P H t .nils x = some (.slice H.length 0 m isz false, H ++ [.cells true news]) := by
      unfold appendA0
      simp only [ht, hsi, hby, hz, hsrc, if_true, hm, if_false, c1, c2, and_self, c5, c6, c7]
    obtain ⟨cv, j', w', g1, g2, g3⟩ := appendA0_ok (ty := ty) hR hA hs hx
    exact ⟨cv, j', w', g1, VR_sl_of g2, g3⟩

/-- Append slices, onto what may be nil too. -/
def appendA (P : Program) (H : AHeap) (t : TypeId) (s x : AV) : Option (AV × AHeap) :=
  match s with
  | .sl b off len sz false => appendM P H t b off len sz x
  | .slice b off len sz false => match appendN P H t b off len sz x with
    | some r => some r
    | none => appendS P H t s x
  | .nils => match x with
    | .sl b off n sz c => appendU P H t (.sl b off n sz c)
    | x => appendS P H t .nils x
  | s => appendS P H t s x

theorem appendA_ok {P : Program} {j : Inj} {H H' : AHeap} {w : World} (hR : R j H w) {t ty : TypeId} {s x r : AV} {cs cx : Value} (h : appendA P H t s x = some (r, H')) (hs : VR j s cs) (hx : VR j x cx) :
    ∃ cv j' w', (Builtin.append_ #[t, t] ty #[cs, cx]).run P w = .ok cv w' ∧ VR j' r cv ∧ Step H.length j H w j' H' w' := by
  unfold appendA at h
  split at h
  · exact appendM_ok hR h hs hx
  · split at h
    · rename_i hN
      cases h
      exact appendN_ok hR hN hs hx
    · exact appendS_ok hR h hs hx
  · split at h
    · exact appendU_ok hR h hs hx
    · exact appendS_ok hR h hs hx
  · exact appendS_ok hR h hs hx

/-- append(nil, make(..)...): so many zeros. -/
def appendZ (P : Program) (H : AHeap) (t u : TypeId) (s x : AV) : Option (AV × AHeap) :=
  match P.underlying t, P.underlying u, s, x with
  | some (.slice e), some (.int _), .nils, .int _ n =>
    match sizeA P e, bytesSz P e, (zeroA P e).bind cellsA with
    | some isz, some iby, some z =>
      if z.length = isz ∧ 0 < isz ∧ 0 < n ∧ n.toNat * iby ≤ 140737488355328 ∧ n.toNat ≤ 9223372036854775807 then some (.slice H.length 0 n.toNat isz false, H ++ [.cells true (zerosA z n.toNat)]) else none
    | _, _, _ => none
  | _, _, _, _ => none

theorem run_append_nil_zeros {P : Program} (w : World) (t u ty e : TypeId) (k k' : IntKind) (i : TypeInfo) (z : Value) (ht : P.underlying t = some (.slice e)) (hu : P.underlying u = some (.int k)) (hi : P.info? e = some i) (hz : i.zero = some z)
    (n : Nat) (h0 : 0 < n) (hs : 0 < i.size) (h63 : n ≤ 9223372036854775807) (h48 : n * i.bytes ≤ 281474976710656) :
    (Builtin.append_ #[t, u] ty #[.slice none 0 0, .int k' n]).run P w =
      .ok (.slice (some ⟨w.heap.size, 0, none⟩) n (grownCap w n 0 e)) (w.drew.alloc (.cells (Builtin.zeroCells z.cells n ++ Builtin.zeroCells z.cells (grownCap w n 0 e - n)) e)) := by
  have hn : n ≠ 0 := by omega
  have hw : IntKind.i64.wrap (n : Int) = n := IntWalk.i64_in _ (by omega)
  have h63' : ¬ (9223372036854775807 < (n : Int)) := by omega
  have h48' : ¬ (281474976710656 < Builtin.nextslicecap n 0 * i.bytes) := by rw [nextslicecap_zero h0]; omega
  have h48'' : ¬ (281474976710656 < (n : Int) * (i.bytes : Int)) := by
    have : ((n * i.bytes : Nat) : Int) ≤ 281474976710656 := by omega
    push_cast at this
    omega
  have hne : ¬ (n = 0 ∨ i.size = 0) := by omega
  have hs0 : i.size ≠ 0 := by omega
  have hneg : ¬ ((n : Int) < 0) := by omega
  have hmul : ¬ (n * i.size = 0) := by rw [Nat.mul_eq_zero]; omega
  simp [Builtin.append_, run_underlying ht, run_underlying hu, sizeOf, typeInfo, zeroValue, hi, hz, asInt, asIntOf, hw, hn, hs0, h0, hneg, hmul, h63', h48', h48'', Question.forced, run_firstCells_none, newRow, grownCap]

theorem appendZ_ok {P : Program} {j : Inj} {H H' : AHeap} {w : World} (hR : R j H w) {t u ty : TypeId} {s x r : AV} {cs cx : Value} (h : appendZ P H t u s x = some (r, H')) (hs : VR j s cs) (hx : VR j x cx) :
    ∃ cv j' w', (Builtin.append_ #[t, u] ty #[cs, cx]).run P w = .ok cv w' ∧ VR j' r cv ∧ Step H.length j H w j' H' w' := by
  unfold appendZ at h
  split at h
  rotate_left
  · cases h
  rename_i e k k' n ht hu
  split at h
  rotate_left
  · cases h
  rename_i isz iby z hsi hby hz
  split at h <;> cases h
  rename_i hc
  obtain ⟨hzl, hs0, hn0, hb1, hb2⟩ := hc
  obtain ⟨za, hza, hzc⟩ := Option.bind_eq_some_iff.1 hz
  obtain ⟨i, cz, hi, hiz, hrz, hvz⟩ := zeroA_ok hza j w
  obtain ⟨i', hi', e1⟩ := Option.map_eq_some_iff.1 hsi
  rw [hi] at hi'
  cases hi'
  obtain ⟨i', hi', e2⟩ := Option.map_eq_some_iff.1 hby
  rw [hi] at hi'
  cases hi'
  subst e1; subst e2
  simp only [VR] at hs hx
  subst hs; subst hx
  have hcz := cellsA_ok hzc hvz
  have hczl : cz.cells.size = i.size := by have := hcz.length; simp at this; omega
  have hnn : ((n.toNat : Nat) : Int) = n := by omega
  have hrun := run_append_nil_zeros (P := P) w t u ty e k k' i cz ht hu hi hiz n.toNat (by omega) hs0 hb2 (by omega)
  rw [hnn] at hrun
  have hge := grownCap_ge w n.toNat 0 e
  have hzr := zeros_ok hcz n.toNat
  have hlz : (zerosA z n.toNat).length = n.toNat * i.size := by rw [zerosA_length, hzl]
  refine ⟨_, _, _, hrun, ?_, step_newG (w' := w.drew.alloc _) hR true (zerosA z n.toNat) _ e (0, 0) rfl rfl rfl rfl (by rw [hlz]; simp [Builtin.zeroCells, hczl]) ?_ (fun _ k _ hh => by simp at hh)⟩
  · refine ⟨_, _, _, jput_same _ _ _, rfl, hge, by simp, grownCap_le_maxLen w n.toNat 0 e hb2, .inr ⟨rfl, ?_⟩⟩
    simp [Builtin.zeroCells, hczl]
    rw [← Nat.add_mul]
    exact Nat.le_of_eq (by congr 1; omega)
  · rw [Array.toList_append, List.take_append_of_le_length (by rw [hlz]; simp [Builtin.zeroCells, hczl]), List.take_of_length_le (by rw [hlz]; simp [Builtin.zeroCells, hczl])]
    exact hzr

end Go.Proofs.Ytbbgmaklmlagcaa
