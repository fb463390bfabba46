/- Abstract operations without memory: slices, indexes, conversions, and all of them. -/
import Derived.Test.YtbbgmaklmlagcaaAp
namespace Go.Proofs.Ytbbgmaklmlagcaa

/-- A slice expression. -/
def sliceA0 (P : Program) (F : List AV) (t : TypeId) (x : AV) (lo hi mx : Option Operand) : Option AV :=
  match P.underlying t, x, mx with
  | some .string, .str s, none => (lowHigh F lo hi s.length s.length).map fun (l, h) => .str ((s.drop l).take (h - l))
  | some (.slice e), .slice b off len sz clip, none =>
    if sizeA P e = some sz then (lowHigh F lo hi len len).map fun (l, h) => .slice b (off + l * sz) (h - l) sz (clip && h == len) else none
  | some (.slice e), .slice b off len sz _, some m =>
    if sizeA P e = some sz then
      match hi with
      | none => none
      | some hi =>
        match boundA (ev F m) len with
        | none => none
        | some m' =>
          match lowHigh F lo (some hi) m' m' with
          | none => none
          | some (l, h) => if h = m' then some (.slice b (off + l * sz) (h - l) sz true) else none
    else none
  | some (.slice e), .nils, none => if (sizeA P e).isSome then (lowHigh F lo hi 0 0).map fun _ => .nils else none
  | some (.slice e), .nils, some m =>
    if (sizeA P e).isSome then
      match hi with
      | none => none
      | some hi =>
        match boundA (ev F m) 0 with
        | none => none
        | some m' => (lowHigh F lo (some hi) m' m').bind fun (_, h) => if h = m' then some .nils else none
    else none
  | some (.array n e), .ptr b off, none =>
    match sizeA P e with
    | none => none
    | some sz => if n ≤ 9223372036854775807 then (lowHigh F lo hi n n).map fun (l, h) => .slice b (off + l * sz) (h - l) sz (h == n) else none
  | _, _, _ => none

theorem extract_str (s : List UInt8) (l h : Nat) : (ByteArray.mk s.toArray).extract l h = ⟨((s.drop l).take (h - l)).toArray⟩ := by
  apply ByteArray.ext
  apply Array.toList_inj.1
  rw [Lib.extract_data]

/-- What an array's address needs, so that a slice of it is one: the cells are there. -/
def arrOk (j : Inj) (b off n : Nat) : Prop := ∀ p, j b = some p → p.base + off + n ≤ p.size

theorem sub_addr {p : JB} {a : Addr} {off l cap sz m : Nat} (hm : m ≤ cap) (hl : l ≤ m) (h : cap = 0 ∨ (a = ⟨p.blk, p.base + off, none⟩ ∧ p.base + off + cap * sz ≤ p.size)) :
    (m - l = 0 ∨ ((if m = l then a else a.add (l * sz)) = ⟨p.blk, p.base + (off + l * sz), none⟩ ∧ p.base + (off + l * sz) + (m - l) * sz ≤ p.size)) := by
  by_cases e : m = l
  · left; omega
  · right
    rw [if_neg e]
    rcases h with h | ⟨rfl, h⟩
    · omega
    · have h1 : l * sz + (m - l) * sz = m * sz := by rw [← Nat.add_mul]; congr 1; omega
      have h2 : m * sz ≤ cap * sz := Nat.mul_le_mul_right _ hm
      refine ⟨?_, by omega⟩
      unfold Addr.add
      split
      · simp_all
      · simp; omega

theorem sliceA0_ok {P : Program} {j : Inj} {F : List AV} {a : Act} (hF : VRs j F a.tmps.toList) {t : TypeId} {x r : AV} {cx : Value} {lo hi mx : Option Operand} (h : sliceA0 P F t x lo hi mx = some r)
    (hx : VR j x cx) (w : World) (ha : ∀ b off n e sz, x = .ptr b off → P.underlying t = some (.array n e) → sizeA P e = some sz → arrOk j b off (n * sz)) :
    ∃ cv, (Instr.sliceAt t cx (lo.map a.eval) (hi.map a.eval) (mx.map a.eval)).run P w = .ok cv w ∧ VR j r cv := by
  unfold sliceA0 at h
  unfold Instr.sliceAt
  split at h
  · rename_i s ht
    simp only [VR] at hx
    subst hx
    obtain ⟨⟨l, h'⟩, hlh, rfl⟩ := Option.map_eq_some_iff.1 h
    have hlh' : lowHigh F lo hi (ByteArray.mk s.toArray).size (ByteArray.mk s.toArray).size = some (l, h') := by rw [str_size]; exact hlh
    obtain ⟨h1, h2, h3⟩ := lowHigh_ok (P := P) hF (isS := false) hlh' (Nat.le_refl _) (Nat.le_refl _) w
    rw [rb (run_und ht w)]
    show ∃ cv, Sem.run P (Instr.slice t _ _ _ _) w = _ ∧ _
    unfold Instr.slice
    rw [rb (run_und ht w)]
    refine ⟨.string ⟨((s.drop l).take (h' - l)).toArray⟩, ?_, rfl⟩
    show Sem.run P (Instr.sliceBounds false _ _ _ _ none >>= _) w = _
    rw [rb h1]
    show Sem.run P (pure (Value.string ((ByteArray.mk s.toArray).extract l h'))) w = _
    rw [extract_str]
    rfl
  · rename_i e b off len sz clip ht
    simp only [VR] at hx
    obtain ⟨p, ad, cap, hp, rfl, hlc, hclip, hm, hadr⟩ := hx
    split at h
    rotate_left
    · cases h
    rename_i hsz
    obtain ⟨⟨l, h'⟩, hlh, rfl⟩ := Option.map_eq_some_iff.1 h
    have hlh' : lowHigh F lo hi len len = some (l, h') := hlh
    obtain ⟨h1, h2, h3⟩ := lowHigh_ok (P := P) hF (isS := true) hlh' (Nat.le_refl _) hlc w
    rw [rb (run_und ht w)]
    show ∃ cv, Sem.run P (Instr.slice t _ _ _ _) w = _ ∧ _
    unfold Instr.slice
    rw [rb (run_und ht w)]
    refine ⟨.slice (some (if cap = l then ad else ad.add (l * sz))) (h' - l) (cap - l), ?_, ?_⟩
    · show Sem.run P (Instr.sliceBounds true _ _ _ _ none >>= _) w = _
      rw [rb h1]
      dsimp only
      rw [rb (sizeA_ok hsz w)]
      by_cases e : cap = l <;> simp [e, go_sem]
    · refine ⟨p, _, _, hp, rfl, by omega, ?_, by omega, sub_addr (Nat.le_refl _) (by omega) hadr⟩
      intro hc
      simp at hc
      obtain ⟨c1, c2⟩ := hc
      have := hclip c1
      omega
  · rename_i e b off len sz clip m ht
    simp only [VR] at hx
    obtain ⟨p, ad, cap, hp, rfl, hlc, hclip, hm, hadr⟩ := hx
    split at h
    rotate_left
    · cases h
    rename_i hsz
    split at h
    · cases h
    rename_i hi'
    split at h
    · cases h
    rename_i m' hm'
    split at h
    · cases h
    rename_i l h' hlh
    split at h <;> cases h
    rename_i hhm
    subst hhm
    have hm'' : boundA (ev F m) cap = some h' := by
      unfold boundA at hm' ⊢
      split at hm'
      · split at hm' <;> cases hm'
        rw [if_pos (by omega)]
      · cases hm'
    have hml := (boundA_ok (P := P) hm' (ev_ok hF m) .slice3Acap w).2
    obtain ⟨g1, g2⟩ := boundA_ok (P := P) hm'' (ev_ok hF m) .slice3Acap w
    have hbh : boundA (ev F hi') h' = some h' := by
      unfold lowHigh at hlh
      dsimp only at hlh
      cases hb : boundA (ev F hi') h' with
      | none => rw [hb] at hlh; cases hlh
      | some z =>
        rw [hb] at hlh
        dsimp only at hlh
        cases lo with
        | none => cases hlh; rfl
        | some lo =>
          obtain ⟨q, _, e⟩ := Option.map_eq_some_iff.1 hlh
          cases e; rfl
    obtain ⟨k1, k2⟩ := boundA_ok (P := P) hbh (ev_ok hF hi') .slice3B w
    rw [rb (run_und ht w)]
    show ∃ cv, Sem.run P (Instr.slice t _ _ _ _) w = _ ∧ _
    unfold Instr.slice
    rw [rb (run_und ht w)]
    have hbd : Sem.run P (Instr.sliceBounds true len cap (lo.map a.eval) (some (a.eval hi')) (some (a.eval m))) w = .ok (l, h', h') w ∧ l ≤ h' := by
      unfold Instr.sliceBounds
      unfold lowHigh at hlh
      dsimp only at hlh
      rw [hbh] at hlh
      dsimp only at hlh
      show Sem.run P (Instr.sliceBound (a.eval m) cap .slice3Acap >>= _) w = _ ∧ _
      rw [rb g1]
      show Sem.run P (Instr.sliceBound (a.eval hi') h' .slice3B >>= _) w = _ ∧ _
      rw [rb k1]
      cases lo with
      | none => cases hlh; exact ⟨rfl, Nat.zero_le _⟩
      | some lo =>
        obtain ⟨q, hq, e⟩ := Option.map_eq_some_iff.1 hlh
        cases e
        obtain ⟨q1, q2⟩ := boundA_ok (P := P) hq (ev_ok hF lo) .slice3C w
        refine ⟨?_, q2⟩
        show Sem.run P (Instr.sliceBound (a.eval lo) _ .slice3C >>= _) w = _
        rw [rb q1]
        rfl
    refine ⟨.slice (some (if h' = l then ad else ad.add (l * sz))) (h' - l) (h' - l), ?_, ?_⟩
    · show Sem.run P (Instr.sliceBounds true _ _ _ (some (a.eval hi')) (some (a.eval m)) >>= _) w = _
      rw [rb hbd.1]
      dsimp only
      rw [rb (sizeA_ok hsz w)]
      by_cases e : h' = l <;> simp [e, go_sem]
    · exact ⟨p, _, _, hp, rfl, Nat.le_refl _, fun _ => rfl, by omega, sub_addr (by omega) hbd.2 hadr⟩
  · rename_i e ht
    simp only [VR] at hx
    subst hx
    split at h
    rotate_left
    · cases h
    rename_i hsz
    obtain ⟨sz, hsz⟩ := Option.isSome_iff_exists.1 hsz
    obtain ⟨⟨l, h'⟩, hlh, rfl⟩ := Option.map_eq_some_iff.1 h
    obtain ⟨h1, h2, h3⟩ := lowHigh_ok (P := P) hF (isS := true) hlh (Nat.le_refl _) (Nat.le_refl _) w
    rw [rb (run_und ht w)]
    show ∃ cv, Sem.run P (Instr.slice t _ _ _ _) w = _ ∧ _
    unfold Instr.slice
    rw [rb (run_und ht w)]
    refine ⟨.slice none 0 0, ?_, rfl⟩
    show Sem.run P (Instr.sliceBounds true 0 0 _ _ none >>= _) w = _
    rw [rb h1]
    dsimp only
    rw [rb (sizeA_ok hsz w)]
    have e1 : l = 0 := by omega
    have e2 : h' = 0 := by omega
    subst e1; subst e2
    rfl
  · rename_i e m ht
    simp only [VR] at hx
    subst hx
    split at h
    rotate_left
    · cases h
    rename_i hsz
    obtain ⟨sz, hsz⟩ := Option.isSome_iff_exists.1 hsz
    split at h
    · cases h
    rename_i hi'
    split at h
    · cases h
    rename_i m' hm'
    obtain ⟨⟨l, h'⟩, hlh, h⟩ := Option.bind_eq_some_iff.1 h
    dsimp only at h
    split at h <;> cases h
    rename_i hhm
    subst hhm
    obtain ⟨g1, g2⟩ := boundA_ok (P := P) hm' (ev_ok hF m) .slice3Acap w
    have hbh : boundA (ev F hi') h' = some h' := by
      unfold lowHigh at hlh
      dsimp only at hlh
      cases hb : boundA (ev F hi') h' with
      | none => rw [hb] at hlh; cases hlh
      | some z =>
        rw [hb] at hlh
        dsimp only at hlh
        cases lo with
        | none => cases hlh; rfl
        | some lo =>
          obtain ⟨q, _, e⟩ := Option.map_eq_some_iff.1 hlh
          cases e; rfl
    obtain ⟨k1, k2⟩ := boundA_ok (P := P) hbh (ev_ok hF hi') .slice3B w
    rw [rb (run_und ht w)]
    show ∃ cv, Sem.run P (Instr.slice t _ _ _ _) w = _ ∧ _
    unfold Instr.slice
    rw [rb (run_und ht w)]
    have hbd : Sem.run P (Instr.sliceBounds true 0 0 (lo.map a.eval) (some (a.eval hi')) (some (a.eval m))) w = .ok (l, h', h') w ∧ l ≤ h' := by
      unfold Instr.sliceBounds
      unfold lowHigh at hlh
      dsimp only at hlh
      rw [hbh] at hlh
      dsimp only at hlh
      show Sem.run P (Instr.sliceBound (a.eval m) 0 .slice3Acap >>= _) w = _ ∧ _
      rw [rb g1]
      show Sem.run P (Instr.sliceBound (a.eval hi') h' .slice3B >>= _) w = _ ∧ _
      rw [rb k1]
      cases lo with
      | none => cases hlh; exact ⟨rfl, Nat.zero_le _⟩
      | some lo =>
        obtain ⟨q, hq, e⟩ := Option.map_eq_some_iff.1 hlh
        cases e
        obtain ⟨q1, q2⟩ := boundA_ok (P := P) hq (ev_ok hF lo) .slice3C w
        refine ⟨?_, q2⟩
        show Sem.run P (Instr.sliceBound (a.eval lo) _ .slice3C >>= _) w = _
        rw [rb q1]
        rfl
    refine ⟨.slice none 0 0, ?_, rfl⟩
    show Sem.run P (Instr.sliceBounds true 0 0 _ (some (a.eval hi')) (some (a.eval m)) >>= _) w = _
    rw [rb hbd.1]
    dsimp only
    rw [rb (sizeA_ok hsz w)]
    have e1 : h' = 0 := by omega
    have e2 : l = 0 := by have := hbd.2; omega
    subst e1; subst e2
    rfl
  · rename_i n e b off ht
    split at h
    · cases h
    rename_i sz hsz
    split at h
    rotate_left
    · cases h
    rename_i hn
    have hok := ha b off n e sz rfl ht hsz
    simp only [VR] at hx
    obtain ⟨p, hp, rfl⟩ := hx
    obtain ⟨⟨l, h'⟩, hlh, rfl⟩ := Option.map_eq_some_iff.1 h
    obtain ⟨h1, h2, h3⟩ := lowHigh_ok (P := P) hF (isS := false) hlh (Nat.le_refl _) (Nat.le_refl _) w
    rw [rb (run_und ht w)]
    refine ⟨.slice (some (if n = l then ⟨p.blk, p.base + off, none⟩ else (⟨p.blk, p.base + off, none⟩ : Addr).add (l * sz))) (h' - l) (n - l), ?_, ?_⟩
    · show Sem.run P (Instr.sliceBounds false n n _ _ none >>= _) w = _
      rw [rb h1]
      dsimp only
      rw [rb (sizeA_ok hsz w)]
      rfl
    · refine ⟨p, _, _, hp, rfl, by omega, ?_, by unfold maxLen; omega, sub_addr (Nat.le_refl _) (by omega) (.inr ⟨rfl, by have := hok p hp; omega⟩)⟩
      intro hc
      simp at hc
      omega
  · cases h

/-- A slice expression, of what may be nil too. -/
def sliceA (P : Program) (F : List AV) (t : TypeId) (x : AV) (lo hi mx : Option Operand) : Option AV :=
  match x with
  | .sl b off len sz clip =>
    match P.underlying t with
    | some (.slice _) =>
      match sliceA0 P F t (.slice b off len sz clip) lo hi mx with
      | some (.slice b' o' l' s' c') => some (.sl b' o' l' s' c')
      | _ => none
    | _ => none
  | x => sliceA0 P F t x lo hi mx

theorem lowHigh_zero {F : List AV} {lo hi : Option Operand} {l h : Nat} (e : lowHigh F lo hi 0 0 = some (l, h)) : h = 0 := by
  have bz : ∀ (x : AV) (r : Nat), boundA x 0 = some r → r = 0 := by
    intro x r hr
    unfold boundA at hr
    split at hr
    · split at hr <;> cases hr
      omega
    · cases hr
  unfold lowHigh at e
  cases hi with
  | none =>
    dsimp only at e
    cases lo with
    | none => cases e; rfl
    | some lo => obtain ⟨q, _, e⟩ := Option.map_eq_some_iff.1 e; cases e; rfl
  | some hi =>
    dsimp only at e
    cases hb : boundA (ev F hi) 0 with
    | none => rw [hb] at e; cases e
    | some z =>
      rw [hb] at e
      have hz := bz _ _ hb
      subst hz
      dsimp only at e
      cases lo with
      | none => cases e; rfl
      | some lo => obtain ⟨q, _, e⟩ := Option.map_eq_some_iff.1 e; cases e; rfl

theorem sliceA_ok {P : Program} {j : Inj} {F : List AV} {a : Act} (hF : VRs j F a.tmps.toList) {t : TypeId} {x r : AV} {cx : Value} {lo hi mx : Option Operand} (h : sliceA P F t x lo hi mx = some r)
    (hx : VR j x cx) (w : World) (ha : ∀ b off n e sz, x = .ptr b off → P.underlying t = some (.array n e) → sizeA P e = some sz → arrOk j b off (n * sz)) :
    ∃ cv, (Instr.sliceAt t cx (lo.map a.eval) (hi.map a.eval) (mx.map a.eval)).run P w = .ok cv w ∧ VR j r cv := by
  unfold sliceA at h
  split at h
  · rename_i b off len sz clip
    split at h
    rotate_left
    · cases h
    rename_i e ht
    split at h
    rotate_left
    · cases h
    rename_i b' o' l' s' c' hs
    cases h
    rcases VR_sl hx with ⟨rfl, rfl⟩ | hx'
    · have hn : sliceA0 P F t .nils lo hi mx = some .nils ∧ l' = 0 := by
        unfold sliceA0 at hs ⊢
        rw [ht] at hs ⊢
        cases mx with
        | none =>
          dsimp only at hs ⊢
          split at hs
          rotate_left
          · cases hs
          rename_i hsz
          obtain ⟨⟨l, h'⟩, hlh, e1⟩ := Option.map_eq_some_iff.1 hs
          have hz := lowHigh_zero hlh
          simp only [AV.slice.injEq] at e1
          rw [hsz, hlh]
          simp
          omega
        | some m =>
          dsimp only at hs ⊢
          split at hs
          rotate_left
          · cases hs
          rename_i hsz
          cases hi with
          | none => cases hs
          | some hi =>
            dsimp only at hs ⊢
            cases hb : boundA (ev F m) 0 with
            | none => rw [hb] at hs; cases hs
            | some m' =>
              have hm0 : m' = 0 := by
                unfold boundA at hb
                split at hb
                · split at hb <;> cases hb
                  omega
                · cases hb
              subst hm0
              rw [hb] at hs
              dsimp only at hs
              cases hl : lowHigh F lo (some hi) 0 0 with
              | none => rw [hl] at hs; cases hs
              | some lh =>
                obtain ⟨l, h'⟩ := lh
                have hz := lowHigh_zero hl
                subst hz
                rw [hl] at hs
                simp at hs
                rw [hsz]
                simp [hl]
                omega
      obtain ⟨hn1, rfl⟩ := hn
      obtain ⟨cv, h1, h2⟩ := sliceA0_ok (cx := .slice none 0 0) hF hn1 (by simp [VR]) w (fun _ _ _ _ _ e1 => by cases e1)
      simp only [VR] at h2
      subst h2
      exact ⟨_, h1, .inl ⟨rfl, rfl⟩⟩
    · obtain ⟨cv, h1, h2⟩ := sliceA0_ok hF hs hx' w (fun _ _ _ _ _ e1 => by cases e1)
      exact ⟨cv, h1, VR_sl_of h2⟩
  · exact sliceA0_ok hF h hx w ha

/-- The address of an element. -/
def idxA (P : Program) (t : TypeId) (x ix : AV) : Option AV :=
  match P.underlying t, x, ix with
  | some (.array n e), .ptr b off, .int _ i =>
    match sizeA P e with
    | some sz => if 0 ≤ i ∧ i < n then some (.ptr b (off + i.toNat * sz)) else none
    | none => none
  | some (.slice e), .slice b off len sz _, .int _ i => if sizeA P e = some sz ∧ 0 ≤ i ∧ i < len then some (.ptr b (off + i.toNat * sz)) else none
  | some (.slice e), .sl b off len sz _, .int _ i => if sizeA P e = some sz ∧ 0 ≤ i ∧ i < len then some (.ptr b (off + i.toNat * sz)) else none
  | _, _, _ => none

theorem ptr_add (c n m : Nat) : (⟨c, n, none⟩ : Addr).add m = ⟨c, n + m, none⟩ := by
  unfold Addr.add
  split
  · subst_vars; rfl
  · rfl

theorem idxA_ok {P : Program} {j : Inj} {t : TypeId} {x ix r : AV} {cx ci : Value} (h : idxA P t x ix = some r) (hx : VR j x cx) (hi : VR j ix ci) (w : World) :
    ∃ cv, (Instr.indexAt t cx ci).run P w = .ok cv w ∧ VR j r cv := by
  unfold idxA at h
  unfold Instr.indexAt
  split at h
  · rename_i n e b off k i ht
    simp only [VR] at hx hi
    obtain ⟨p, hp, rfl⟩ := hx
    subst hi
    split at h
    rotate_left
    · cases h
    rename_i sz hsz
    split at h <;> cases h
    rename_i hin
    refine ⟨.pointer (some ⟨p.blk, p.base + (off + i.toNat * sz), none⟩), ?_, p, hp, rfl⟩
    show Sem.run P (pure (k, i) >>= _) w = _
    rw [rb (a := (k, i)) (w' := w) rfl]
    dsimp only
    rw [rb (run_und ht w)]
    dsimp only
    rw [rb (a := (⟨p.blk, p.base + off, none⟩ : Addr)) (w' := w) rfl]
    rw [rb (a := (some (⟨p.blk, p.base + off, none⟩ : Addr), n, e)) (w' := w) rfl]
    dsimp only
    rw [rb (run_und ht w)]
    dsimp only
    rw [if_pos hin]
    rw [rb (sizeA_ok hsz w), ptr_add, Nat.add_assoc]
    rfl
  · rename_i e b off len sz clip k i ht
    simp only [VR] at hx hi
    obtain ⟨p, ad, cap, hp, rfl, hlc, hclip, hm, hadr⟩ := hx
    subst hi
    split at h <;> cases h
    rename_i hin
    obtain ⟨hsz, hin⟩ := hin
    have hadr' : ad = ⟨p.blk, p.base + off, none⟩ := by
      rcases hadr with h0 | ⟨h0, _⟩
      · omega
      · exact h0
    subst hadr'
    refine ⟨.pointer (some ⟨p.blk, p.base + (off + i.toNat * sz), none⟩), ?_, p, hp, rfl⟩
    show Sem.run P (pure (k, i) >>= _) w = _
    rw [rb (a := (k, i)) (w' := w) rfl]
    dsimp only
    rw [rb (run_und ht w)]
    dsimp only
    rw [rb (a := (some (⟨p.blk, p.base + off, none⟩ : Addr), len, e)) (w' := w) rfl]
    dsimp only
    rw [rb (run_und ht w)]
    dsimp only
    rw [if_pos hin]
    rw [rb (sizeA_ok hsz w), ptr_add, Nat.add_assoc]
    rfl
  · rename_i e b off len sz clip k i ht
    split at h <;> cases h
    rename_i hin
    obtain ⟨hsz, hin⟩ := hin
    replace hx := VR_sl_pos (by omega) hx
    simp only [VR] at hx hi
    obtain ⟨p, ad, cap, hp, rfl, hlc, hclip, hm, hadr⟩ := hx
    subst hi
    have hadr' : ad = ⟨p.blk, p.base + off, none⟩ := by
      rcases hadr with h0 | ⟨h0, _⟩
      · omega
      · exact h0
    subst hadr'
    refine ⟨.pointer (some ⟨p.blk, p.base + (off + i.toNat * sz), none⟩), ?_, p, hp, rfl⟩
    show Sem.run P (pure (k, i) >>= _) w = _
    rw [rb (a := (k, i)) (w' := w) rfl]
    dsimp only
    rw [rb (run_und ht w)]
    dsimp only
    rw [rb (a := (some (⟨p.blk, p.base + off, none⟩ : Addr), len, e)) (w' := w) rfl]
    dsimp only
    rw [rb (run_und ht w)]
    dsimp only
    rw [if_pos hin]
    rw [rb (sizeA_ok hsz w), ptr_add, Nat.add_assoc]
    rfl
  · cases h

/-- An element of a text or of an array. -/
def elemA (P : Program) (t : TypeId) (x ix : AV) : Option AV :=
  match P.underlying t, x, ix with
  | some .string, .str s, .int _ i => if 0 ≤ i then (s[i.toNat]?).map fun c => .int .u8 c.toNat else none
  | some (.array n e), .agg l, .int _ i =>
    match sizeA P e with
    | some sz => if 0 ≤ i ∧ i < n then partA P e l (i.toNat * sz) else none
    | none => none
  | _, _, _ => none

theorem elemA_ok {P : Program} {j : Inj} {t : TypeId} {x ix r : AV} {cx ci : Value} (h : elemA P t x ix = some r) (hx : VR j x cx) (hi : VR j ix ci) (w : World) :
    ∃ cv, (Instr.index t cx ci).run P w = .ok cv w ∧ VR j r cv := by
  unfold elemA at h
  unfold Instr.index
  split at h
  · rename_i s k i ht
    simp only [VR] at hx hi
    subst hx; subst hi
    split at h
    rotate_left
    · cases h
    rename_i h0
    obtain ⟨c, hc, rfl⟩ := Option.map_eq_some_iff.1 h
    refine ⟨.int .u8 c.toNat, ?_, rfl⟩
    rw [rb (a := (k, i)) (w' := w) rfl]
    dsimp only
    rw [rb (run_und ht w)]
    dsimp only
    rw [if_pos h0]
    have e : (ByteArray.mk s.toArray)[i.toNat]? = some c := by
      obtain ⟨hl, rfl⟩ := List.getElem?_eq_some_iff.1 hc
      have hl' : i.toNat < (ByteArray.mk s.toArray).size := by simpa [ByteArray.size] using hl
      exact (getElem?_pos (ByteArray.mk s.toArray) i.toNat hl').trans rfl
    rw [e]
    rfl
  · rename_i n e l k i ht
    simp only [VR] at hx hi
    obtain ⟨cs, rfl, hl⟩ := hx
    subst hi
    split at h
    rotate_left
    · cases h
    rename_i sz hsz
    split at h
    rotate_left
    · cases h
    rename_i hin
    obtain ⟨cv, h1, h2⟩ := partA_ok h hl w
    refine ⟨cv, ?_, h2⟩
    rw [rb (a := (k, i)) (w' := w) rfl]
    dsimp only
    rw [rb (run_und ht w)]
    dsimp only
    rw [if_pos hin]
    rw [rb (sizeA_ok hsz w)]
    exact h1
  · cases h

/-- The address of a field. -/
def fieldAddrA (P : Program) (t : TypeId) (x : AV) (f : Nat) : Option AV :=
  match P.underlying t, x with
  | some (.struct fs), .ptr b off =>
    match fs[f]? with
    | some fd => match sizeA P fd.type with
      | some (_ + 1) => some (.ptr b (off + fd.offset))
      | _ => none
    | none => none
  | _, _ => none

theorem fieldAddrA_ok {P : Program} {j : Inj} {t : TypeId} {x r : AV} {cx : Value} {f : Nat} (h : fieldAddrA P t x f = some r) (hx : VR j x cx) (w : World) :
    ∃ cv, (Instr.fieldAt t cx f).run P w = .ok cv w ∧ VR j r cv := by
  unfold fieldAddrA at h
  unfold Instr.fieldAt
  split at h
  · rename_i fs b off ht
    simp only [VR] at hx
    obtain ⟨p, hp, rfl⟩ := hx
    split at h
    rotate_left
    · cases h
    rename_i fd hfd
    split at h
    rotate_left
    · cases h
    rename_i sz hsz
    cases h
    refine ⟨.pointer (some ⟨p.blk, p.base + (off + fd.offset), none⟩), ?_, p, hp, rfl⟩
    rw [rb (run_und ht w)]
    dsimp only
    rw [hfd]
    dsimp only
    rw [rb (a := (⟨p.blk, p.base + off, none⟩ : Addr)) (w' := w) rfl]
    have e : Sem.run P (fieldPlace ⟨p.blk, p.base + off, none⟩ fd) w = .ok ⟨p.blk, p.base + (off + fd.offset), none⟩ w := by
      unfold fieldPlace
      rw [rb (sizeA_ok hsz w), if_neg (by omega), ptr_add, Nat.add_assoc]
      rfl
    rw [rb e]
    rfl
  · cases h

def fieldA (P : Program) (t : TypeId) (x : AV) (f : Nat) : Option AV :=
  match P.underlying t, x with
  | some (.struct fs), .agg l =>
    match fs[f]? with
    | some fd => partA P fd.type l fd.offset
    | none => none
  | _, _ => none

theorem fieldA_ok {P : Program} {j : Inj} {t : TypeId} {x r : AV} {cx : Value} {f : Nat} (h : fieldA P t x f = some r) (hx : VR j x cx) (w : World) :
    ∃ cv, (Instr.field t cx f).run P w = .ok cv w ∧ VR j r cv := by
  unfold fieldA at h
  unfold Instr.field
  split at h
  · rename_i fs l ht
    simp only [VR] at hx
    obtain ⟨cs, rfl, hl⟩ := hx
    split at h
    rotate_left
    · cases h
    rename_i fd hfd
    obtain ⟨cv, h1, h2⟩ := partA_ok h hl w
    refine ⟨cv, ?_, h2⟩
    rw [rb (run_und ht w)]
    dsimp only
    rw [hfd]
    dsimp only
    rw [rb (a := cs) (w' := w) rfl]
    exact h1
  · cases h

def convA (P : Program) (s d : TypeId) (x : AV) : Option AV :=
  match P.underlying s, P.underlying d, x with
  | some _, some (.int k), .int _ n => some (.int k (k.wrap n))
  | some .string, some .string, .str l => some (.str l)
  | _, _, _ => none

theorem convA_ok {P : Program} {j : Inj} {s d : TypeId} {x r : AV} {cx : Value} (h : convA P s d x = some r) (hx : VR j x cx) (w : World) :
    ∃ cv, (convert s d cx).run P w = .ok cv w ∧ VR j r cv := by
  unfold convA at h
  unfold convert
  split at h
  · rename_i hs hd
    simp only [VR] at hx
    subst hx
    cases h
    rw [rb (run_und hs w), rb (run_und hd w)]
    exact ⟨_, rfl, rfl⟩
  · rename_i hs hd
    simp only [VR] at hx
    subst hx
    cases h
    rw [rb (run_und hs w), rb (run_und hd w)]
    exact ⟨_, rfl, rfl⟩
  · cases h

def minA (big : Bool) : AV → AV → Option AV
  | .int k x, .int _ y => some (.int k (if big then (if y > x then y else x) else (if y < x then y else x)))
  | _, _ => none

def minsA (big : Bool) : List AV → Option AV
  | [] => none
  | x :: xs => xs.foldlM (minA big) x

theorem min2_fold {P : Program} {j : Inj} (w : World) : ∀ (xs : List AV) (cs : List Value) (x r : AV) (cx : Value), xs.foldlM (minA false) x = some r → VR j x cx → VRs j xs cs →
    ∃ cv, Sem.run P (cs.foldlM Builtin.min2 cx) w = .ok cv w ∧ VR j r cv
  | [], cs, x, r, cx, h, hx, hs => by
    simp only [VRs] at hs
    subst hs
    simp only [List.foldlM] at h
    cases h
    exact ⟨cx, rfl, hx⟩
  | y :: ys, cs, x, r, cx, h, hx, hs => by
    simp only [VRs] at hs
    obtain ⟨v, ws, rfl, h1, h2⟩ := hs
    simp only [List.foldlM] at h ⊢
    cases hm : minA false x y with
    | none => rw [hm] at h; cases h
    | some z =>
      rw [hm] at h
      unfold minA at hm
      split at hm <;> cases hm
      simp only [VR] at hx h1
      subst hx; subst h1
      rw [rb (a := _) (w' := w) (show Sem.run P (Builtin.min2 _ _) w = .ok _ w from rfl)]
      exact min2_fold w ys ws _ r _ h (by simp [VR]) h2

theorem max2_fold {P : Program} {j : Inj} (w : World) : ∀ (xs : List AV) (cs : List Value) (x r : AV) (cx : Value), xs.foldlM (minA true) x = some r → VR j x cx → VRs j xs cs →
    ∃ cv, Sem.run P (cs.foldlM Builtin.max2 cx) w = .ok cv w ∧ VR j r cv
  | [], cs, x, r, cx, h, hx, hs => by
    simp only [VRs] at hs
    subst hs
    simp only [List.foldlM] at h
    cases h
    exact ⟨cx, rfl, hx⟩
  | y :: ys, cs, x, r, cx, h, hx, hs => by
    simp only [VRs] at hs
    obtain ⟨v, ws, rfl, h1, h2⟩ := hs
    simp only [List.foldlM] at h ⊢
    cases hm : minA true x y with
    | none => rw [hm] at h; cases h
    | some z =>
      rw [hm] at h
      unfold minA at hm
      split at hm <;> cases hm
      simp only [VR] at hx h1
      subst hx; subst h1
      rw [rb (a := _) (w' := w) (show Sem.run P (Builtin.max2 _ _) w = .ok _ w from rfl)]
      exact max2_fold w ys ws _ r _ h (by simp [VR]) h2

def lenA (P : Program) (t : TypeId) (x : AV) : Option AV :=
  match P.underlying t, x with
  | some .string, .str s => some (.int .i64 s.length)
  | some (.slice _), .slice _ _ n _ _ => some (.int .i64 n)
  | some (.slice _), .sl _ _ n _ _ => some (.int .i64 n)
  | some (.slice _), .nils => some (.int .i64 0)
  | some (.array n _), _ => some (.int .i64 n)
  | some (.map _ _), .nilm => some (.int .i64 0)
  | _, _ => none

theorem lenA_ok {P : Program} {j : Inj} {t : TypeId} {x r : AV} {cx : Value} {ts : Array TypeId} {cs : Array Value} {ty : TypeId} (h : lenA P t x = some r) (hx : VR j x cx) (ht : ts[0]? = some t) (hc : cs[0]? = some cx) (w : World) :
    ∃ cv, (Builtin.len_ ts ty cs).run P w = .ok cv w ∧ VR j r cv := by
  unfold lenA at h
  unfold Builtin.len_
  rw [ht, hc]
  dsimp only
  split at h
  · rename_i hu
    cases h
    simp only [VR] at hx
    subst hx
    rw [rb (run_und hu w)]
    exact ⟨_, rfl, by simp [VR, goInt, ByteArray.size]⟩
  · rename_i hu
    cases h
    simp only [VR] at hx
    obtain ⟨p, ad, cap, hp, rfl, _⟩ := hx
    rw [rb (run_und hu w)]
    exact ⟨_, rfl, rfl⟩
  · rename_i hu
    cases h
    simp only [VR] at hx
    rw [rb (run_und hu w)]
    rcases hx with ⟨rfl, rfl⟩ | ⟨p, ad, cap, hp, rfl, _⟩
    · exact ⟨_, rfl, rfl⟩
    · exact ⟨_, rfl, rfl⟩
  · rename_i hu
    cases h
    simp only [VR] at hx
    subst hx
    rw [rb (run_und hu w)]
    exact ⟨_, rfl, rfl⟩
  · rename_i hu
    cases h
    rw [rb (run_und hu w)]
    exact ⟨_, rfl, rfl⟩
  · rename_i hu
    cases h
    simp only [VR] at hx
    subst hx
    rw [rb (run_und hu w)]
    exact ⟨_, rfl, rfl⟩
  · cases h

/-- How much room a slice has, where that is known. -/
def capA (P : Program) (t : TypeId) (x : AV) : Option AV :=
  match P.underlying t, x with
  | some (.slice _), .nils => some (.int .i64 0)
  | some (.slice _), .slice _ _ n _ true => some (.int .i64 n)
  | some (.slice _), .sl _ _ n _ true => some (.int .i64 n)
  | _, _ => none

theorem capA_ok {P : Program} {j : Inj} {t : TypeId} {x r : AV} {cx : Value} {ts : Array TypeId} {cs : Array Value} {ty : TypeId} (h : capA P t x = some r) (hx : VR j x cx) (ht : ts[0]? = some t) (hc : cs[0]? = some cx) (w : World) :
    ∃ cv, (Builtin.cap_ ts ty cs).run P w = .ok cv w ∧ VR j r cv := by
  unfold capA at h
  unfold Builtin.cap_
  rw [ht, hc]
  dsimp only
  split at h
  · rename_i hu
    cases h
    simp only [VR] at hx
    subst hx
    rw [rb (run_und hu w)]
    exact ⟨_, rfl, rfl⟩
  · rename_i hu
    cases h
    simp only [VR] at hx
    obtain ⟨p, ad, cap, hp, rfl, h1, h2, _⟩ := hx
    rw [rb (run_und hu w)]
    have := h2 trivial
    subst this
    exact ⟨_, rfl, rfl⟩
  · rename_i hu
    cases h
    simp only [VR] at hx
    rw [rb (run_und hu w)]
    rcases hx with ⟨rfl, rfl⟩ | ⟨p, ad, cap, hp, rfl, h1, h2, _⟩
    · exact ⟨_, rfl, rfl⟩
    · have := h2 trivial
      subst this
      exact ⟨_, rfl, rfl⟩
  · cases h

def cellsA : AV → Option (List AV)
  | .agg l => some l
  | .top => none
  | v => some [v]

theorem cellsA_ok {j : Inj} {x : AV} {cx : Value} {l : List AV} (h : cellsA x = some l) (hx : VR j x cx) : VRs j l cx.cells.toList := by
  have one : ∀ (y : AV) (c : Value), c.cells = #[c] → VR j y c → VRs j [y] c.cells.toList := by
    intro y c e hy
    rw [e]
    exact ⟨c, [], rfl, hy, rfl⟩
  unfold cellsA at h
  split at h
  · cases h
    simp only [VR] at hx
    obtain ⟨cs, rfl, hl⟩ := hx
    exact hl
  · cases h
  · rename_i h1 h2
    cases h
    refine one x cx ?_ hx
    cases x <;> simp only [VR] at hx <;> (try (rcases hx with ⟨_, rfl⟩ | ⟨_, _, _, _, rfl, _⟩ <;> rfl; done)) <;> (try obtain ⟨_, _, _, _, rfl, _⟩ := hx) <;> (try obtain ⟨_, _, rfl, _⟩ := hx) <;> (try obtain ⟨_, _, rfl⟩ := hx) <;> (try obtain ⟨_, rfl, _⟩ := hx) <;> (try subst hx) <;> first | rfl | exact absurd rfl (h1 _) | exact absurd rfl h2

/-- Parts laid into cells. -/
def fillA (place : Nat → Option (Nat × Nat)) (cells : List AV) : List (Nat × AV) → Option (List AV)
  | [] => some cells
  | (i, v) :: rest =>
    match place i, cellsA v with
    | some (off, size), some l => if l.length = size ∧ off + l.length ≤ cells.length then fillA place (cells.take off ++ l ++ cells.drop (off + l.length)) rest else none
    | _, _ => none

theorem foldl_set (l : List Value) (off : Nat) : ∀ (k : Nat) (cs : Array Value), off + k + l.length ≤ cs.size →
    ((l.zipIdx k).foldl (fun cs (c, j) => cs.setIfInBounds (off + j) c) cs).toList = cs.toList.take (off + k) ++ l ++ cs.toList.drop (off + k + l.length) := by
  induction l with
  | nil => intro k cs _; simp
  | cons c l ih =>
    intro k cs h
    simp only [List.zipIdx_cons, List.foldl_cons]
    rw [ih (k + 1) _ (by simp at h ⊢; omega)]
    simp only [Array.toList_setIfInBounds]
    apply List.ext_getElem?
    intro i
    simp at h
    simp only [List.getElem?_append, List.length_take, List.length_set, Array.length_toList, List.length_append, List.getElem?_take, List.getElem?_set, List.getElem?_drop, List.length_cons]
    repeat' split
    all_goals first
      | rfl
      | omega
      | (congr 1; omega)
      | skip
    all_goals simp_all
    all_goals first
      | omega
      | (rw [List.getElem?_cons]; split <;> first | omega | rfl | (congr 1; omega))

theorem fillA_ok {j : Inj} {place : Nat → Option (Nat × Nat)} : ∀ (ps : List (Nat × AV)) (cps : List (Nat × Value)) (l : List AV) (cs : Array Value) (r : List AV),
    fillA place l ps = some r → VRs j l cs.toList → ps.length = cps.length → (∀ (i : Nat) p c, ps[i]? = some p → cps[i]? = some c → p.1 = c.1 ∧ VR j p.2 c.2) →
    ∃ cr, Instr.fill place cs cps = some cr ∧ VRs j r cr.toList
  | [], cps, l, cs, r, h, hl, hn, _ => by
    obtain rfl : cps = [] := List.eq_nil_of_length_eq_zero (by simpa using hn.symm)
    cases h
    exact ⟨cs, rfl, hl⟩
  | (i, v) :: rest, cps, l, cs, r, h, hl, hn, hp => by
    cases cps with
    | nil => simp at hn
    | cons c crest =>
      obtain ⟨ci, cv⟩ := c
      obtain ⟨e1, e2⟩ := hp 0 (i, v) (ci, cv) rfl rfl
      dsimp only at e1 e2
      subst e1
      unfold fillA at h
      split at h
      rotate_left
      · cases h
      rename_i off size lv hpl hcl
      split at h
      rotate_left
      · cases h
      rename_i hc
      obtain ⟨hc1, hc2⟩ := hc
      have hcells := cellsA_ok hcl e2
      have hlen := (VRs_iff.1 hcells).1
      have hll := (VRs_iff.1 hl).1
      simp at hlen hll
      unfold Instr.fill
      rw [hpl]
      dsimp only
      have hno : ¬ ((cv.cells.size ≠ size || off + cv.cells.size > cs.size) = true) := by simp; omega
      rw [if_neg hno]
      refine fillA_ok rest crest _ _ r h ?_ (by simpa using hn) (fun k p c hk hck => hp (k + 1) p c (by simpa using hk) (by simpa using hck))
      have := foldl_set cv.cells.toList off 0 cs (by simp; omega)
      rw [← Array.foldl_toList]
      have e3 : (cv.cells.zipIdx).toList = cv.cells.toList.zipIdx 0 := by simp
      rw [e3, this]
      simp only [Nat.add_zero, Array.length_toList]
      have := ((hl.take off).append hcells).append (hl.drop (off + cv.cells.size))
      rw [hlen] 
      exact this

end Go.Proofs.Ytbbgmaklmlagcaa
