/- Maps of plain keys: entries looked up, set, and new maps. -/
import Derived.Test.YtbbgmaklmlagcaaAq
import Derived.RangeFuncRecord
namespace Go.Proofs.Ytbbgmaklmlagcaa

theorem step_put {j : Inj} {H : AHeap} {w : World} (h : R j H w) {b : Nat} {x y : ABlk} {p : JB} {o : Obj} (hb : H[b]? = some x) (hx : x.own = true) (hp : j b = some p) (hy : y = .dead ∨ y.own = true) (hrel : BRel j (w.putObj p.blk o) y p) :
    Step H.length j H w j (H.set b y) (w.putObj p.blk o) := by
  have hlt : b < H.length := (List.getElem?_eq_some_iff.1 hb).1
  have hof : ∀ (c : Nat) (z : ABlk), (H.set b y)[c]? = some z → (c = b ∧ z = y) ∨ (c ≠ b ∧ H[c]? = some z) := by
    intro c z hc
    rw [List.getElem?_set] at hc
    by_cases e : b = c
    · subst e
      simp [hlt] at hc
      exact .inl ⟨rfl, hc.symm⟩
    · rw [if_neg e] at hc
      exact .inr ⟨Ne.symm e, hc⟩
  refine ⟨⟨fun c hc => h.dom c (by simpa using hc), ?_, ?_⟩, fun _ _ => rfl, by simp, ⟨rfl, rfl, rfl, by simp, ?_⟩, ?_⟩
  · intro c z q hc hq
    rcases hof c z hc with ⟨rfl, rfl⟩ | ⟨hne, hc'⟩
    · rw [hp] at hq; cases hq
      exact hrel
    · exact (h.blk c z q hc' hq).mono (JLe.refl j) fun hd => World.putObj_heap_other (fun e => h.inj b c x z p q hb hx hc' hd (Ne.symm hne) hp hq e.symm)
  · intro c c' z z' q q' hc hz hc' hd hne hq hq'
    rcases hof c z hc with ⟨rfl, rfl⟩ | ⟨e1, k1⟩ <;> rcases hof c' z' hc' with ⟨rfl, rfl⟩ | ⟨e2, k2⟩
    · exact absurd rfl hne
    · exact h.inj c c' x z' q q' hb hx k2 hd hne hq hq'
    · exact h.inj c c' z x q q' k1 hz hb (own_nd hx) hne hq hq'
    · exact h.inj c c' z z' q q' k1 hz k2 hd hne hq hq'
  · intro c _ ho
    exact World.putObj_heap_other (fun e => ho b x p hb hx hp e.symm)
  · intro c z q hc hz hq
    rcases hof c z hc with ⟨rfl, rfl⟩ | ⟨e1, k1⟩
    · exact .inr ⟨c, x, q, hb, hx, hq, rfl⟩
    · exact .inr ⟨c, z, q, k1, hz, hq, rfl⟩

/-- A new object. -/
theorem step_newO {j : Inj} {H : AHeap} {w : World} (h : R j H w) {x : ABlk} (o : Obj) (hrel : ∀ w' : World, w'.heap = w.heap.push o → BRel (jput j H.length ⟨w.heap.size, 0, 0⟩) w' x ⟨w.heap.size, 0, 0⟩) :
    Step H.length j H w (jput j H.length ⟨w.heap.size, 0, 0⟩) (H ++ [x]) (w.alloc o) := by
  have hh : (w.alloc o).heap = w.heap.push o := rfl
  have hnone : j H.length = none := h.dom _ (Nat.le_refl _)
  have hle : JLe j (jput j H.length ⟨w.heap.size, 0, 0⟩) := jput_le hnone
  have hold : ∀ c, c < w.heap.size → (w.alloc o).heap[c]? = w.heap[c]? := fun c hc => by
    rw [hh, Array.getElem?_push, if_neg (by omega)]
  have hcase : ∀ c y q, (H ++ [x])[c]? = some y → jput j H.length ⟨w.heap.size, 0, 0⟩ c = some q → (c = H.length ∧ y = x ∧ q = ⟨w.heap.size, 0, 0⟩) ∨ (c ≠ H.length ∧ H[c]? = some y ∧ j c = some q) := by
    intro c y q hc hq
    rw [List.getElem?_append] at hc
    split at hc <;> rename_i hlt
    · exact .inr ⟨by omega, hc, by unfold jput at hq; rw [if_neg (by omega)] at hq; exact hq⟩
    · have hc0 : c = H.length := by
        rcases Nat.lt_or_ge (c - H.length) 1 with h1 | h1
        · omega
        · rw [List.getElem?_eq_none (by simpa using h1)] at hc; cases hc
      subst hc0
      simp at hc
      rw [jput_same] at hq
      cases hq
      exact .inl ⟨rfl, hc.symm, rfl⟩
  refine ⟨⟨?_, ?_, ?_⟩, ?_, by simp, ⟨rfl, rfl, rfl, by rw [hh]; simp, fun c hc _ => hold c hc⟩, ?_⟩
  · intro b hb
    simp at hb
    unfold jput
    rw [if_neg (by omega)]
    exact h.dom b (by omega)
  · intro b y p hb hp
    rcases hcase b y p hb hp with ⟨rfl, rfl, rfl⟩ | ⟨_, hb', hp'⟩
    · exact hrel _ hh
    · exact (h.blk b y p hb' hp').mono hle fun hx => hold _ (h.ltx hb' hx hp')
  · intro b b' y z p p' hb hy hb' hx hne hp hp'
    rcases hcase b y p hb hp with ⟨rfl, rfl, rfl⟩ | ⟨e1, h1, h2⟩ <;> rcases hcase b' z p' hb' hp' with ⟨rfl, rfl, rfl⟩ | ⟨e2, k1, k2⟩
    · exact absurd rfl hne
    · have := h.ltx k1 hx k2; dsimp only; omega
    · have := h.ltx h1 (own_nd hy) h2; dsimp only; omega
    · exact h.inj b b' y z p p' h1 hy k1 hx hne h2 k2
  · intro b hb
    unfold jput
    rw [if_neg (by omega)]
  · intro b y p hb hy hp
    rcases hcase b y p hb hp with ⟨rfl, rfl, rfl⟩ | ⟨_, hb', hp'⟩
    · exact .inl (Nat.le_refl _)
    · exact .inr ⟨b, y, p, hb', hy, hp', rfl⟩

def zeroA (P : Program) (t : TypeId) : Option AV := ((P.info? t).bind (·.zero)).map ofV

theorem zeroA_ok {P : Program} {t : TypeId} {z : AV} (h : zeroA P t = some z) (j : Inj) (w : World) : ∃ i cz, P.info? t = some i ∧ i.zero = some cz ∧ Sem.run P (zeroValue t) w = .ok cz w ∧ VR j z cz := by
  unfold zeroA at h
  obtain ⟨cz, hz, rfl⟩ := Option.map_eq_some_iff.1 h
  obtain ⟨i, hi, hz⟩ := Option.bind_eq_some_iff.1 hz
  refine ⟨i, cz, hi, hz, ?_, VR_ofV j cz⟩
  unfold zeroValue
  rw [rb (run_info hi w), hz]
  rfl

/-- A key of that kind. -/
def keyOk : TypeDesc → AV → Bool
  | .int _, .int _ _ => true
  | .string, .str _ => true
  | _, _ => false

/-- Where a key stands. -/
def findA : List (AV × AV) → AV → Nat → Option (Option (Nat × AV))
  | [], _, _ => some none
  | e :: es, k, i =>
    match primEq k e.1 with
    | some true => some (some (i, e.2))
    | some false => findA es k (i + 1)
    | none => none

theorem findA_ok {j : Inj} {d : TypeDesc} {k : AV} {ck : Value} (hd : keyOk d k = true) (hk : VR j k ck) : ∀ (es : List (AV × AV)) (ents : List MapEntry) (i : Nat) r, MRel j es ents → findA es k i = some r →
    (r = none ∧ Instr.findNow d ck ents i = some none) ∨ (∃ n v cv, r = some (n, v) ∧ Instr.findNow d ck ents i = some (some (n, cv)) ∧ VR j v cv ∧ i ≤ n ∧ ∃ x e, es[n - i]? = some x ∧ ents[n - i]? = some e ∧ primEq k x.1 = some true ∧ VR j x.1 e.key)
  | [], [], i, r, _, h => by cases h; exact .inl ⟨rfl, rfl⟩
  | [], _ :: _, i, r, hm, _ => by have := hm.1; simp at this
  | _ :: _, [], i, r, hm, _ => by have := hm.1; simp at this
  | x :: es, e :: ents, i, r, hm, h => by
    obtain ⟨h1, h2⟩ := hm.2 0 x e rfl rfl
    have hm' : MRel j es ents := ⟨by have := hm.1; simpa using this, fun n y u hy hu => hm.2 (n + 1) y u (by simpa using hy) (by simpa using hu)⟩
    have hsame : ∀ b, primEq k x.1 = some b → Instr.sameNow d ck e.key = some b := by
      intro b hb
      unfold primEq at hb
      split at hb
      · rename_i k1 a k2 c e1
        split at hb <;> cases hb
        rename_i hkk
        subst hkk
        rw [e1] at h1
        simp only [VR] at hk h1
        subst hk; rw [h1]
        cases d <;> simp [keyOk] at hd
        simp [Instr.sameNow]
      · rename_i a c e1
        cases hb
        rw [e1] at h1
        simp only [VR] at hk h1
        subst hk; rw [h1]
        cases d <;> simp [keyOk] at hd
        have : (ByteArray.mk a.toArray == ByteArray.mk c.toArray) = (a == c) := by
          have := beq_toListBytes ⟨a.toArray⟩ ⟨c.toArray⟩
          rw [toList_mk, toList_mk] at this
          exact this
        simp [Instr.sameNow, this]
      · rename_i a c e1
        cases d <;> simp [keyOk] at hd
      · cases hb
    unfold findA at h
    split at h
    · rename_i hp
      cases h
      refine .inr ⟨i, x.2, e.val, rfl, ?_, h2, Nat.le_refl _, x, e, by simp, by simp, hp, h1⟩
      unfold Instr.findNow
      rw [hsame true hp]
    · rename_i hp
      have hs := hsame false hp
      rcases findA_ok hd hk es ents (i + 1) r hm' h with ⟨rfl, g⟩ | ⟨n, v, cv, rfl, g, g2, g3, y, u, g4, g5, g6, g7⟩
      · refine .inl ⟨rfl, ?_⟩
        unfold Instr.findNow
        rw [hs]; exact g
      · refine .inr ⟨n, v, cv, rfl, ?_, g2, by omega, y, u, ?_, ?_, g6, g7⟩
        · unfold Instr.findNow
          rw [hs]; exact g
        · rw [show n - i = (n - (i + 1)) + 1 by omega]; simpa using g4
        · rw [show n - i = (n - (i + 1)) + 1 by omega]; simpa using g5
    · cases h

/-- What a map says of a key. -/
def lookupA (P : Program) (H : AHeap) (t : TypeId) (x k : AV) (ok : Bool) : Option AV :=
  match P.underlying t with
  | some (.map kt et) =>
    match P.underlying kt, zeroA P et with
    | some d, some z =>
      if keyOk d k then
        match (match x with
          | .nilm => some none
          | .map b => (match H[b]? with
            | some (.map es) => findA es k 0
            | _ => none)
          | _ => none) with
        | some (some (_, v)) => some (if ok then .tuple [v, .bool true] else v)
        | some none => some (if ok then .tuple [z, .bool false] else z)
        | none => none
      else none
    | _, _ => none
  | _ => none

theorem run_checkKey {P : Program} {kt : TypeId} {d : TypeDesc} {j : Inj} {k : AV} {ck : Value} (hu : P.underlying kt = some d) (hd : keyOk d k = true) (hk : VR j k ck) (e : Bool) (w : World) : (Instr.checkKey e 10000 kt ck).run P w = .ok () w := by
  have h1 : (10000 : Nat) = 9999 + 1 := rfl
  rw [h1]
  unfold Instr.checkKey
  rw [rb (run_und hu w)]
  cases d <;> cases k <;> simp [keyOk] at hd <;> simp only [VR] at hk <;> subst hk <;> rfl

theorem lookupA_ok {P : Program} {j : Inj} {H : AHeap} {w : World} (hR : R j H w) {t : TypeId} {x k r : AV} {cx ck : Value} {ok : Bool} (h : lookupA P H t x k ok = some r) (hx : VR j x cx) (hk : VR j k ck) :
    ∃ cv, (Instr.lookup t cx ck ok).run P w = .ok cv w ∧ VR j r cv := by
  unfold lookupA at h
  split at h
  rotate_left
  · cases h
  rename_i kt et ht
  split at h
  rotate_left
  · cases h
  rename_i d z hd hz
  split at h
  rotate_left
  · cases h
  rename_i hkd
  obtain ⟨_, cz, _, _, hrz, hvz⟩ := zeroA_ok hz j w
  have fin : ∀ (es : Array MapEntry) (rr : Option (Nat × AV)), ((rr = none ∧ Instr.findNow d ck es.toList 0 = some none) ∨ (∃ n v cv, rr = some (n, v) ∧ Instr.findNow d ck es.toList 0 = some (some (n, cv)) ∧ VR j v cv)) →
      (match some rr with
        | some (some (_, v)) => some (if ok then AV.tuple [v, .bool true] else v)
        | some none => some (if ok then .tuple [z, .bool false] else z)
        | none => none) = some r →
      ∃ cv, Sem.run P (do
        Instr.checkKey es.isEmpty 10000 kt ck
        let (v, o) ← match ← Instr.findKey kt ck es.toList with
          | some (_, v) => pure (v, true)
          | none => pure (← zeroValue et, false)
        pure (if ok then .tuple #[v, .bool o] else v)) w = .ok cv w ∧ VR j r cv := by
    intro es rr hrr hr
    have hfk : ∀ q, Instr.findNow d ck es.toList 0 = some q → Sem.run P (Instr.findKey kt ck es.toList) w = .ok q w := by
      intro q hq
      unfold Instr.findKey
      rw [rb (run_und hd w), hq]
      rfl
    rcases hrr with ⟨rfl, hn⟩ | ⟨n, v, cv, rfl, hn, hv⟩
    · dsimp only at hr
      cases hr
      refine ⟨if ok then .tuple #[cz, .bool false] else cz, ?_, ?_⟩
      · rw [rb (run_checkKey hd hkd hk _ w), rb (hfk _ hn)]
        dsimp only
        rw [rb hrz]
        rfl
      · cases ok
        · exact hvz
        · exact ⟨_, rfl, _, _, rfl, hvz, _, _, rfl, rfl, rfl⟩
    · dsimp only at hr
      cases hr
      refine ⟨if ok then .tuple #[cv, .bool true] else cv, ?_, ?_⟩
      · rw [rb (run_checkKey hd hkd hk _ w), rb (hfk _ hn)]
        rfl
      · cases ok
        · exact hv
        · exact ⟨_, rfl, _, _, rfl, hv, _, _, rfl, rfl, rfl⟩
  unfold Instr.lookup
  rw [rb (run_und ht w)]
  dsimp only
  cases x with
  | nilm =>
    simp only [VR] at hx
    subst hx
    dsimp only at h ⊢
    rw [rb (a := (#[] : Array MapEntry)) (w' := w) rfl]
    exact fin #[] none (.inl ⟨rfl, rfl⟩) h
  | map b =>
    simp only [VR] at hx
    obtain ⟨p, hp, rfl⟩ := hx
    dsimp only at h ⊢
    split at h
    · rename_i i0 v0 hq
      split at hq
      rotate_left
      · cases hq
      rename_i es hb
      obtain ⟨ents, cl, g1, g2⟩ := hR.blk b _ p hb hp
      rw [rb (show Sem.run P (getObj p.blk) w = .ok (.map ents cl) w by simp [getObj, Sem.run, g1])]
      refine fin ents (some (i0, v0)) ?_ h
      rcases findA_ok hkd hk es ents.toList 0 _ g2 hq with ⟨e, _⟩ | ⟨n, v, cv, e, g3, g4, _⟩
      · cases e
      · exact .inr ⟨n, v, cv, e, g3, g4⟩
    · rename_i hq
      split at hq
      rotate_left
      · cases hq
      rename_i es hb
      obtain ⟨ents, cl, g1, g2⟩ := hR.blk b _ p hb hp
      rw [rb (show Sem.run P (getObj p.blk) w = .ok (.map ents cl) w by simp [getObj, Sem.run, g1])]
      refine fin ents none ?_ h
      rcases findA_ok hkd hk es ents.toList 0 _ g2 hq with ⟨_, g3⟩ | ⟨n, v, cv, e, _⟩
      · exact .inl ⟨rfl, g3⟩
      · cases e
    · cases h
  | _ => simp at h

/-- A map's entry is set. -/
def mapSetA (P : Program) (H : AHeap) (t : TypeId) (m k v : AV) : Option AHeap :=
  match P.underlying t, m with
  | some (.map kt _), .map b =>
    match P.underlying kt, H[b]? with
    | some d, some (.map es) =>
      if keyOk d k then
        match findA es k 0 with
        | some (some (i, _)) => some (H.set b (.map (es.set i (k, v))))
        | some none => some (H.set b (.map (es ++ [(k, v)])))
        | none => none
      else none
    | _, _ => none
  | _, _ => none

theorem sameBits_prim {k x : AV} {ck cx : Value} {j : Inj} (h : primEq k x = some true) (hk : VR j k ck) (hx : VR j x cx) : Instr.sameBits 10000 cx ck = true := by
  unfold primEq at h
  split at h
  · rename_i k1 a k2 b
    split at h
    rotate_left
    · cases h
    rename_i hkk
    subst hkk
    have hab : a = b := by simpa using h
    subst hab
    simp only [VR] at hk hx
    subst hk; subst hx
    simp [Instr.sameBits]
  · rename_i a b
    have hab : a = b := by simpa using h
    subst hab
    simp only [VR] at hk hx
    subst hk; subst hx
    have : (ByteArray.mk a.toArray == ByteArray.mk a.toArray) = true := by
      rw [beq_toListBytes]; simp
    simpa [Instr.sameBits] using this
  · rename_i a b
    have hab : a = b := by simpa using h
    subst hab
    simp only [VR] at hk hx
    subst hk; subst hx
    simp [Instr.sameBits]
  · cases h

theorem mapSetA_ok {P : Program} {j : Inj} {H H' : AHeap} {w : World} (hR : R j H w) {t : TypeId} {m k v : AV} {cm ck cv : Value} (h : mapSetA P H t m k v = some H') (hm : VR j m cm) (hk : VR j k ck) (hv : VR j v cv) :
    ∃ w', (Instr.mapUpdate t cm ck cv).run P w = .ok () w' ∧ Step H.length j H w j H' w' := by
  unfold mapSetA at h
  split at h
  rotate_left
  · cases h
  rename_i kt et b ht
  split at h
  rotate_left
  · cases h
  rename_i d es hd hb
  split at h
  rotate_left
  · cases h
  rename_i hkd
  simp only [VR] at hm
  obtain ⟨p, hp, rfl⟩ := hm
  obtain ⟨ents, cl, g1, g2⟩ := hR.blk b _ p hb hp
  have hlt : p.blk < w.heap.size := (Array.getElem?_eq_some_iff.1 g1).1
  have hget : Sem.run P (getObj p.blk) w = .ok (.map ents cl) w := by simp [getObj, Sem.run, g1]
  have hset : ∀ o, Sem.run P (setObj p.blk o) w = .ok () (w.putObj p.blk o) := fun o => by simp [setObj, Sem.run, World.putObj, g1]
  have hfk : ∀ q, Instr.findNow d ck ents.toList 0 = some q → Sem.run P (Instr.findKey kt ck ents.toList) w = .ok q w := by
    intro q hq
    unfold Instr.findKey
    rw [rb (run_und hd w), hq]
    rfl
  unfold Instr.mapUpdate
  rw [rb (run_und ht w)]
  dsimp only
  rw [rb hget]
  dsimp only
  rw [rb (run_checkKey hd hkd hk _ w)]
  split at h
  · rename_i i v0 hf
    cases h
    rcases findA_ok hkd hk es ents.toList 0 _ g2 hf with ⟨e, _⟩ | ⟨n, v1, c1, e, g3, g4, _, x, u, g5, g6, g7, g8⟩
    · cases e
    · cases e
      rw [rb (hfk _ g3)]
      dsimp only
      have g6' : ents[i]? = some u := by simpa using g6
      have hks : Sem.run P (Instr.keyThatStays (((ents[i]?).map (·.key)).getD ck) ck) w = .ok ck w := by
        rw [g6']
        unfold Instr.keyThatStays
        rw [if_pos (sameBits_prim g7 hk (by simpa using g8))]
        rfl
      rw [rb hks, hset]
      refine ⟨_, rfl, step_put (o := .map (ents.modify i fun e => { e with key := ck, val := cv }) cl) hR hb rfl hp (.inr rfl) ⟨_, _, World.putObj_heap_same hlt, ?_⟩⟩
      refine ⟨by simpa using g2.1, fun n y e hy he => ?_⟩
      rw [List.getElem?_set] at hy
      rw [Array.getElem?_toList, Array.getElem?_modify] at he
      by_cases hin : i = n
      · subst hin
        simp only [if_true] at hy he
        split at hy
        · cases hy
          obtain ⟨e0, he0, rfl⟩ := Option.map_eq_some_iff.1 he
          exact ⟨hk, hv⟩
        · cases hy
      · rw [if_neg hin] at hy he
        exact g2.2 n y e hy (by simpa using he)
  · rename_i hf
    cases h
    rcases findA_ok hkd hk es ents.toList 0 _ g2 hf with ⟨_, g3⟩ | ⟨n, v1, c1, e, _⟩
    · rw [rb (hfk _ g3)]
      dsimp only
      rw [hset]
      refine ⟨_, rfl, step_put (o := .map (ents.push { key := ck, val := cv, born := cl }) (cl + 1)) hR hb rfl hp (.inr rfl) ⟨_, _, World.putObj_heap_same hlt, ?_⟩⟩
      refine ⟨by have := g2.1; simp at this ⊢; omega, fun n y e hy he => ?_⟩
      have hlen := g2.1
      rw [List.getElem?_append] at hy
      rw [Array.getElem?_toList, Array.getElem?_push] at he
      simp at hlen
      split at hy
      · rename_i hlt2
        rw [if_neg (by omega)] at he
        exact g2.2 n y e hy (by simpa using he)
      · rename_i hge
        have hn : n = ents.size := by
          rcases Nat.lt_or_ge (n - es.length) 1 with h1 | h1
          · omega
          · rw [List.getElem?_eq_none (by simpa using h1)] at hy; cases hy
        subst hn
        rw [if_pos rfl] at he
        cases he
        rw [show ents.size - es.length = 0 by omega] at hy
        cases hy
        exact ⟨hk, hv⟩
    · cases e
  · cases h

/-- A new map. -/
theorem makeMap_ok {P : Program} {j : Inj} {H : AHeap} {w : World} (hR : R j H w) (t : TypeId) :
    ∃ cv j' w', (Instr.makeMap t none).run P w = .ok cv w' ∧ VR j' (.map H.length) cv ∧ Step H.length j H w j' (H ++ [.map []]) w' := by
  refine ⟨.map (some w.heap.size), _, w.alloc (.map #[] 0), rfl, ⟨_, jput_same _ _ _, rfl⟩, step_newO hR (.map #[] 0) fun w' hw' => ?_⟩
  refine ⟨#[], 0, by rw [hw']; simp, rfl, fun i x e hx => by simp at hx⟩

/-- How many entries there are. -/
def mapLenA (P : Program) (H : AHeap) (t : TypeId) (x : AV) : Option AV :=
  match P.underlying t, x with
  | some (.map _ _), .map b => match H[b]? with
    | some (.map es) => some (.int .i64 es.length)
    | _ => none
  | _, _ => none

end Go.Proofs.Ytbbgmaklmlagcaa
