/- Abstract operations on memory: loads, stores, new blocks. -/
import Derived.Test.YtbbgmaklmlagcaaAo
import Derived.Laws.IdiomCopy
import Derived.ArgAppend
namespace Go.Proofs.Ytbbgmaklmlagcaa

theorem heap_setCells (b : Nat) {T : Nat} {fz : Nat × Nat} : ∀ (vs : List Value) (o : Nat) (w : World) (cs : Array Value), w.heap[b]? = some (.cells cs T fz) →
    ∃ cs', (w.setCells b o vs).heap[b]? = some (.cells cs' T fz) ∧ cs'.size = cs.size ∧ (∀ i, i < cs.size → cs'[i]? = if o ≤ i ∧ i < o + vs.length then vs[i - o]? else cs[i]?)
  | [], o, w, cs, h => ⟨cs, h, rfl, fun i _ => by rw [if_neg]; rintro ⟨h1, h2⟩; simp at h2; omega⟩
  | v :: r, o, w, cs, h => by
    have h1 : (w.setCell ⟨b, o, none⟩ v).heap[b]? = some (.cells (cs.setIfInBounds o v) T fz) := by simp [World.setCell, Array.getElem?_modify, h]
    obtain ⟨cs', e1, e2, e3⟩ := heap_setCells b r (o + 1) (w.setCell ⟨b, o, none⟩ v) _ h1
    refine ⟨cs', e1, by simpa using e2, fun i hi => ?_⟩
    rw [e3 i (by simpa using hi), Array.getElem?_setIfInBounds]
    by_cases e : i = o
    · subst e
      rw [if_neg (by omega), if_pos rfl, if_pos hi, if_pos ⟨Nat.le_refl _, by simp⟩]
      simp
    · by_cases c : o + 1 ≤ i ∧ i < o + 1 + r.length
      · rw [if_pos c, if_pos (by simp; omega)]
        rw [show i - o = (i - (o + 1)) + 1 by omega]
        simp
      · rw [if_neg c, if_neg (Ne.symm e), if_neg (by simp; omega)]

theorem heap_setCells_other (b : Nat) : ∀ (vs : List Value) (o : Nat) (w : World) (k : Nat), k ≠ b → (w.setCells b o vs).heap[k]? = w.heap[k]?
  | [], _, _, _, _ => rfl
  | v :: r, o, w, k, h => by
    rw [World.setCells, heap_setCells_other b r _ _ k h]
    exact RowKit.Below.heap_setCell _ _ _ _ h

theorem setCells_rest (b : Nat) : ∀ (vs : List Value) (o : Nat) (w : World), (w.setCells b o vs).os = w.os ∧ (w.setCells b o vs).tape = w.tape ∧ (w.setCells b o vs).output = w.output ∧ (w.setCells b o vs).heap.size = w.heap.size
  | [], _, _ => ⟨rfl, rfl, rfl, rfl⟩
  | v :: r, o, w => by
    rw [World.setCells]
    obtain ⟨h1, h2, h3, h4⟩ := setCells_rest b r (o + 1) (w.setCell ⟨b, o, none⟩ v)
    exact ⟨h1, h2, h3, by rw [h4]; simp [World.setCell]⟩

/-- A value of one cell. -/
def isCell : AV → Bool
  | .top | .agg _ | .tuple _ => false
  | _ => true

theorem isCell_ok {j : Inj} {x : AV} {v : Value} (h : isCell x = true) (hx : VR j x v) : v.oneCell' = true := by
  cases x <;> simp only [VR] at hx <;> (try (rcases hx with ⟨_, rfl⟩ | ⟨_, _, _, _, rfl, _⟩ <;> rfl; done)) <;> (try obtain ⟨_, _, _, _, rfl, _⟩ := hx) <;> (try obtain ⟨_, _, rfl, _⟩ := hx) <;> (try obtain ⟨_, _, rfl⟩ := hx) <;> (try obtain ⟨_, rfl, _⟩ := hx) <;> (try subst hx) <;> first | rfl | simp [isCell] at h

theorem isCell_all {j : Inj} {l : List AV} {vs : List Value} (h : l.all isCell = true) (hl : VRs j l vs) : ∀ v ∈ vs, v.oneCell' = true := by
  intro v hv
  obtain ⟨i, hi⟩ := List.getElem?_of_mem hv
  have h1 := VRs_iff.1 hl
  have hlt : i < l.length := by
    rw [h1.1]
    rcases Nat.lt_or_ge i vs.length with h2 | h2
    · exact h2
    · rw [List.getElem?_eq_none h2] at hi; cases hi
  exact isCell_ok (List.all_eq_true.1 h _ (List.getElem_mem hlt)) (h1.2 i _ v (List.getElem?_eq_getElem hlt) hi)

theorem R.cell {j : Inj} {H : AHeap} {w : World} (h : R j H w) {b : Nat} {own : Bool} {l : List AV} {p : JB} (hb : H[b]? = some (.cells own l)) (hp : j b = some p) {i : Nat} {x : AV} (hx : l[i]? = some x) :
    ∃ v, w.cell? ⟨p.blk, p.base + i, none⟩ = some v ∧ VR j x v := by
  obtain ⟨cs, T, fz, h1, h2, h3, h4, h5⟩ := h.blk b _ p hb hp
  obtain ⟨v, hv, hr⟩ := h4 i x hx
  exact ⟨v, by simp [World.cell?, h1, hv], hr⟩

/-- The cells of a part of a block, as a world has them. -/
theorem R.cells {j : Inj} {H : AHeap} {w : World} (h : R j H w) {b : Nat} {own : Bool} {l : List AV} {p : JB} (hb : H[b]? = some (.cells own l)) (hp : j b = some p) (off n : Nat) (hn : off + n ≤ l.length) :
    ∃ vs, VRs j ((l.drop off).take n) vs ∧ vs.length = n ∧ ∀ (k : Nat) v, vs[k]? = some v → w.cell? ((⟨p.blk, p.base + off, none⟩ : Addr).add k) = some v := by
  obtain ⟨cs, T, fz, h1, h2, h3, h4, h5⟩ := h.blk b _ p hb hp
  refine ⟨(cs.toList.drop (p.base + off)).take n, VRs_iff.2 ⟨by simp; omega, fun i x v hx hv => ?_⟩, by simp; omega, fun k v hv => ?_⟩
  · rw [List.getElem?_take] at hx hv
    split at hx
    rotate_left
    · cases hx
    rename_i hi
    rw [if_pos hi] at hv
    rw [List.getElem?_drop] at hx hv
    obtain ⟨v', hv', hr⟩ := h4 _ x hx
    have : v = v' := by
      rw [Array.getElem?_toList, show p.base + off + i = p.base + (off + i) by omega, hv'] at hv
      cases hv; rfl
    subst this
    exact hr
  · rw [List.getElem?_take] at hv
    split at hv
    rotate_left
    · cases hv
    rw [List.getElem?_drop, Array.getElem?_toList] at hv
    rw [ptr_add]
    simp [World.cell?, h1, hv]

/-- What is written into a block of its own. -/
theorem step_store {j : Inj} {H : AHeap} {w : World} (h : R j H w) {b : Nat} {l : List AV} {p : JB} (hb : H[b]? = some (.cells true l)) (hp : j b = some p) (off : Nat) (xs : List AV) (vs : List Value)
    (hx : VRs j xs vs) (hn : off + xs.length ≤ l.length) :
    Step H.length j H w j (H.set b (.cells true (l.take off ++ xs ++ l.drop (off + xs.length)))) (w.setCells p.blk (p.base + off) vs) := by
  obtain ⟨cs, T, fz, h1, h2, h3, h4, h5⟩ := h.blk b _ p hb hp
  have hlt : b < H.length := (List.getElem?_eq_some_iff.1 hb).1
  obtain ⟨cs', e1, e2, e3⟩ := heap_setCells p.blk vs (p.base + off) w cs h1
  obtain ⟨s1, s2, s3, s4⟩ := setCells_rest p.blk vs (p.base + off) w
  have hxl := (VRs_iff.1 hx).1
  refine ⟨⟨fun c hc => h.dom c (by simpa using hc), ?_, ?_⟩, fun _ _ => rfl, by simp, ⟨s1, s2, s3, by omega, ?_⟩, ?_⟩
  · intro c x q hc hq
    rw [List.getElem?_set] at hc
    by_cases e : b = c
    · subst e
      simp only [hlt, ↓reduceIte] at hc
      cases hc
      rw [hp] at hq
      cases hq
      refine ⟨cs', T, fz, e1, by rw [e2, h2], by simp; omega, fun i x hxi => ?_, h5⟩
      have hi : i < l.length := by
        have := (List.getElem?_eq_some_iff.1 hxi).1
        simp at this
        omega
      rw [e3 _ (by omega)]
      rw [List.append_assoc, List.getElem?_append] at hxi
      simp only [List.length_take, Nat.min_eq_left (show off ≤ l.length by omega)] at hxi
      split at hxi <;> rename_i hio
      · rw [List.getElem?_take, if_pos hio] at hxi
        rw [if_neg (by omega)]
        exact h4 i x hxi
      · rw [List.getElem?_append] at hxi
        split at hxi <;> rename_i hix
        · rw [if_pos (by omega), show p.base + i - (p.base + off) = i - off by omega]
          exact hx.at hxi
        · rw [List.getElem?_drop] at hxi
          rw [if_neg (by omega)]
          rw [show off + xs.length + (i - off - xs.length) = i by omega] at hxi
          exact h4 i x hxi
    · simp only [e, ↓reduceIte] at hc
      refine (h.blk c x q hc hq).mono (JLe.refl j) fun hd => ?_
      exact heap_setCells_other _ _ _ _ _ (fun e1 => h.inj b c _ x p q hb rfl hc hd e hp hq e1.symm)
  · intro c c' l' x q q' hc hy hc' hd hne hq hq'
    have hown : ∀ (d : Nat) (y : ABlk), (H.set b (.cells true (l.take off ++ xs ++ l.drop (off + xs.length))))[d]? = some y → y ≠ .dead → ∃ y', H[d]? = some y' ∧ y' ≠ .dead ∧ (y.own = true → y'.own = true) := by
      intro d y hdd hy
      rw [List.getElem?_set] at hdd
      by_cases e : b = d
      · subst e
        simp only [hlt, ↓reduceIte] at hdd
        cases hdd
        exact ⟨_, hb, by simp, fun _ => rfl⟩
      · simp only [e, ↓reduceIte] at hdd
        exact ⟨y, hdd, hy, id⟩
    obtain ⟨y1, k1, _, k2⟩ := hown c _ hc (own_nd hy)
    obtain ⟨y2, g1, g2, _⟩ := hown c' x hc' hd
    exact h.inj c c' y1 y2 q q' k1 (k2 hy) g1 g2 hne hq hq'
  · intro c _ ho
    exact heap_setCells_other _ _ _ _ _ (fun e => ho b _ p hb rfl hp e.symm)
  · intro c l' q hc hy hq
    rw [List.getElem?_set] at hc
    by_cases e : b = c
    · subst e
      exact .inr ⟨b, _, p, hb, rfl, hp, by rw [hp] at hq; cases hq; rfl⟩
    · simp only [e, ↓reduceIte] at hc
      exact .inr ⟨c, l', q, hc, hy, hq, rfl⟩

def loadA (P : Program) (H : AHeap) (t : TypeId) (x : AV) : Option AV :=
  match x with
  | .ptr b off =>
    match H[b]?, P.underlying t, sizeA P t with
    | some (.cells _ l), some d, some sz => if isAggA d then (if off + sz ≤ l.length then some (.agg ((l.drop off).take sz)) else none) else l[off]?
    | _, _, _ => none
  | _ => none

theorem loadA_ok {P : Program} {j : Inj} {H : AHeap} {w : World} (hR : R j H w) {t : TypeId} {x r : AV} {cx : Value} (h : loadA P H t x = some r) (hx : VR j x cx) :
    ∃ cv, (Instr.loadAt t cx).run P w = .ok cv w ∧ VR j r cv := by
  unfold loadA at h
  split at h
  rotate_left
  · cases h
  rename_i b off
  simp only [VR] at hx
  obtain ⟨p, hp, rfl⟩ := hx
  split at h
  rotate_left
  · cases h
  rename_i own l d sz hb hd hi
  unfold Instr.loadAt
  rw [rb (a := (⟨p.blk, p.base + off, none⟩ : Addr)) (w' := w) rfl]
  unfold loadVar
  rw [rb (run_isAgg hd w)]
  split at h
  · rename_i ha
    rw [if_pos ha]
    split at h <;> cases h
    rename_i hle
    obtain ⟨vs, h1, h2, h3⟩ := hR.cells hb hp off sz hle
    rw [rb (sizeA_ok hi w)]
    refine ⟨.agg vs.toArray, ?_, vs.toArray, rfl, by simpa using h1⟩
    have := run_loadCells_list (P := P) w ⟨p.blk, p.base + off, none⟩ vs h3
    rw [h2] at this
    rw [rb this]
    rfl
  · rename_i ha
    rw [if_neg ha]
    obtain ⟨v, hv, hr⟩ := hR.cell hb hp h
    exact ⟨v, by simp [load, Sem.run, hv], hr⟩

def storeA (P : Program) (H : AHeap) (t : TypeId) (x v : AV) : Option AHeap :=
  match x, cellsA v with
  | .ptr b off, some xs =>
    match H[b]? with
    | some (.cells true l) => if sizeA P t = some xs.length ∧ off + xs.length ≤ l.length ∧ xs.all isCell then some (H.set b (.cells true (l.take off ++ xs ++ l.drop (off + xs.length)))) else none
    | _ => none
  | _, _ => none

theorem storeA_ok {P : Program} {j : Inj} {H H' : AHeap} {w : World} (hR : R j H w) {t : TypeId} {x v : AV} {cx cv : Value} (h : storeA P H t x v = some H') (hx : VR j x cx) (hv : VR j v cv) :
    ∃ w', (Instr.storeAt t cx cv).run P w = .ok () w' ∧ Step H.length j H w j H' w' := by
  unfold storeA at h
  split at h
  rotate_left
  · cases h
  rename_i b off xs hxs
  simp only [VR] at hx
  obtain ⟨p, hp, rfl⟩ := hx
  split at h
  rotate_left
  · cases h
  rename_i l hb
  split at h <;> cases h
  rename_i hc
  obtain ⟨hsz, hle, hall⟩ := hc
  have hcs := cellsA_ok hxs hv
  have hlen := (VRs_iff.1 hcs).1
  refine ⟨_, ?_, step_store hR hb hp off xs _ hcs hle⟩
  unfold Instr.storeAt
  rw [rb (a := (⟨p.blk, p.base + off, none⟩ : Addr)) (w' := w) rfl]
  unfold storeVar
  rw [rb (sizeA_ok hsz w)]
  have hno : ¬ (cv.cells.size ≠ xs.length) := by simp at hlen; omega
  rw [if_neg hno]
  obtain ⟨cs, T, fz, h1, h2, h3, h4, h5⟩ := hR.blk b _ p hb hp
  have := run_storeCells_cells (P := P) p.blk (p.base + off) cv.cells.toList 0 w
    (fun k hk => by
      simp [World.cell?, h1]
      simp at hlen hk
      omega)
    (fun k hk => by
      have hk' : p.base + off + 0 + k < p.size := by simp at hlen hk; omega
      have := h5 rfl (p.base + off + 0 + k) hk'
      obtain ⟨f1, f2⟩ := fz
      simp [World.frozen?, h1] at this ⊢
      omega)
    (isCell_all hall hcs)
  simpa using this

end Go.Proofs.Ytbbgmaklmlagcaa
