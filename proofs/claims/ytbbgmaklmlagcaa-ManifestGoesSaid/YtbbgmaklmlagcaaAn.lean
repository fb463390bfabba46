/- Abstract operations that make memory: new blocks, bytes of texts, append. -/
import Derived.Test.YtbbgmaklmlagcaaAm
namespace Go.Proofs.Ytbbgmaklmlagcaa

/-- An operation makes a new block of these cells; mk: what it puts. -/
def NewRun (P : Program) (o : Oper) (a : Act) (j : Inj) (w : World) (mk : Nat → AV) (l : List AV) : Prop :=
  ∃ cv cs T fz w', (execOp a.eval o).run P w = .ok (.value cv) w' ∧ w'.heap = w.heap.push (.cells cs T fz) ∧ w'.os = w.os ∧ w'.tape = w.tape ∧ w'.output = w.output ∧ l.length ≤ cs.size ∧
    VRs j l (cs.toList.take l.length) ∧ (∀ i, i < cs.size → ¬ (fz.1 ≤ i ∧ i < fz.2)) ∧ ∀ (j' : Inj) id, j' id = some ⟨w.heap.size, 0, cs.size⟩ → VR j' (mk id) cv

theorem NewRun.step {P : Program} {o : Oper} {a : Act} {j : Inj} {w : World} {mk : Nat → AV} {l : List AV} (h : NewRun P o a j w mk l) {H : AHeap} (hR : R j H w) :
    ∃ cv j' w', (execOp a.eval o).run P w = .ok (.value cv) w' ∧ VR j' (mk H.length) cv ∧ Step H.length j H w j' (H ++ [.cells true l]) w' := by
  obtain ⟨cv, cs, T, fz, w', h1, h2, h3, h4, h5, h6, h7, h8, h9⟩ := h
  exact ⟨cv, _, w', h1, h9 _ _ (jput_same _ _ _), step_newG hR true l cs T fz h2 h3 h4 h5 h6 h7 (fun _ => h8)⟩

theorem pre_whole {j : Inj} {l : List AV} {cs : Array Value} (h : VRs j l cs.toList) : l.length ≤ cs.size ∧ VRs j l (cs.toList.take l.length) := by
  have hl := h.length
  refine ⟨by simp at hl; omega, ?_⟩
  rw [hl, List.take_length]
  exact h

/-- What a new variable is: its cells. -/
def newA (P : Program) (F : List AV) : Op → Option (List AV)
  | .alloc t => (zeroA P t).bind cellsA
  | .box _ x => cellsA (ev F x)
  | _ => none

theorem newA_ok {P : Program} {j : Inj} {F : List AV} {a : Act} (hF : VRs j F a.tmps.toList) (w : World) {o : Oper} {l : List AV} (h : newA P F o.op = some l) : NewRun P o a j w (fun id => .ptr id 0) l := by
  unfold newA at h
  have key : ∀ (t : TypeId) (v : Value), VRs j l v.cells.toList → ∃ cv cs T fz w', Sem.run P (do pure (Value.pointer (some (← newVar t v)))) w = .ok cv w' ∧ w'.heap = w.heap.push (.cells cs T fz) ∧ w'.os = w.os ∧ w'.tape = w.tape ∧ w'.output = w.output ∧ l.length ≤ cs.size ∧
      VRs j l (cs.toList.take l.length) ∧ (∀ i, i < cs.size → ¬ (fz.1 ≤ i ∧ i < fz.2)) ∧ ∀ (j' : Inj) id, j' id = some ⟨w.heap.size, 0, cs.size⟩ → VR j' (.ptr id 0) cv := by
    intro t v hv
    obtain ⟨p1, p2⟩ := pre_whole hv
    exact ⟨_, v.cells, t, (0, 0), w.alloc (.cells v.cells t), rfl, rfl, rfl, rfl, rfl, p1, p2, fun i _ hh => by simp at hh, fun j' id hj => ⟨_, hj, rfl⟩⟩
  split at h
  · rename_i t ho
    obtain ⟨z, hz, hc⟩ := Option.bind_eq_some_iff.1 h
    obtain ⟨i, cz, _, _, hr, hv⟩ := zeroA_ok hz j w
    obtain ⟨cv, cs, T, fz, w', h1, h2⟩ := key t cz (cellsA_ok hc hv)
    refine ⟨cv, cs, T, fz, w', ?_, h2⟩
    unfold execOp
    rw [ho]
    dsimp only
    have e : Sem.run P (Instr.alloc t true (.tuple #[])) w = .ok cv w' := by
      unfold Instr.alloc
      rw [rb hr]
      exact h1
    rw [rb e]
    rfl
  · rename_i t x ho
    obtain ⟨cv, cs, T, fz, w', h1, h2⟩ := key t (a.eval x) (cellsA_ok h (ev_ok hF x))
    refine ⟨cv, cs, T, fz, w', ?_, h2⟩
    unfold execOp
    rw [ho]
    dsimp only
    rw [rb (show Sem.run P (Instr.box t (a.eval x)) w = .ok cv w' from h1)]
    rfl
  · cases h

/-- n elements of zeros. -/
def zerosA (z : List AV) : Nat → List AV
  | 0 => []
  | n + 1 => z ++ zerosA z n

theorem zerosA_length (z : List AV) (n : Nat) : (zerosA z n).length = n * z.length := by
  induction n with
  | zero => simp [zerosA]
  | succ n ih => simp [zerosA, ih, Nat.add_mul]; omega

theorem zerosA_get (z : List AV) : ∀ (n i : Nat), i < n * z.length → (zerosA z n)[i]? = z[i % z.length]?
  | 0, i, h => by simp at h
  | n + 1, i, h => by
    have hz : 0 < z.length := by
      rcases Nat.eq_zero_or_pos z.length with h0 | h0
      · rw [h0] at h; simp at h
      · exact h0
    simp only [zerosA]
    rw [List.getElem?_append]
    split
    · rename_i hlt; rw [Nat.mod_eq_of_lt hlt]
    · rename_i hge
      rw [zerosA_get z n _ (by rw [Nat.add_mul] at h; omega), ← Nat.mod_eq_sub_mod (by omega)]

theorem zeros_ok {j : Inj} {z : List AV} {cz : Array Value} (h : VRs j z cz.toList) (n : Nat) : VRs j (zerosA z n) ((Array.range (n * cz.size)).map (cz[· % cz.size]!)).toList := by
  have h1 := VRs_iff.1 h
  have hl : z.length = cz.size := by simpa using h1.1
  refine VRs_iff.2 ⟨by rw [zerosA_length, hl]; simp, fun i x v hx hv => ?_⟩
  have hi : i < n * z.length := by rw [← zerosA_length]; exact (List.getElem?_eq_some_iff.1 hx).1
  have hz : 0 < z.length := by
    rcases Nat.eq_zero_or_pos z.length with h0 | h0
    · rw [h0] at hi; simp at hi
    · exact h0
  rw [zerosA_get z n i hi] at hx
  have hm : i % cz.size < cz.size := Nat.mod_lt _ (by omega)
  have e : v = cz[i % cz.size] := by
    rw [Array.getElem?_toList, Array.getElem?_map, Array.getElem?_range] at hv
    rw [if_pos (by rw [← hl]; exact hi)] at hv
    cases hv
    exact getElem!_pos cz _ hm
  subst e
  rw [hl] at hx
  exact h1.2 _ x _ hx (by simp [hm])

/-- A new row: its elements' number, their size, whether nothing is behind them, and its cells. -/
def rowA (P : Program) (F : List AV) : Op → Option (Nat × Nat × List AV)
  | .buildSlice t n ps =>
    match P.underlying t with
    | some (.slice e) =>
      match sizeA P e, (zeroA P e).bind cellsA with
      | some sz, some z => if z.length = sz ∧ 0 < sz ∧ n * sz ≤ 16777216 then (fillA (fun i => some (i * sz, sz)) (zerosA z n) (ps.toList.map fun (i, x) => (i, ev F x))).map fun l => (n, sz, l) else none
      | _, _ => none
    | _ => none
  | .makeSlice t l c =>
    match P.underlying t, ev F l, ev F c with
    | some (.slice e), .int .i64 l, .int .i64 c =>
      match sizeA P e, bytesSz P e, (zeroA P e).bind cellsA with
      | some sz, some by_, some z => if z.length = sz ∧ 0 < sz ∧ 0 ≤ l ∧ l = c ∧ by_ * c ≤ 281474976710656 ∧ c ≤ 9223372036854775807 then some (l.toNat, sz, zerosA z l.toNat) else none
      | _, _, _ => none
    | _, _, _ => none
  | _ => none

theorem fill_size {place : Nat → Option (Nat × Nat)} {ps : List (Nat × AV)} {l r : List AV} (h : fillA place l ps = some r) : r.length = l.length := by
  induction ps generalizing l with
  | nil => cases h; rfl
  | cons p rest ih =>
    obtain ⟨i, v⟩ := p
    unfold fillA at h
    split at h
    · split at h
      · rename_i hc
        rw [ih h]
        simp
        omega
      · cases h
    · cases h

theorem rowA_ok {P : Program} {j : Inj} {F : List AV} {a : Act} (hF : VRs j F a.tmps.toList) (w : World) {o : Oper} {n sz : Nat} {l : List AV} (h : rowA P F o.op = some (n, sz, l)) : NewRun P o a j w (fun id => .slice id 0 n sz true) l := by
  have key : ∀ (e : TypeId) (cs : Array Value), VRs j l cs.toList → cs.size = n * sz → n ≤ maxLen → ∃ cv cs' T fz w', Sem.run P (do pure (Value.slice (some (← newRow e cs)) n n)) w = .ok cv w' ∧ w'.heap = w.heap.push (.cells cs' T fz) ∧ w'.os = w.os ∧ w'.tape = w.tape ∧ w'.output = w.output ∧ l.length ≤ cs'.size ∧
      VRs j l (cs'.toList.take l.length) ∧ (∀ i, i < cs'.size → ¬ (fz.1 ≤ i ∧ i < fz.2)) ∧ ∀ (j' : Inj) id, j' id = some ⟨w.heap.size, 0, cs'.size⟩ → VR j' (.slice id 0 n sz true) cv := by
    intro e cs hv hs hn
    obtain ⟨p1, p2⟩ := pre_whole hv
    refine ⟨_, cs, e, (0, 0), w.alloc (.cells cs e), rfl, rfl, rfl, rfl, rfl, p1, p2, fun i _ hh => by simp at hh, fun j' id hj => ?_⟩
    exact ⟨_, _, n, hj, rfl, Nat.le_refl _, fun _ => rfl, hn, .inr ⟨rfl, by simp; omega⟩⟩
  unfold rowA at h
  split at h
  · rename_i t m ps ho
    split at h
    rotate_left
    · cases h
    rename_i e ht
    split at h
    rotate_left
    · cases h
    rename_i s z hs hz
    split at h
    rotate_left
    · cases h
    rename_i hc
    obtain ⟨hc1, hc2, hc3⟩ := hc
    obtain ⟨l', hl, e1⟩ := Option.map_eq_some_iff.1 h
    cases e1
    obtain ⟨za, hza, hzc⟩ := Option.bind_eq_some_iff.1 hz
    obtain ⟨i, cz, hi, hiz, hr, hv⟩ := zeroA_ok hza j w
    have hcz := cellsA_ok hzc hv
    have hczl : cz.cells.size = sz := by have := hcz.length; simp at this; omega
    have hzero := zeros_ok hcz n
    obtain ⟨cr, hf, hcr⟩ := fillA_ok (j := j) _ (ps.map fun (i, x) => (i, a.eval x)).toList _ _ _ hl hzero (by simp) (fun k p c hp hc => by
      simp only [List.getElem?_map, Array.toList_map] at hp hc
      cases hg : ps.toList[k]? with
      | none => rw [hg] at hp; cases hp
      | some q =>
        rw [hg] at hp hc
        obtain ⟨qi, qx⟩ := q
        cases hp; cases hc
        exact ⟨rfl, ev_ok hF qx⟩)
    have hcs : cr.size = n * sz := by
      have h1 := hcr.length
      have h2 := fill_size hl
      rw [zerosA_length, hc1] at h2
      simp at h1
      omega
    have hnle : n ≤ maxLen := by
      have : n * 1 ≤ n * sz := Nat.mul_le_mul_left _ hc2
      unfold maxLen; omega
    obtain ⟨cv, cs', T', fz', w', h1, h2⟩ := key e cr hcr hcs hnle
    refine ⟨cv, cs', T', fz', w', ?_, h2⟩
    unfold execOp
    rw [ho]
    dsimp only
    have e2 : Sem.run P (Instr.buildSlice t n (ps.map fun (i, x) => (i, a.eval x))) w = .ok cv w' := by
      unfold Instr.buildSlice
      rw [rb (run_und ht w)]
      dsimp only
      rw [rb (sizeA_ok hs w)]
      rw [if_neg (by omega)]
      by_cases h0 : n * sz = 0
      · rw [if_pos h0, rb (a := #[]) (w' := w) rfl]
        have e4 : ((Array.range (n * sz)).map ((#[] : Array Value)[· % (#[] : Array Value).size]!)) = ((Array.range (n * cz.cells.size)).map (cz.cells[· % cz.cells.size]!)) := by
          rw [hczl]; simp [h0]
        rw [e4, hf]
        exact h1
      · rw [if_neg h0, rb hr, rb (a := cz.cells) (w' := w) rfl]
        rw [hczl] at hf
        rw [hczl, hf]
        exact h1
    rw [rb e2]
    rfl
  · rename_i t lo co ho
    split at h
    rotate_left
    · cases h
    rename_i e li ci ht hl hc
    split at h
    rotate_left
    · cases h
    rename_i s y z hs hy hz
    split at h
    rotate_left
    · cases h
    rename_i hcc
    obtain ⟨c1, c2, c3, rfl, c5, c6⟩ := hcc
    cases h
    obtain ⟨za, hza, hzc⟩ := Option.bind_eq_some_iff.1 hz
    obtain ⟨i, cz, hi, hiz, hr, hv⟩ := zeroA_ok hza j w
    obtain ⟨i', hi', e1⟩ := Option.map_eq_some_iff.1 hs
    rw [hi] at hi'
    cases hi'
    obtain ⟨i', hi', e2⟩ := Option.map_eq_some_iff.1 hy
    rw [hi] at hi'
    cases hi'
    subst e1; subst e2
    have hcz := cellsA_ok hzc hv
    have hczl : cz.cells.size = i.size := by have := hcz.length; simp at this; omega
    have hzero := zeros_ok hcz li.toNat
    obtain ⟨cv, cs', T', fz', w', h1, h2⟩ := key e _ hzero (by simp [hczl]) (by unfold maxLen; omega)
    refine ⟨cv, cs', T', fz', w', ?_, h2⟩
    have hle := ev_ok hF lo
    rw [hl] at hle
    simp only [VR] at hle
    have hce := ev_ok hF co
    rw [hc] at hce
    simp only [VR] at hce
    unfold execOp
    rw [ho]
    dsimp only
    rw [hle, hce]
    have hwrap : IntKind.i64.wrap li = li := IntWalk.i64_in _ (by omega)
    have e2 : Sem.run P (Instr.makeSlice t (.int .i64 li) (.int .i64 li)) w = .ok cv w' := by
      unfold Instr.makeSlice
      rw [rb (run_und ht w)]
      dsimp only
      rw [rb (a := li) (w' := w) rfl, rb (a := li) (w' := w) rfl, rb (run_info hi w)]
      rw [hwrap]
      have hno : ¬ ((decide (li < 0) || decide ((i.bytes : Int) * li > 2 ^ 48) || decide (li < 0) || decide (li > li)) = true) := by simp; omega
      rw [if_neg (by simpa using hno)]
      have eroom : Sem.run P (askRoom (li.toNat * i.bytes)) w = .ok () w := by
        unfold askRoom
        split <;> rfl
      rw [rb eroom, rb (run_sizeOf hi w)]
      by_cases h0 : li.toNat * i.size = 0
      · rw [if_pos h0, rb (a := #[]) (w' := w) rfl]
        have e4 : ((Array.range (li.toNat * i.size)).map ((#[] : Array Value)[· % (#[] : Array Value).size]!)) = ((Array.range (li.toNat * cz.cells.size)).map (cz.cells[· % cz.cells.size]!)) := by
          rw [hczl]; simp [h0]
        rw [e4]
        exact h1
      · rw [if_neg h0, rb hr, rb (a := cz.cells) (w' := w) rfl]
        rw [hczl] at h1
        rw [hczl]
        exact h1
    rw [rb e2]
    rfl
  · cases h

/-- Bytes of cells. -/
def bytesOf : List AV → Option (List UInt8)
  | [] => some []
  | .int .u8 n :: xs => (bytesOf xs).map (UInt8.ofNat n.toNat :: ·)
  | _ => none

def bytesA (s : List UInt8) : List AV := s.map fun b => .int .u8 b.toNat

theorem bytesOf_bytesA (s : List UInt8) : bytesOf (bytesA s) = some s := by
  induction s with
  | nil => rfl
  | cons b s ih =>
    show Option.map (UInt8.ofNat (Int.toNat (b.toNat : Int)) :: ·) (bytesOf (bytesA s)) = _
    rw [ih]
    simp

theorem bytesOf_ok {j : Inj} : ∀ {l : List AV} {vs : List Value} {s : List UInt8}, bytesOf l = some s → VRs j l vs → ∃ ns : List Int, vs = ns.map (Value.int .u8) ∧ s = ns.map fun n => UInt8.ofNat n.toNat
  | [], vs, s, h, hl => by
    simp only [VRs] at hl
    subst hl
    cases h
    exact ⟨[], rfl, rfl⟩
  | x :: xs, vs, s, h, hl => by
    simp only [VRs] at hl
    obtain ⟨v, ws, rfl, h1, h2⟩ := hl
    unfold bytesOf at h
    split at h
    · cases ‹_ = []›
    · rename_i n ys e
      cases e
      obtain ⟨s', hs, rfl⟩ := Option.map_eq_some_iff.1 h
      obtain ⟨ns, rfl, rfl⟩ := bytesOf_ok hs h2
      simp only [VR] at h1
      subst h1
      exact ⟨n :: ns, rfl, rfl⟩
    · cases h

def isU8 : Option TypeDesc → Bool
  | some (.int .u8) => true
  | _ => false

theorem isU8_eq {d : Option TypeDesc} (h : isU8 d = true) : d = some (.int .u8) := by
  unfold isU8 at h
  split at h
  · rfl
  · cases h

/-- What is read of memory alone. -/
def readA (P : Program) (F : List AV) (H : AHeap) : Op → Option AV
  | .lookup t x i ok => lookupA P H t (ev F x) (ev F i) ok
  | .load t x => loadA P H t (ev F x)
  | .convert s d x =>
    match P.underlying s, P.underlying d, ev F x with
    | some (.slice e), some .string, .slice b off n 1 _ =>
      if isU8 (P.underlying e) then
        match H[b]? with
        | some (.cells _ l) => if off + n ≤ l.length then (bytesOf ((l.drop off).take n)).map .str else none
        | _ => none
      else none
    | some (.slice e), some .string, .nils => if isU8 (P.underlying e) then some (.str []) else none
    | some (.slice e), some .string, .sl b off n 1 _ =>
      if isU8 (P.underlying e) then
        if n = 0 then some (.str []) else
        match H[b]? with
        | some (.cells _ l) => if off + n ≤ l.length then (bytesOf ((l.drop off).take n)).map .str else none
        | _ => none
      else none
    | _, _, _ => none
  | .slice t x lo hi mx =>
    match P.underlying t, ev F x with
    | some (.array n e), .ptr b off =>
      match sizeA P e, H[b]? with
      | some sz, some (.cells _ l) => if off + n * sz ≤ l.length then sliceA P F t (.ptr b off) lo hi mx else none
      | _, _ => none
    | _, _ => none
  | _ => none

theorem strOfNums_ofNat (ns : List Int) : strOfNums ns = ⟨(ns.map fun n : Int => UInt8.ofNat n.toNat).toArray⟩ := by
  unfold strOfNums
  rfl

theorem readA_ok {P : Program} {j : Inj} {F : List AV} {a : Act} (hF : VRs j F a.tmps.toList) {H : AHeap} {w : World} (hR : R j H w) {o : Oper} {r : AV} (h : readA P F H o.op = some r) :
    ∃ cv, (execOp a.eval o).run P w = .ok (.value cv) w ∧ VR j r cv := by
  unfold readA at h
  unfold execOp
  split at h
  · rename_i t x i ok ho
    rw [ho]
    dsimp only
    obtain ⟨cv, h1, h2⟩ := lookupA_ok hR h (ev_ok hF x) (ev_ok hF i)
    exact ⟨cv, by rw [rb h1]; rfl, h2⟩
  · rename_i t x ho
    rw [ho]
    dsimp only
    obtain ⟨cv, h1, h2⟩ := loadA_ok hR h (ev_ok hF x)
    exact ⟨cv, by rw [rb h1]; rfl, h2⟩
  · rename_i s d x ho
    rw [ho]
    dsimp only
    have hx := ev_ok hF x
    split at h
    · rename_i e b off n c hs hd hev
      rw [hev] at hx
      simp only [VR] at hx
      obtain ⟨p, ad, cap, hp, hcx, hlc, hclip, hm, hadr⟩ := hx
      split at h
      rotate_left
      · cases h
      rename_i he0
      have he := isU8_eq he0
      split at h
      rotate_left
      · cases h
      rename_i own l hb
      split at h
      rotate_left
      · cases h
      rename_i hle
      obtain ⟨s', hs', rfl⟩ := Option.map_eq_some_iff.1 h
      obtain ⟨vs, v1, v2, v3⟩ := hR.cells hb hp off n hle
      obtain ⟨ns, rfl, rfl⟩ := bytesOf_ok hs' v1
      refine ⟨.string ⟨(ns.map fun n : Int => UInt8.ofNat n.toNat).toArray⟩, ?_, rfl⟩
      rw [hcx]
      have e1 : Sem.run P (convert s d (.slice (some ad) n cap)) w = .ok (.string ⟨(ns.map fun n : Int => UInt8.ofNat n.toNat).toArray⟩) w := by
        by_cases h0 : cap = 0
        · have hn0 : n = 0 := by omega
          subst hn0
          have : ns = [] := List.eq_nil_of_length_eq_zero (by simpa using v2)
          subst this
          rw [run_convert_bytes_string w s d e ad 0 cap hs he hd]
          rfl
        · rcases hadr with h1 | ⟨rfl, _⟩
          · exact absurd h1 h0
          rw [run_convert_bytes_arg w s e hs he p.blk (p.base + off) n cap ns (by simpa using v2) (fun i hi => ?_) d hd, strOfNums_ofNat]
          have hil : i < ns.length := by simp at v2; omega
          have := v3 i (.int .u8 (ns.getD i 0)) (by simp [List.getD_eq_getElem?_getD, List.getElem?_eq_getElem hil])
          rw [ptr_add] at this
          exact this
      rw [rb e1]
      rfl
    · rename_i e hs hd hev
      rw [hev] at hx
      simp only [VR] at hx
      split at h
      rotate_left
      · cases h
      rename_i he0
      have he := isU8_eq he0
      cases h
      refine ⟨.string .empty, ?_, rfl⟩
      rw [hx, rb (run_convert_bytes_nil w s e hs he 0 0 d hd)]
      rfl
    · rename_i e b off n c hs hd hev
      rw [hev] at hx
      split at h
      rotate_left
      · cases h
      rename_i he0
      have he := isU8_eq he0
      split at h
      · rename_i hn0
        cases h
        subst hn0
        refine ⟨.string .empty, ?_, rfl⟩
        rcases VR_sl hx with ⟨_, hx'⟩ | hx'
        · rw [hx', rb (run_convert_bytes_nil w s e hs he 0 0 d hd)]
          rfl
        · simp only [VR] at hx'
          obtain ⟨p, ad, cap, hp, hcx, _⟩ := hx'
          rw [hcx, rb (run_convert_bytes_string w s d e ad 0 cap hs he hd)]
          rfl
      · rename_i hn0
        have hx' := VR_sl_pos (by omega) hx
        simp only [VR] at hx'
        obtain ⟨p, ad, cap, hp, hcx, hlc, hclip, hm, hadr⟩ := hx'
        split at h
        rotate_left
        · cases h
        rename_i own l hb
        split at h
        rotate_left
        · cases h
        rename_i hle
        obtain ⟨s', hs', rfl⟩ := Option.map_eq_some_iff.1 h
        obtain ⟨vs, v1, v2, v3⟩ := hR.cells hb hp off n hle
        obtain ⟨ns, rfl, rfl⟩ := bytesOf_ok hs' v1
        refine ⟨.string ⟨(ns.map fun n : Int => UInt8.ofNat n.toNat).toArray⟩, ?_, rfl⟩
        rw [hcx]
        have e1 : Sem.run P (convert s d (.slice (some ad) n cap)) w = .ok (.string ⟨(ns.map fun n : Int => UInt8.ofNat n.toNat).toArray⟩) w := by
          rcases hadr with h1 | ⟨rfl, _⟩
          · omega
          rw [run_convert_bytes_arg w s e hs he p.blk (p.base + off) n cap ns (by simpa using v2) (fun i hi => ?_) d hd, strOfNums_ofNat]
          have hil : i < ns.length := by simp at v2; omega
          have := v3 i (.int .u8 (ns.getD i 0)) (by simp [List.getD_eq_getElem?_getD, List.getElem?_eq_getElem hil])
          rw [ptr_add] at this
          exact this
        rw [rb e1]
        rfl
    · cases h
  · rename_i t x lo hi mx ho
    rw [ho]
    dsimp only
    have hx := ev_ok hF x
    split at h
    rotate_left
    · cases h
    rename_i n e b off ht hev
    rw [hev] at hx
    split at h
    rotate_left
    · cases h
    rename_i sz own l hsz hb
    split at h
    rotate_left
    · cases h
    rename_i hle
    obtain ⟨cv, h1, h2⟩ := sliceA_ok hF h hx w (fun b' off' n' e' sz' e1 e2 e3 => by
      cases e1
      rw [ht] at e2
      cases e2
      rw [hsz] at e3
      cases e3
      intro p hp
      obtain ⟨cs, T, fz, g1, g2, g3, _⟩ := hR.blk b _ p hb hp
      omega)
    exact ⟨cv, by rw [rb h1]; rfl, h2⟩
  · cases h

/-- A text's bytes, as a new row. -/
def textA (P : Program) (F : List AV) : Op → Option (List UInt8)
  | .convert s d x =>
    match P.underlying s, P.underlying d, ev F x with
    | some .string, some (.slice e), .str s => if isU8 (P.underlying e) && s.length ≤ 9223372036854775807 then some s else none
    | _, _, _ => none
  | _ => none

theorem textA_ok {P : Program} {j : Inj} {F : List AV} {a : Act} (hF : VRs j F a.tmps.toList) (w : World) {o : Oper} {s : List UInt8} (h : textA P F o.op = some s) : NewRun P o a j w (fun id => .slice id 0 s.length 1 false) (bytesA s) := by
  unfold textA at h
  split at h
  rotate_left
  · cases h
  rename_i src d x ho
  have hx := ev_ok hF x
  split at h
  rotate_left
  · cases h
  rename_i e s' hs hd hev
  rw [hev] at hx
  simp only [VR] at hx
  split at h <;> cases h
  rename_i hc
  simp only [Bool.and_eq_true, decide_eq_true_eq] at hc
  obtain ⟨he0, hlen⟩ := hc
  have he := isU8_eq he0
  have hge := grownCap_ge w s.length 0 e
  have hle := grownCap_le_maxLen w s.length 0 e hlen
  have hsz : (ByteArray.mk s.toArray).size = s.length := str_size s
  have hrun := run_bytes_of_string (P := P) w src d e ⟨s.toArray⟩ hs hd he
  rw [hsz] at hrun
  obtain ⟨cs, hcs⟩ : ∃ cs, bytesRow ⟨s.toArray⟩ (grownCap w s.length 0 e) = cs := ⟨_, rfl⟩
  rw [hcs] at hrun
  have hcz : cs.size = grownCap w s.length 0 e := by
    rw [← hcs]; unfold bytesRow; simp [ByteArray.size]; omega
  have hpre : cs.toList.take (bytesA s).length = s.map fun b => Value.int .u8 b.toNat := by
    rw [← hcs]; unfold bytesRow
    simp only [Array.toList_append, Array.toList_map]
    rw [List.take_append_of_le_length (by simp [bytesA])]
    rw [List.take_of_length_le (by simp [bytesA])]
  refine ⟨.slice (some ⟨w.heap.size, 0, none⟩) s.length (grownCap w s.length 0 e), cs, e, (cs.size, cs.size + 1), w.drew.alloc (.cells cs e (cs.size, cs.size + 1)), ?_, rfl, rfl, rfl, rfl, by simp [bytesA]; omega, ?_, ?_, ?_⟩
  · unfold execOp
    rw [ho]
    dsimp only
    rw [hx, rb hrun]
    rfl
  · rw [hpre]
    exact VRs.map s _ _ fun b _ => rfl
  · intro i hi hh
    dsimp only at hh
    omega
  · intro j' id hj
    exact ⟨_, _, _, hj, rfl, hge, by simp, hle, .inr ⟨rfl, by simp; omega⟩⟩

end Go.Proofs.Ytbbgmaklmlagcaa
