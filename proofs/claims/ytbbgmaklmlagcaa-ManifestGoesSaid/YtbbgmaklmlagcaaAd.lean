/- A region whose order is drawn: run in the text's order, where no order makes a difference. -/
import Derived.Test.YtbbgmaklmlagcaaAt
import Derived.OrdersIn
namespace Go.Proofs.Ytbbgmaklmlagcaa

def putA (F : List AV) (dst : Option Tmp) (v : AV) : List AV :=
  match dst with
  | some d => F.set d v
  | none => F

theorem putA_ok {j : Inj} {F : List AV} {a : Act} (hF : VRs j F a.tmps.toList) (dst : Option Tmp) {v : AV} {cv : Value} (hv : VR j v cv) : VRs j (putA F dst v) (a.put dst cv).tmps.toList := by
  cases dst with
  | none => exact hF
  | some d =>
    simp only [putA, Act.put, Array.toList_setIfInBounds]
    exact hF.set d hv

/-- Is the operation wanted? -/
def wantA (ops : Array Oper) (o : Oper) (F : List AV) : Option Bool :=
  match o.guard with
  | none => some true
  | some (j, want) =>
    match (ops[j]?).bind (·.dst) with
    | none => some false
    | some t =>
      match F[t]? with
      | some (.bool b) => some (b == want)
      | some (.tuple _) => some false
      | _ => none

theorem wantA_ok {ops : Array Oper} {o : Oper} {j : Inj} {F : List AV} {tmps : Array Value} {t : Bool} (h : wantA ops o F = some t) (hF : VRs j F tmps.toList) : Region.wanted o (yielded ops tmps) = t := by
  unfold wantA at h
  unfold Region.wanted
  split at h
  · rename_i e; rw [e]; cases h; rfl
  · rename_i k want e
    rw [e]
    dsimp only
    unfold yielded
    split at h
    · rename_i e1; rw [e1]; cases h; rfl
    · rename_i d e1
      rw [e1]
      split at h
      · rename_i b hb
        cases h
        obtain ⟨v, hv, hr⟩ := hF.at hb
        simp only [VR] at hr
        subst hr
        have : tmps[d]? = some (.bool b) := by simpa using hv
        simp [this]
      · rename_i l hl
        cases h
        obtain ⟨v, hv, hr⟩ := hF.at hl
        simp only [VR] at hr
        obtain ⟨cs, rfl, _⟩ := hr
        have : tmps[d]? = some (.tuple cs) := by simpa using hv
        simp [this]
      · cases h

/-- The slots that an operation looks at. -/
def slotsOf (ops : Array Oper) (o : Oper) : List Nat :=
  o.op.operands.toList.filterMap (fun | .tmp t => some t | _ => none) ++
    (match o.guard with
     | some (j, _) => match (ops[j]?).bind (·.dst) with
       | some t => [t]
       | none => []
     | none => [])

def maskF (rs : List Nat) (F : List AV) : List AV := F.mapIdx fun t x => if rs.contains t then x else .top

/-- The block that an operation reads. -/
def readsOf (F : List AV) : Op → Option Nat
  | .lookup _ x _ _ => match ev F x with
    | .map b => some b
    | _ => none
  | .load _ x | .slice _ x _ _ _ | .convert _ _ x => match ev F x with
    | .ptr b _ => some b
    | .slice b _ _ _ _ => some b
    | .sl b _ _ _ _ => some b
    | _ => none
  | _ => none

mutual
/-- No block is named from n on. -/
def below (n : Nat) : AV → Bool
  | .ptr b _ | .slice b _ _ _ _ | .sl b _ _ _ _ | .map b | .yld b => decide (b < n)
  | .func _ xs ys => belows n xs && belows n ys
  | .agg l => belows n l
  | .tuple l => belows n l
  | _ => true
def belows (n : Nat) : List AV → Bool
  | [] => true
  | x :: xs => below n x && belows n xs
end

def belowB (n : Nat) : ABlk → Bool
  | .dead => true
  | .cells _ l => belows n l
  | .loop _ _ _ _ _ F => belows n F
  | .map es => es.all fun e => below n e.1 && below n e.2

def ownDead : ABlk → Bool
  | .dead => true
  | x => x.own

/-- A call that names no block but those that were there, and hands over none but its own. -/
def scA (H H' : AHeap) (args : List AV) : Bool := belows H.length args && H.all (belowB H.length) && (H'.drop H.length).all ownDead

def scC (F : List AV) (H H' : AHeap) (g : Operand) (args : Array Operand) : Bool :=
  match ev F g with
  | .func _ first cap => scA H H' (first ++ args.toList.map (ev F) ++ cap)
  | _ => false

structure QR where
  v : AV
  H : AHeap
  st : Option (Nat × Nat × List AV)
  rd : Option Nat
  call : Bool
  grows : Bool
  sc : Bool

/-- One operation of a region, its store put off. -/
def qop (P : Program) (Γ : Gam) (F : List AV) (H : AHeap) : Op → Option QR
  | .store t x v => match ev F x, cellsA (ev F v) with
    | .ptr b off, some xs =>
      match H[b]? with
      | some (.cells true l) => if sizeA P t = some xs.length ∧ off + xs.length ≤ l.length ∧ xs.all isCell then some ⟨undefA, H, some (b, off, xs), none, false, false, false⟩ else none
      | _ => none
    | _, _ => none
  | .call ⟨.builtin .append, _, _⟩ => none
  | .call ⟨.value g, args, _⟩ => match pureA Γ F g args with
    | some v => some ⟨v, H, none, none, false, false, false⟩
    | none => match callA Γ F H g args with
      | some (v, H', []) => some ⟨v, H', none, none, true, H'.length != H.length, scC F H H' g args⟩
      | _ => none
  | .alloc t => (newA P F (.alloc t)).map fun l => ⟨.ptr H.length 0, H ++ [.cells true l], none, none, false, true, false⟩
  | .box t x => (newA P F (.box t x)).map fun l => ⟨.ptr H.length 0, H ++ [.cells true l], none, none, false, true, false⟩
  | .buildSlice t n ps => (rowA P F (.buildSlice t n ps)).map fun (n, sz, l) => ⟨.slice H.length 0 n sz true, H ++ [.cells true l], none, none, false, true, false⟩
  | .makeSlice t l c => (rowA P F (.makeSlice t l c)).map fun (n, sz, l) => ⟨.slice H.length 0 n sz true, H ++ [.cells true l], none, none, false, true, false⟩
  | op => match apure P F op with
    | some v => some ⟨v, H, none, none, false, false, false⟩
    | none => match readA P F H op with
      | some v => some ⟨v, H, none, readsOf F op, false, false, false⟩
      | none => (textA P F op).map fun s => ⟨.slice H.length 0 s.length 1 false, H ++ [.cells true (bytesA s)], none, none, false, true, false⟩

def qstep (P : Program) (Γ : Gam) (ops : Array Oper) (F : List AV) (H : AHeap) (o : Oper) : Option QR :=
  match wantA ops o (maskF (slotsOf ops o) F) with
  | none => none
  | some false => some ⟨undefA, H, none, none, false, false, false⟩
  | some true => qop P Γ (maskF (slotsOf ops o) F) H o.op

def qrun (P : Program) (Γ : Gam) (ops : Array Oper) : List Oper → List AV → AHeap → Option (List QR × List AV × AHeap)
  | [], F, H => some ([], F, H)
  | o :: rest, F, H =>
    match qstep P Γ ops F H o with
    | none => none
    | some q =>
      match qrun P Γ ops rest (putA F o.dst q.v) q.H with
      | none => none
      | some (qs, F', H') => some (q :: qs, F', H')

/-- What must be done ahead of each operation, as bits. -/
def presGo : List Oper → List Nat → List Nat
  | [], acc => acc
  | o :: rest, acc => presGo rest (acc ++ [o.after.toList.foldl (fun m e => if Region.binds .any e then m ||| (1 <<< e.on) ||| acc.getD e.on 0 else m) 0])

def pres (ops : List Oper) : List Nat := presGo ops []

def apartS (a b : Nat × Nat × List AV) : Bool := a.1 != b.1 || decide (a.2.1 + a.2.2.length ≤ b.2.1) || decide (b.2.1 + b.2.2.length ≤ a.2.1)

/-- An operation, and one behind it in the text. -/
def pairOk (before : Bool) (si sk : List Nat) (di dk : Option Nat) (qi qk : QR) : Bool :=
  (match di with
   | some d => !sk.contains d || before
   | none => true) &&
  (match dk with
   | some d => (!si.contains d || before) && dk != di
   | none => true) &&
  (match qi.st with
   | some s => qk.rd != some s.1 && !qk.call && (match qk.st with | some s' => apartS s s' | none => true)
   | none => true) &&
  (match qk.st with
   | some s => (qi.rd != some s.1 || before) && (!qi.call || before)
   | none => true) &&
  (!qi.call || !qk.grows || before || qi.sc)

def drawOk (ops : List Oper) (slots : List (List Nat)) (qs : List QR) (pr : List Nat) : Bool :=
  (List.range ops.length).all fun k =>
    ((ops.getD k default).after.toList.all fun e => !Region.binds .any e || e.on < k) &&
    (List.range k).all fun i =>
      pairOk ((pr.getD k 0).testBit i) (slots.getD i []) (slots.getD k []) (ops.getD i default).dst (ops.getD k default).dst (qs.getD i ⟨.top, [], none, none, false, false, false⟩) (qs.getD k ⟨.top, [], none, none, false, false, false⟩)

def putS (H : AHeap) (s : Nat × Nat × List AV) : AHeap :=
  match H[s.1]? with
  | some (.cells o l) => if s.2.1 + s.2.2.length ≤ l.length then H.set s.1 (.cells o (l.take s.2.1 ++ s.2.2 ++ l.drop (s.2.1 + s.2.2.length))) else H
  | _ => H

def adraw (P : Program) (Γ : Gam) (ops : Array Oper) (F : List AV) (H : AHeap) : Option (List AV × AHeap) :=
  match qrun P Γ ops ops.toList F H with
  | none => none
  | some (qs, F', H') => if drawOk ops.toList (ops.toList.map (slotsOf ops)) qs (pres ops.toList) then some (F', (qs.filterMap (·.st)).foldl putS H') else none

/-! Stores -/

theorem putS_length (H : AHeap) (s : Nat × Nat × List AV) : (putS H s).length = H.length := by
  unfold putS
  split
  · split <;> simp
  · rfl

def splice (l : List AV) (s : Nat × Nat × List AV) : List AV := if s.2.1 + s.2.2.length ≤ l.length then l.take s.2.1 ++ s.2.2 ++ l.drop (s.2.1 + s.2.2.length) else l

theorem splice_length (l : List AV) (s : Nat × Nat × List AV) : (splice l s).length = l.length := by
  unfold splice
  split
  · simp; omega
  · rfl

theorem splice_get (l : List AV) (s : Nat × Nat × List AV) (i : Nat) : (splice l s)[i]? = if s.2.1 + s.2.2.length ≤ l.length ∧ s.2.1 ≤ i ∧ i < s.2.1 + s.2.2.length then s.2.2[i - s.2.1]? else l[i]? := by
  unfold splice
  split
  · rename_i hm
    rw [List.append_assoc, List.getElem?_append]
    have hl : (l.take s.2.1).length = s.2.1 := by simp; omega
    rw [hl]
    split
    · rename_i hi
      rw [List.getElem?_take, if_pos hi, if_neg (by omega)]
    · rename_i hi
      rw [List.getElem?_append]
      split
      · rename_i hx
        rw [if_pos (by omega)]
      · rename_i hx
        rw [if_neg (by omega), List.getElem?_drop]
        congr 1
        omega
  · rename_i hm
    rw [if_neg (fun h => hm h.1)]

theorem putS_get (H : AHeap) (s : Nat × Nat × List AV) (b : Nat) : (putS H s)[b]? = if b = s.1 then (match H[b]? with | some (.cells o l) => some (.cells o (splice l s)) | x => x) else H[b]? := by
  unfold putS splice
  split
  · rename_i o l hs
    by_cases e : b = s.1
    · subst e
      have := (List.getElem?_eq_some_iff.1 hs).1
      rw [if_pos rfl, hs]
      dsimp only
      split
      · rw [List.getElem?_set, if_pos rfl, if_pos this]
      · exact hs
    · rw [if_neg e]
      split
      · rw [List.getElem?_set, if_neg (Ne.symm e)]
      · rfl
  · rename_i hn
    by_cases e : b = s.1
    · subst e
      rw [if_pos rfl]
      split
      · rename_i o l h; exact absurd h (hn o l)
      · rfl
    · rw [if_neg e]

theorem putS_comm (H : AHeap) {s t : Nat × Nat × List AV} (h : apartS s t = true) : putS (putS H s) t = putS (putS H t) s := by
  apply List.ext_getElem?
  intro b
  rw [putS_get, putS_get, putS_get, putS_get]
  by_cases e1 : b = s.1 <;> by_cases e2 : b = t.1
  · rw [if_pos e2, if_pos e1, if_pos e1, if_pos e2]
    cases hb : H[b]? with
    | none => rfl
    | some x =>
      cases x with
      | dead => rfl
      | loop _ _ _ _ _ _ => rfl
      | map _ => rfl
      | cells o l =>
        dsimp only
        have : s.1 = t.1 := by rw [← e1, ← e2]
        simp [apartS, this] at h
        congr 2
        apply List.ext_getElem?
        intro i
        rw [splice_get, splice_get, splice_get, splice_get, splice_length, splice_length]
        repeat' split
        all_goals first
          | rfl
          | omega
  · rw [if_neg e2, if_pos e1, if_pos e1, if_neg e2]
  · rw [if_pos e2, if_neg e1, if_neg e1, if_pos e2]
  · rw [if_neg e2, if_neg e1, if_neg e1, if_neg e2]

theorem puts_length (l : List (Nat × Nat × List AV)) : ∀ H : AHeap, (l.foldl putS H).length = H.length := by
  induction l with
  | nil => exact fun _ => rfl
  | cons s l ih => exact fun H => by rw [List.foldl_cons, ih, putS_length]

/-- What stores leave of a block: its kind and its size; and all of it, if none is into it. -/
theorem puts_get (l : List (Nat × Nat × List AV)) (b : Nat) : ∀ H : AHeap,
    (∀ o m, H[b]? = some (.cells o m) → ∃ m', (l.foldl putS H)[b]? = some (.cells o m') ∧ m'.length = m.length) ∧ ((∀ s ∈ l, s.1 ≠ b) → (l.foldl putS H)[b]? = H[b]?) ∧ (H[b]? = some .dead → (l.foldl putS H)[b]? = some .dead) := by
  induction l with
  | nil => exact fun H => ⟨fun o m h => ⟨m, h, rfl⟩, fun _ => rfl, fun h => h⟩
  | cons s l ih =>
    intro H
    rw [List.foldl_cons]
    obtain ⟨h1, h2, h3⟩ := ih (putS H s)
    refine ⟨fun o m hm => ?_, fun hn => ?_, fun hd => ?_⟩
    · by_cases e : b = s.1
      · obtain ⟨m', g1, g2⟩ := h1 o (splice m s) (by rw [putS_get, if_pos e, hm])
        exact ⟨m', g1, by rw [g2, splice_length]⟩
      · exact h1 o m (by rw [putS_get, if_neg e]; exact hm)
    · rw [h2 (fun s' hs' => hn s' (List.mem_cons_of_mem _ hs')), putS_get, if_neg (fun e => hn s (List.mem_cons_self) e.symm)]
    · refine h3 ?_
      rw [putS_get]
      split
      · rw [hd]
      · exact hd

/-! The text's run -/

theorem qrun_spec {P : Program} {Γ : Gam} {ops : Array Oper} : ∀ (l : List Oper) (F : List AV) (H : AHeap) (qs : List QR) (F' : List AV) (H' : AHeap), qrun P Γ ops l F H = some (qs, F', H') →
    qs.length = l.length ∧ ∃ (Fs : Nat → List AV) (Hs : Nat → AHeap), Fs 0 = F ∧ Hs 0 = H ∧ Fs l.length = F' ∧ Hs l.length = H' ∧
      ∀ (i : Nat) o q, l[i]? = some o → qs[i]? = some q → qstep P Γ ops (Fs i) (Hs i) o = some q ∧ Fs (i + 1) = putA (Fs i) o.dst q.v ∧ Hs (i + 1) = q.H
  | [], F, H, qs, F', H', h => by
    cases h
    exact ⟨rfl, fun _ => F, fun _ => H, rfl, rfl, rfl, rfl, fun i o q ho => by cases ho⟩
  | o :: rest, F, H, qs, F', H', h => by
    unfold qrun at h
    split at h
    · cases h
    rename_i q hq
    split at h
    · cases h
    rename_i qs' F'' H'' hr
    cases h
    obtain ⟨hl, Fs, Hs, f0, h0, fn, hn, hall⟩ := qrun_spec rest _ _ _ _ _ hr
    refine ⟨by simp [hl], fun i => if i = 0 then F else Fs (i - 1), fun i => if i = 0 then H else Hs (i - 1), rfl, rfl, by simp [fn], by simp [hn], fun i o' q' ho hq' => ?_⟩
    cases i with
    | zero =>
      cases ho; cases hq'
      exact ⟨hq, by simp [f0], by simp [h0]⟩
    | succ i =>
      have := hall i o' q' (by simpa using ho) (by simpa using hq')
      simpa using this

theorem qop_heap {P : Program} {Γ : Gam} (hΓ : GOk P Γ) {F : List AV} {H : AHeap} {op : Op} {q : QR} (h : qop P Γ F H op = some q) :
    H.length ≤ q.H.length ∧ (∀ b, b < H.length → q.H[b]? = H[b]?) ∧ (q.grows = false → q.H.length = H.length) ∧ (q.st.isSome = true → q.H = H) := by
  have same : q.H = H → H.length ≤ q.H.length ∧ (∀ b, b < H.length → q.H[b]? = H[b]?) ∧ (q.grows = false → q.H.length = H.length) ∧ (q.st.isSome = true → q.H = H) := by
    intro e; rw [e]; exact ⟨Nat.le_refl _, fun _ _ => rfl, fun _ => rfl, fun _ => rfl⟩
  have more : ∀ x, q.H = H ++ [x] → q.grows = true → q.st = none → H.length ≤ q.H.length ∧ (∀ b, b < H.length → q.H[b]? = H[b]?) ∧ (q.grows = false → q.H.length = H.length) ∧ (q.st.isSome = true → q.H = H) := by
    intro x e g hst
    refine ⟨by rw [e]; simp, fun b hb => by rw [e, List.getElem?_append, if_pos hb], fun hg => ?_, fun hs => ?_⟩
    · rw [g] at hg; cases hg
    · rw [hst] at hs; cases hs
  unfold qop at h
  split at h
  · split at h
    rotate_left
    · cases h
    split at h
    rotate_left
    · cases h
    split at h <;> cases h
    exact same rfl
  · cases h
  · split at h
    · cases h; exact same rfl
    split at h
    · rename_i v H' hc
      cases h
      unfold callA at hc
      split at hc
      · rename_i f first cap hg
        split at hc
        · cases hc
        obtain ⟨h1, h2⟩ := (hΓ.1 f ‹_› ⟨_, _, _, hc⟩).keep _ _ _ _ _ hc
        exact ⟨h1, fun b hb => h2 b hb (by simp), fun hg => by simpa using hg, fun hs => by cases hs⟩
      · cases hc
    · cases h
  · obtain ⟨l, _, e⟩ := Option.map_eq_some_iff.1 h
    subst e
    exact more _ rfl rfl rfl
  · obtain ⟨l, _, e⟩ := Option.map_eq_some_iff.1 h
    subst e
    exact more _ rfl rfl rfl
  · obtain ⟨⟨n, sz, l⟩, _, e⟩ := Option.map_eq_some_iff.1 h
    subst e
    exact more _ rfl rfl rfl
  · obtain ⟨⟨n, sz, l⟩, _, e⟩ := Option.map_eq_some_iff.1 h
    subst e
    exact more _ rfl rfl rfl
  · split at h
    · cases h; exact same rfl
    · split at h
      · cases h; exact same rfl
      · obtain ⟨l, _, e⟩ := Option.map_eq_some_iff.1 h
        subst e
        exact more _ rfl rfl rfl

theorem qstep_heap {P : Program} {Γ : Gam} (hΓ : GOk P Γ) {ops : Array Oper} {F : List AV} {H : AHeap} {o : Oper} {q : QR} (h : qstep P Γ ops F H o = some q) :
    H.length ≤ q.H.length ∧ (∀ b, b < H.length → q.H[b]? = H[b]?) ∧ (q.grows = false → q.H.length = H.length) ∧ (q.st.isSome = true → q.H = H) := by
  unfold qstep at h
  split at h
  · cases h
  · cases h
    exact ⟨Nat.le_refl _, fun _ _ => rfl, fun _ => rfl, fun _ => rfl⟩
  · exact qop_heap hΓ h

theorem presGo_spec (l : List Oper) : ∀ (acc : List Nat) (k : Nat), acc.length ≤ k → k < acc.length + l.length → ∃ o, l[k - acc.length]? = some o ∧
    (presGo l acc).getD k 0 = o.after.toList.foldl (fun m e => if Region.binds .any e then m ||| (1 <<< e.on) ||| (if e.on < k then (presGo l acc).getD e.on 0 else 0) else m) 0 := by
  have keep : ∀ (l : List Oper) (acc : List Nat) (k : Nat), k < acc.length → (presGo l acc).getD k 0 = acc.getD k 0 := by
    intro l
    induction l with
    | nil => exact fun _ _ _ => rfl
    | cons o l ih =>
      intro acc k hk
      unfold presGo
      rw [ih _ k (by simp; omega), List.getD_eq_getElem?_getD, List.getD_eq_getElem?_getD, List.getElem?_append, if_pos hk]
  induction l with
  | nil => intro acc k h1 h2; simp at h2; omega
  | cons o l ih =>
    intro acc k h1 h2
    by_cases e : k = acc.length
    · subst e
      refine ⟨o, by simp, ?_⟩
      unfold presGo
      rw [keep l _ _ (by simp), List.getD_eq_getElem?_getD, List.getElem?_append_right (Nat.le_refl _)]
      simp only [Nat.sub_self, List.getElem?_cons_zero, Option.getD_some]
      congr 1
      funext m e
      split
      · congr 1
        by_cases hlt : e.on < acc.length
        · rw [if_pos hlt, keep l _ _ (by simp; omega), List.getD_eq_getElem?_getD, List.getD_eq_getElem?_getD, List.getElem?_append, if_pos hlt]
        · rw [if_neg hlt, List.getD_eq_getElem?_getD, List.getElem?_eq_none (by omega)]
          rfl
      · rfl
    · obtain ⟨o', ho', he⟩ := ih (acc ++ [o.after.toList.foldl (fun m e => if Region.binds .any e then m ||| (1 <<< e.on) ||| acc.getD e.on 0 else m) 0]) k (by simp; omega) (by simp at h2 ⊢; omega)
      refine ⟨o', ?_, ?_⟩
      · simp at ho'
        rw [show k - acc.length = (k - (acc.length + 1)) + 1 by omega]
        simpa using ho'
      · exact he

theorem foldl_bits (pr : Nat → Nat) (i : Nat) : ∀ (es : List Edge) (m : Nat), (es.foldl (fun m e => if Region.binds .any e then m ||| (1 <<< e.on) ||| pr e.on else m) m).testBit i = true →
    m.testBit i = true ∨ ∃ e ∈ es, Region.binds .any e = true ∧ (e.on = i ∨ (pr e.on).testBit i = true)
  | [], m, h => .inl h
  | e :: es, m, h => by
    rw [List.foldl_cons] at h
    rcases foldl_bits pr i es _ h with h1 | ⟨e', he', hb, hi⟩
    · split at h1
      · rename_i hb
        rw [Nat.testBit_or, Nat.testBit_or] at h1
        simp only [Bool.or_eq_true] at h1
        rcases h1 with (h1 | h1) | h1
        · exact .inl h1
        · refine .inr ⟨e, by simp, hb, .inl ?_⟩
          rw [Nat.one_shiftLeft, Nat.testBit_two_pow] at h1
          simpa using h1
        · exact .inr ⟨e, by simp, hb, .inr h1⟩
      · exact .inl h1
    · exact .inr ⟨e', by simp [he'], hb, hi⟩

/-- What must be done ahead of an operation whose edges are done is done. -/
theorem pres_done {ops : List Oper} {D : Nat → Prop} (hD : ∀ k o e, D k → ops[k]? = some o → e ∈ o.after.toList → Region.binds .any e = true → D e.on) :
    ∀ (k : Nat) (o : Oper), ops[k]? = some o → (∀ e ∈ o.after.toList, Region.binds .any e = true → D e.on) → ∀ i, ((pres ops).getD k 0).testBit i = true → D i := by
  intro k
  induction k using Nat.strongRecOn with
  | _ k ih =>
    intro o ho he i hi
    have hk : k < ops.length := (List.getElem?_eq_some_iff.1 ho).1
    obtain ⟨o', ho', e1⟩ := presGo_spec ops [] k (by simp) (by simpa using hk)
    simp at ho'
    rw [ho] at ho'
    cases ho'
    unfold pres at hi
    rw [e1] at hi
    rcases foldl_bits (fun x => if x < k then (presGo ops []).getD x 0 else 0) i _ 0 hi with h0 | ⟨e, hm, hb, hx⟩
    · simp at h0
    · have hDe := he e hm hb
      rcases hx with rfl | hx
      · exact hDe
      · split at hx
        · rename_i hlt
          have hon : ops[e.on]? = some (ops[e.on]'(by omega)) := List.getElem?_eq_getElem _
          exact ih e.on hlt _ hon (fun e' he' hb' => hD e.on _ e' hDe hon he' hb') i hx
        · simp at hx

end Go.Proofs.Ytbbgmaklmlagcaa
