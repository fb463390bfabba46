/- The check of a drawn region, for the kernel: numbers are reckoned once. -/
import Derived.Test.YtbbgmaklmlagcaaAx
namespace Go.Proofs.Ytbbgmaklmlagcaa

def forceN {α : Type} (n : Nat) (k : Nat → α) : α := Nat.rec (motive := fun _ => α) (k 0) (fun m _ => k (m + 1)) n

theorem forceN_eq {α : Type} (n : Nat) (k : Nat → α) : forceN n k = k n := by cases n <;> rfl

def presBits (acc : List Nat) : List Edge → Nat → Nat
  | [], m => m
  | e :: es, m => presBits acc es (if Region.binds .any e then m ||| (1 <<< e.on) ||| acc.getD e.on 0 else m)

def presGoF (k : List Nat → Bool) : List Oper → List Nat → Bool
  | [], acc => k acc
  | o :: rest, acc => forceN (presBits acc o.after.toList 0) fun m => presGoF k rest (acc ++ [m])

theorem presBits_eq (acc : List Nat) : ∀ (es : List Edge) (m : Nat), presBits acc es m = es.foldl (fun m e => if Region.binds .any e then m ||| (1 <<< e.on) ||| acc.getD e.on 0 else m) m
  | [], m => rfl
  | e :: es, m => by
    unfold presBits
    rw [presBits_eq acc es]
    rfl

theorem presGoF_eq (k : List Nat → Bool) : ∀ (ops : List Oper) (acc : List Nat), presGoF k ops acc = k (presGo ops acc)
  | [], acc => rfl
  | o :: rest, acc => by
    unfold presGoF presGo
    rw [forceN_eq, presGoF_eq k rest, presBits_eq]

def drawOkG (ops : List Oper) (slots : List (List Nat)) (qs : List QF) : Bool := presGoF (drawOkF ops slots qs) ops []

attribute [-simp] drawOk_eq

@[simp] theorem drawOk_eqG (ops : List Oper) (slots : List (List Nat)) (qs : List QR) : drawOk ops slots qs (pres ops) = drawOkG ops slots (qs.map QR.fl) := by
  unfold drawOkG
  rw [presGoF_eq, drawOk_eq]
  rfl

/-! The same without masks: an operation looks at its operands alone -/

theorem ev_mask (rs : List Nat) (F : List AV) (x : Operand) (h : ∀ t, x = .tmp t → t ∈ rs) : ev (maskF rs F) x = ev F x := by
  cases x with
  | tmp t =>
    show (maskF rs F).getD t undefA = F.getD t undefA
    rw [List.getD_eq_getElem?_getD, List.getD_eq_getElem?_getD, mask_get]
    have := h t rfl
    cases F[t]? with
    | none => rfl
    | some x => simp [this]
  | const v => rfl
  | global g => rfl
  | func f => rfl

theorem map_ev {F F' : List AV} {l : List Operand} (h : ∀ x ∈ l, ev F' x = ev F x) : l.map (ev F') = l.map (ev F) := List.map_congr_left h

theorem parts_ev {F F' : List AV} {l : List (Nat × Operand)} (h : ∀ x ∈ l.map (·.2), ev F' x = ev F x) : (l.map fun (i, x) => (i, ev F' x)) = l.map fun (i, x) => (i, ev F x) :=
  List.map_congr_left fun p hp => by
    have := h p.2 (List.mem_map.2 ⟨p, hp, rfl⟩)
    obtain ⟨i, x⟩ := p
    simp only at this ⊢
    rw [this]

theorem lowHigh_ev {F F' : List AV} {lo hi : Option Operand} (h1 : ∀ x ∈ lo.toArray.toList, ev F' x = ev F x) (h2 : ∀ x ∈ hi.toArray.toList, ev F' x = ev F x) (n c : Nat) : lowHigh F' lo hi n c = lowHigh F lo hi n c := by
  unfold lowHigh
  cases lo <;> cases hi <;> simp at h1 h2 <;> simp [h1, h2]

theorem sliceA0_ev {P : Program} {F F' : List AV} {lo hi mx : Option Operand} (h1 : ∀ x ∈ lo.toArray.toList, ev F' x = ev F x) (h2 : ∀ x ∈ hi.toArray.toList, ev F' x = ev F x) (h3 : ∀ x ∈ mx.toArray.toList, ev F' x = ev F x) (t : TypeId) (v : AV) : sliceA0 P F' t v lo hi mx = sliceA0 P F t v lo hi mx := by
  have e : lowHigh F' lo hi = lowHigh F lo hi := by funext n c; exact lowHigh_ev h1 h2 n c
  have e2 : ∀ y, hi = some y → lowHigh F' lo (some y) = lowHigh F lo (some y) := by rintro y rfl; exact e
  unfold sliceA0
  rw [e]
  cases mx with
  | none =>
    cases P.underlying t with
    | none => rfl
    | some d => cases d <;> cases v <;> rfl
  | some m =>
    have := h3 m (by simp)
    cases hi with
    | none =>
      cases P.underlying t with
      | none => rfl
      | some d => cases d <;> cases v <;> first | rfl | simp only [this]
    | some y =>
      have e3 := e2 y rfl
      cases P.underlying t with
      | none => rfl
      | some d => cases d <;> cases v <;> first | rfl | simp only [this, e3]

theorem sliceA_ev {P : Program} {F F' : List AV} {lo hi mx : Option Operand} (h1 : ∀ x ∈ lo.toArray.toList, ev F' x = ev F x) (h2 : ∀ x ∈ hi.toArray.toList, ev F' x = ev F x) (h3 : ∀ x ∈ mx.toArray.toList, ev F' x = ev F x) (t : TypeId) (v : AV) : sliceA P F' t v lo hi mx = sliceA P F t v lo hi mx := by
  have e := fun v => sliceA0_ev (P := P) h1 h2 h3 t v
  unfold sliceA
  simp only [e]

set_option maxHeartbeats 2000000 in
theorem qop_ev {P : Program} {Γ : Gam} {F F' : List AV} {H : AHeap} {op : Op} (h : ∀ x ∈ op.operands.toList, ev F' x = ev F x) : qop P Γ F' H op = qop P Γ F H op := by
  cases op
  case slice t x lo hi mx =>
    simp only [Op.operands, Array.toList_append, List.mem_append] at h
    have hx : ev F' x = ev F x := h x (by simp)
    have e := fun t v => sliceA_ev (P := P) (F := F) (F' := F') (lo := lo) (hi := hi) (mx := mx) (fun y hy => h y (.inl (.inl (.inr hy)))) (fun y hy => h y (.inl (.inr hy))) (fun y hy => h y (.inr hy)) t v
    simp only [qop, apure, readA, textA, readsOf, hx, e]
  case build t ps =>
    have e := parts_ev (F := F) (F' := F') (l := ps.toList) (by simpa [Op.operands] using h)
    simp only [qop, apure, buildA, readA, textA, e]
  case buildSlice t n ps =>
    have e := parts_ev (F := F) (F' := F') (l := ps.toList) (by simpa [Op.operands] using h)
    simp only [qop, rowA, e]
  case makeFunc f a b =>
    simp only [Op.operands, Array.toList_append, List.mem_append] at h
    have e1 := map_ev (F := F) (F' := F') (l := a.toList) fun x hx => h x (.inl hx)
    have e2 := map_ev (F := F) (F' := F') (l := b.toList) fun x hx => h x (.inr hx)
    cases f <;> simp only [qop, apure, readA, textA, e1, e2]
  case call c =>
    obtain ⟨g, args, ts⟩ := c
    cases g with
    | value g =>
      simp only [Op.operands, Call.operands, Array.toList_append, List.mem_append] at h
      have e1 : ev F' g = ev F g := h g (.inl (by simp))
      have e2 := map_ev (F := F) (F' := F') (l := args.toList) fun x hx => h x (.inr hx)
      simp only [qop, pureA, callA, scC, e1, e2]
    | invoke r m => simp only [qop, apure, readA, textA]
    | builtin b =>
      simp only [Op.operands, Call.operands, Array.toList_append, List.mem_append] at h
      have e2 := map_ev (F := F) (F' := F') (l := args.toList) fun x hx => h x (.inr hx)
      have e3 : ∀ x, x ∈ args.toList → ev F' x = ev F x := fun x hx => h x (.inr hx)
      cases b
      case len =>
        simp only [qop, apure, readA, textA]
        cases hts : ts.toList <;> cases hal : args.toList <;> simp only [] <;> rw [e3 _ (by rw [hal]; simp)]
      case cap =>
        simp only [qop, apure, readA, textA]
        cases hts : ts.toList <;> cases hal : args.toList <;> simp only [] <;> rw [e3 _ (by rw [hal]; simp)]
      all_goals simp only [qop, apure, readA, textA, e2]
  all_goals
    simp only [Op.operands, List.mem_cons, List.not_mem_nil, or_false, forall_eq_or_imp, forall_eq] at h
    simp only [qop, apure, readA, textA, newA, rowA, readsOf, h]

/-- One operation of a region, by all slots. -/
def qstepU (P : Program) (Γ : Gam) (ops : Array Oper) (F : List AV) (H : AHeap) (o : Oper) : Option QR :=
  match wantA ops o F with
  | none => none
  | some false => some ⟨undefA, H, none, none, false, false, false⟩
  | some true => qop P Γ F H o.op

theorem mem_slots {ops : Array Oper} {o : Oper} {t : Nat} (h : .tmp t ∈ o.op.operands.toList) : t ∈ slotsOf ops o := by
  unfold slotsOf
  exact List.mem_append_left _ (List.mem_filterMap.2 ⟨.tmp t, h, rfl⟩)

theorem want_mask (ops : Array Oper) (o : Oper) (F : List AV) : wantA ops o (maskF (slotsOf ops o) F) = wantA ops o F := by
  unfold wantA
  split
  · rfl
  · rename_i j want hg
    split
    · rfl
    · rename_i t ht
      have : t ∈ slotsOf ops o := by
        unfold slotsOf
        refine List.mem_append_right _ ?_
        rw [hg]
        dsimp only
        rw [ht]
        simp
      generalize slotsOf ops o = rs at this
      have e : (maskF rs F)[t]? = F[t]? := by
        rw [mask_get]
        cases F[t]? with
        | none => rfl
        | some x => simp [this]
      rw [e]

theorem qstep_eq (P : Program) (Γ : Gam) (ops : Array Oper) (F : List AV) (H : AHeap) (o : Oper) : qstep P Γ ops F H o = qstepU P Γ ops F H o := by
  unfold qstep qstepU
  have e : qop P Γ (maskF (slotsOf ops o) F) H o.op = qop P Γ F H o.op := qop_ev fun x hx => ev_mask _ F x (by
    rintro t rfl
    exact mem_slots hx)
  rw [want_mask, e]
  cases wantA ops o F with
  | none => rfl
  | some b => cases b <;> rfl

/-- The drawn region's run, told in one line; its checks at the end. -/
def qrunT (P : Program) (Γ : Gam) (ops : Array Oper) : List Oper → List AV → AHeap → List QF → List (Nat × Nat × List AV) → Option (List AV × AHeap)
  | [], F, H, fs, ss => if drawOkG ops.toList (ops.toList.map (slotsOf ops)) fs then some (F, ss.foldl putS H) else none
  | o :: rest, F, H, fs, ss =>
    match qstepU P Γ ops F H o with
    | none => none
    | some q => qrunT P Γ ops rest (putA F o.dst q.v) q.H (fs ++ [q.fl]) (ss ++ q.st.toList)

theorem filterMap_st (qs : List QR) : ∀ ss : List (Nat × Nat × List AV), ss ++ qs.filterMap (·.st) = qs.foldl (fun ss q => ss ++ q.st.toList) ss := by
  induction qs with
  | nil => intro ss; simp
  | cons q qs ih =>
    intro ss
    rw [List.foldl_cons, ← ih, List.filterMap_cons]
    cases q.st <;> simp

theorem qrunT_eq (P : Program) (Γ : Gam) (ops : Array Oper) : ∀ (l : List Oper) (F : List AV) (H : AHeap) (fs : List QF) (ss : List (Nat × Nat × List AV)), qrunT P Γ ops l F H fs ss =
    match qrun P Γ ops l F H with
    | none => none
    | some (qs, F', H') => if drawOkG ops.toList (ops.toList.map (slotsOf ops)) (fs ++ qs.map QR.fl) then some (F', (ss ++ qs.filterMap (·.st)).foldl putS H') else none
  | [], F, H, fs, ss => by simp [qrunT, qrun]
  | o :: rest, F, H, fs, ss => by
    unfold qrunT qrun
    rw [qstep_eq]
    cases hq : qstepU P Γ ops F H o with
    | none => rfl
    | some q =>
      dsimp only
      rw [qrunT_eq P Γ ops rest]
      cases hr : qrun P Γ ops rest (putA F o.dst q.v) q.H with
      | none => rfl
      | some r =>
        obtain ⟨qs, F', H'⟩ := r
        dsimp only
        have e : ss ++ q.st.toList ++ qs.filterMap (·.st) = ss ++ (q :: qs).filterMap (·.st) := by
          rw [List.filterMap_cons]
          cases q.st <;> simp
        rw [e, List.append_assoc, List.map_cons]
        rfl

attribute [-simp] adraw qrun

@[simp] theorem adraw_eqT (P : Program) (Γ : Gam) (ops : Array Oper) (F : List AV) (H : AHeap) : adraw P Γ ops F H = qrunT P Γ ops ops.toList F H [] [] := by
  rw [qrunT_eq]
  unfold adraw
  cases hr : qrun P Γ ops ops.toList F H with
  | none => rfl
  | some r =>
    obtain ⟨qs, F', H'⟩ := r
    dsimp only
    rw [drawOk_eqG]
    simp

/-! Runs whose text the kernel does not look into: each step is told by its law alone -/

noncomputable def aopsO : Program → Gam → Array Oper → List Oper → List AV → AHeap → Option (List AV × AHeap) := Classical.choose (⟨aops, rfl⟩ : ∃ f, f = aops)
theorem aopsO_eq : aopsO = aops := Classical.choose_spec (⟨aops, rfl⟩ : ∃ f, f = aops)

noncomputable def qrunO : Program → Gam → Array Oper → List Oper → List AV → AHeap → List QF → List (Nat × Nat × List AV) → Option (List AV × AHeap) := Classical.choose (⟨qrunT, rfl⟩ : ∃ f, f = qrunT)
theorem qrunO_eq : qrunO = qrunT := Classical.choose_spec (⟨qrunT, rfl⟩ : ∃ f, f = qrunT)

noncomputable def acodeO : Program → Gam → Nat → Bool → Code → List AV → AHeap → ARes := Classical.choose (⟨acode, rfl⟩ : ∃ f, f = acode)
theorem acodeO_eq : acodeO = acode := Classical.choose_spec (⟨acode, rfl⟩ : ∃ f, f = acode)

attribute [-simp] acode aops

@[simp] theorem acode_O (P : Program) (Γ : Gam) (n : Nat) (q : Bool) (c : Code) (F : List AV) (H : AHeap) : acode P Γ n q c F H = acodeO P Γ n q c F H := by rw [acodeO_eq]
@[simp] theorem aopsO_nil (P : Program) (Γ : Gam) (ops : Array Oper) (F : List AV) (H : AHeap) : aopsO P Γ ops [] F H = some (F, H) := by rw [aopsO_eq]; rfl
@[simp] theorem aopsO_cons (P : Program) (Γ : Gam) (ops : Array Oper) (o : Oper) (rest : List Oper) (F : List AV) (H : AHeap) : aopsO P Γ ops (o :: rest) F H =
    match wantA ops o F with
    | none => none
    | some false => aopsO P Γ ops rest (putA F o.dst undefA) H
    | some true =>
      match opA P Γ F H o.op with
      | none => none
      | some (v, H') => aopsO P Γ ops rest (putA F o.dst v) H' := by
  rw [aopsO_eq]
  rfl

@[simp] theorem qrunO_nil (P : Program) (Γ : Gam) (ops : Array Oper) (F : List AV) (H : AHeap) (fs : List QF) (ss : List (Nat × Nat × List AV)) : qrunO P Γ ops [] F H fs ss = if drawOkG ops.toList (ops.toList.map (slotsOf ops)) fs then some (F, ss.foldl putS H) else none := by
  rw [qrunO_eq]
  rfl
@[simp] theorem qrunO_cons (P : Program) (Γ : Gam) (ops : Array Oper) (o : Oper) (rest : List Oper) (F : List AV) (H : AHeap) (fs : List QF) (ss : List (Nat × Nat × List AV)) : qrunO P Γ ops (o :: rest) F H fs ss =
    match qstepU P Γ ops F H o with
    | none => none
    | some q => qrunO P Γ ops rest (putA F o.dst q.v) q.H (fs ++ [q.fl]) (ss ++ q.st.toList) := by
  rw [qrunO_eq]
  rfl

attribute [simp] qstepU

@[simp] theorem acodeO_skip (P : Program) (Γ : Gam) (n : Nat) (q : Bool) (F : List AV) (H : AHeap) : acodeO P Γ n q .skip F H = some (.normal, F, H) := by rw [acodeO_eq]; rfl
@[simp] theorem acodeO_label (P : Program) (Γ : Gam) (n : Nat) (q : Bool) (l) (F : List AV) (H : AHeap) : acodeO P Γ n q (.label l) F H = some (.normal, F, H) := by rw [acodeO_eq]; rfl
@[simp] theorem acodeO_reg (P : Program) (Γ : Gam) (n : Nat) (q : Bool) (k) (ops : Array Oper) (F : List AV) (H : AHeap) : acodeO P Γ n q (.region k ops false) F H = (aopsO P Γ ops ops.toList F H).map fun r => (.normal, r) := by
  rw [acodeO_eq, aopsO_eq]; rfl
@[simp] theorem acodeO_draw (P : Program) (Γ : Gam) (n : Nat) (q : Bool) (k) (ops : Array Oper) (F : List AV) (H : AHeap) : acodeO P Γ n q (.region k ops true) F H = (qrunO P Γ ops ops.toList F H [] []).map fun r => (.normal, r) := by
  rw [acodeO_eq, qrunO_eq, ← adraw_eqT]; rfl
@[simp] theorem acodeO_seq (P : Program) (Γ : Gam) (n : Nat) (q : Bool) (x y : Code) (F : List AV) (H : AHeap) : acodeO P Γ n q (.seq x y) F H =
    match acodeO P Γ n q x F H with
    | some (.normal, F', H') => acodeO P Γ n q y F' H'
    | r => r := by
  rw [acodeO_eq]; rfl
@[simp] theorem acodeO_cond (P : Program) (Γ : Gam) (n : Nat) (q : Bool) (c : Operand) (x y : Code) (F : List AV) (H : AHeap) : acodeO P Γ n q (.cond c x y) F H =
    match ev F c with
    | .bool t => if t then acodeO P Γ n q x F H else acodeO P Γ n q y F H
    | _ => none := by
  rw [acodeO_eq]; rfl
@[simp] theorem acodeO_block (P : Program) (Γ : Gam) (n : Nat) (q : Bool) (id : Nat) (x : Code) (F : List AV) (H : AHeap) : acodeO P Γ n q (.block id x) F H =
    match acodeO P Γ n q x F H with
    | some (.exit id', F', H') => if id' = id then some (.normal, F', H') else some (.exit id', F', H')
    | r => r := by
  rw [acodeO_eq]; rfl
@[simp] theorem acodeO_loop (P : Program) (Γ : Gam) (n : Nat) (q : Bool) (x : Code) (F : List AV) (H : AHeap) : acodeO P Γ n q (.loop x) F H = aloop (fun F H => acodeO P Γ n q x F H) n F H := by
  rw [acodeO_eq]; rfl
@[simp] theorem acodeO_scope (P : Program) (Γ : Gam) (n : Nat) (q : Bool) (x : Code) (F : List AV) (H : AHeap) : acodeO P Γ n q (.scope x) F H = acodeO P Γ n q x F H := by rw [acodeO_eq]; rfl
@[simp] theorem acodeO_exit (P : Program) (Γ : Gam) (n : Nat) (q : Bool) (id : Nat) (F : List AV) (H : AHeap) : acodeO P Γ n q (.exit id) F H = some (.exit id, F, H) := by rw [acodeO_eq]; rfl
@[simp] theorem acodeO_ret (P : Program) (Γ : Gam) (n : Nat) (q : Bool) (F : List AV) (H : AHeap) : acodeO P Γ n q .ret F H = some (.ret, F, H) := by rw [acodeO_eq]; rfl
theorem acodeO_rf (P : Program) (Γ : Gam) (n : Nat) (q : Bool) (g ps asg body) (F : List AV) (H : AHeap) : acodeO P Γ n q (.rangeFunc g ps asg body) F H = acode P Γ n q (.rangeFunc g ps asg body) F H := by rw [acodeO_eq]

end Go.Proofs.Ytbbgmaklmlagcaa
