/- Contracts of functions on abstract heaps, and one operation of any kind. -/
import Derived.Test.YtbbgmaklmlagcaaAs
import Derived.RangeFuncSeq
namespace Go.Proofs.Ytbbgmaklmlagcaa

/-- Inside no round, or inside one. -/
def FW (r : Option Nat) : Fence := { Fence.wide with round := r }

/-- A function, called with these arguments on this heap, returns this value and leaves this heap. -/
def Ct (P : Program) (f : FuncId) (args : List AV) (H : AHeap) (v : AV) (H' : AHeap) : Prop :=
  ∀ j w cargs, R j H w → VRs j args cargs.toList → Calls P f cargs w fun e w' => ∃ cv j', e = .returned cv ∧ VR j' v cv ∧ Step H.length j H w j' H' w'

/-- What functions do: the value, the heap, and which old blocks may be other ones. -/
abbrev Gam := FuncId → List AV → AHeap → Option (AV × AHeap × List Nat)

structure Sound (P : Program) (f : FuncId) (s : List AV → AHeap → Option (AV × AHeap × List Nat)) : Prop where
  enter : ∀ cargs w, (callFunc f cargs).run P w = .ok (.enter f cargs) w
  ct : ∀ args H v H' W, s args H = some (v, H', W) → Ct P f args H v H'
  keep : ∀ args H v H' W, s args H = some (v, H', W) → H.length ≤ H'.length ∧ ∀ b, b < H.length → b ∉ W → H'[b]? = H[b]?

/-- Under this name a list of summaries tells what a call of yield does. -/
abbrev yl : FuncId := 1000000000

def YSound (P : Program) (s : List AV → AHeap → Option (AV × AHeap × List Nat)) : Prop :=
  ∀ b args H v H' W, s (.yld b :: args) H = some (v, H', W) → ∀ j w cargs p m, R j H w → VRs j args cargs.toList → j b = some p →
    YieldAt Fence.wide m P p.blk cargs w fun e w' => ∃ cv j', e = .returned cv ∧ VR j' v cv ∧ Step H.length j H w j' H' w'

def GOk (P : Program) (Γ : Gam) : Prop := (∀ f, f ≠ yl → (∃ args H r, Γ f args H = some r) → Sound P f (Γ f)) ∧ YSound P (Γ yl)

theorem enter_of {P : Program} {f : FuncId} {fn : Func} (hf : P.funcs[f]? = some fn) (hb : fn.body.isSome = true) (hn : (fn.name == "runtime.NumGoroutine") = false) (cargs : Array Value) (w : World) :
    (callFunc f cargs).run P w = .ok (.enter f cargs) w := by
  unfold callFunc
  rw [rb (a := P) (w' := w) rfl, hf]
  dsimp only
  rw [hn]
  simp only [Bool.false_eq_true, if_false]
  have : fn.body.isNone = false := by cases h : fn.body <;> simp_all
  rw [this]
  rfl

theorem callsIn_FW {r : Option Nat} {n : Nat} {P : Program} {f : FuncId} {args : Array Value} {w : World} {Q : Ending → World → Prop} (h : Calls P f args w Q) : CallsIn (FW r) n P f args w Q :=
  (callsIn_wide (n := n)).2 h

/-- A call, as an operation. -/
def callA (Γ : Gam) (F : List AV) (H : AHeap) (g : Operand) (args : Array Operand) : Option (AV × AHeap × List Nat) :=
  match ev F g with
  | .func f first cap => if f = yl then none else Γ f (first ++ args.toList.map (ev F) ++ cap) H
  | _ => none

/-- One operation: what it puts, and the heap behind it. -/
def opA (P : Program) (Γ : Gam) (F : List AV) (H : AHeap) : Op → Option (AV × AHeap)
  | .lookup t x i ok => (readA P F H (.lookup t x i ok)).map (·, H)
  | .makeMap _ none => some (.map H.length, H ++ [.map []])
  | .mapUpdate t m k v => (mapSetA P H t (ev F m) (ev F k) (ev F v)).map (undefA, ·)
  | .load t x => (loadA P H t (ev F x)).map (·, H)
  | .convert s d x => match convA P s d (ev F x) with
    | some v => some (v, H)
    | none => match readA P F H (.convert s d x) with
      | some v => some (v, H)
      | none => (textA P F (.convert s d x)).map fun s => (.slice H.length 0 s.length 1 false, H ++ [.cells true (bytesA s)])
  | .alloc t => (newA P F (.alloc t)).map fun l => (.ptr H.length 0, H ++ [.cells true l])
  | .box t x => (newA P F (.box t x)).map fun l => (.ptr H.length 0, H ++ [.cells true l])
  | .buildSlice t n ps => (rowA P F (.buildSlice t n ps)).map fun (n, sz, l) => (.slice H.length 0 n sz true, H ++ [.cells true l])
  | .makeSlice t l c => (rowA P F (.makeSlice t l c)).map fun (n, sz, l) => (.slice H.length 0 n sz true, H ++ [.cells true l])
  | .slice t x lo hi mx => match ev F x with
    | .ptr .. => (readA P F H (.slice t x lo hi mx)).map (·, H)
    | v => (sliceA P F t v lo hi mx).map (·, H)
  | .store t x v => (storeA P H t (ev F x) (ev F v)).map (undefA, ·)
  | .call ⟨.builtin .append, args, ts⟩ => match ts.toList, args.toList with
    | [t, t'], [s, x] => if t = t' then appendA P H t (ev F s) (ev F x) else appendZ P H t t' (ev F s) (ev F x)
    | _, _ => none
  | .call ⟨.value g, args, _⟩ => match ev F g with
    | .yld b => (Γ yl (.yld b :: args.toList.map (ev F)) H).map fun (v, H', _) => (v, H')
    | _ => (callA Γ F H g args).map fun (v, H', _) => (v, H')
  | op => (apure P F op).map (·, H)

/-- What comes of an operation that makes no call. -/
def OpRun (P : Program) (o : Oper) (a : Act) (j : Inj) (H : AHeap) (w : World) (v : AV) (H' : AHeap) : Prop :=
  ∃ nx cv j' w', (execOp a.eval o).run P w = .ok nx w' ∧ (nx = .value cv ∨ (nx = .skip ∧ cv = undef)) ∧ VR j' v cv ∧ Step H.length j H w j' H' w'

theorem OpRun.wpIn {P : Program} {o : Oper} {a : Act} {j : Inj} {H H' : AHeap} {w : World} {v : AV} (h : OpRun P o a j H w v H') (hd : ∀ c, o.op ≠ .defer c) (r : Option Nat) (n : Nat) {K : Act → World → Prop} {Q : Exit → Act → World → Prop}
    (hk : ∀ cv j' w', VR j' v cv → Step H.length j H w j' H' w' → K (a.put o.dst cv) w') : o.wpIn (FW r) n P a w K Q := by
  obtain ⟨nx, cv, j', w', h1, h2, h3, h4⟩ := h
  refine ⟨fun _ _ => trivial, ?_⟩
  rw [Oper.semAt_eq _ _ _ hd, h1]
  rcases h2 with rfl | ⟨rfl, rfl⟩
  · exact hk cv j' w' h3 h4
  · exact hk undef j' w' h3 h4

theorem call_wpIn {P : Program} {Γ : Gam} (hΓ : GOk P Γ) {o : Oper} {a : Act} {j : Inj} {F : List AV} {H H' : AHeap} {W : List Nat} {w : World} {v : AV} {g : Operand} {args : Array Operand} {ts : Array TypeId}
    (ho : o.op = .call ⟨.value g, args, ts⟩) (h : callA Γ F H g args = some (v, H', W)) (hF : VRs j F a.tmps.toList) (hR : R j H w) (r : Option Nat) (n : Nat) {K : Act → World → Prop} {Q : Exit → Act → World → Prop}
    (hk : ∀ cv j' w', VR j' v cv → Step H.length j H w j' H' w' → K (a.put o.dst cv) w') : o.wpIn (FW r) n P a w K Q := by
  unfold callA at h
  split at h
  rotate_left
  · cases h
  rename_i f first cap hg
  split at h
  · cases h
  rename_i hne
  have hgv := ev_ok hF g
  rw [hg] at hgv
  simp only [VR] at hgv
  obtain ⟨cx, cy, hv, h1, h2⟩ := hgv
  have hs := hΓ.1 f hne ⟨_, _, _, h⟩
  have hargs := evs_ok hF args
  refine ⟨fun _ _ => trivial, ?_⟩
  rw [Oper.semAt_eq _ _ _ (by rw [ho]; simp)]
  have e : (execOp a.eval o).run P w = .ok (.enter f (cx ++ args.map a.eval ++ cy)) w := by
    unfold execOp
    rw [ho]
    dsimp only
    have e1 : Sem.run P (resolve a.eval ⟨.value g, args, ts⟩ o.type) w = .ok { target := .fn (.func f) cy, args := cx ++ args.map a.eval } w := by
      unfold resolve
      dsimp only
      rw [hv]
      rfl
    rw [rb e1]
    exact hs.enter _ w
  rw [e]
  refine ⟨(fun hh => by simp [FW, Fence.wide] at hh), callsIn_FW ?_⟩
  refine (hs.ct _ _ _ _ _ h j w (cx ++ args.map a.eval ++ cy) hR (by
    rw [Array.toList_append, Array.toList_append]
    exact (h1.append hargs).append h2)).mono ?_
  rintro e w' ⟨cv, j', rfl, h3, h4⟩
  exact hk cv j' w' h3 h4

mutual
/-- No block is named. -/
def free : AV → Bool
  | .ptr .. | .slice .. | .sl .. | .map .. | .yld .. => false
  | .func _ xs ys => frees xs && frees ys
  | .agg l => frees l
  | .tuple l => frees l
  | _ => true
def frees : List AV → Bool
  | [] => true
  | x :: xs => free x && frees xs
end

mutual
theorem VR.free {j j' : Inj} : ∀ (x : AV) (v : Value), free x = true → VR j x v → VR j' x v
  | .top, _, _, _ => by simp [VR]
  | .bool b, v, _, h => by simpa [VR] using h
  | .int k n, v, _, h => by simpa [VR] using h
  | .str s, v, _, h => by simpa [VR] using h
  | .ptr b o, _, hf, _ => by simp [Go.Proofs.Ytbbgmaklmlagcaa.free] at hf
  | .nilp, v, _, h => by simpa [VR] using h
  | .slice .., _, hf, _ => by simp [Go.Proofs.Ytbbgmaklmlagcaa.free] at hf
  | .sl .., _, hf, _ => by simp [Go.Proofs.Ytbbgmaklmlagcaa.free] at hf
  | .nils, v, _, h => by simpa [VR] using h
  | .map _, _, hf, _ => by simp [Go.Proofs.Ytbbgmaklmlagcaa.free] at hf
  | .nilm, v, _, h => by simpa [VR] using h
  | .func f xs ys, v, hf, h => by
    simp [Go.Proofs.Ytbbgmaklmlagcaa.free] at hf
    simp only [VR] at h ⊢
    obtain ⟨cx, cy, e, h1, h2⟩ := h
    exact ⟨cx, cy, e, VRs.free xs _ hf.1 h1, VRs.free ys _ hf.2 h2⟩
  | .yld _, _, hf, _ => by simp [Go.Proofs.Ytbbgmaklmlagcaa.free] at hf
  | .nilf, v, _, h => by simpa [VR] using h
  | .agg l, v, hf, h => by
    simp [Go.Proofs.Ytbbgmaklmlagcaa.free] at hf
    simp only [VR] at h ⊢
    obtain ⟨cs, e, h1⟩ := h
    exact ⟨cs, e, VRs.free l _ hf h1⟩
  | .tuple l, v, hf, h => by
    simp [Go.Proofs.Ytbbgmaklmlagcaa.free] at hf
    simp only [VR] at h ⊢
    obtain ⟨cs, e, h1⟩ := h
    exact ⟨cs, e, VRs.free l _ hf h1⟩
theorem VRs.free {j j' : Inj} : ∀ (xs : List AV) (vs : List Value), frees xs = true → VRs j xs vs → VRs j' xs vs
  | [], vs, _, h => by simpa [VRs] using h
  | x :: xs, vs, hf, h => by
    simp [frees] at hf
    simp only [VRs] at h ⊢
    obtain ⟨v, ws, e, h1, h2⟩ := h
    exact ⟨v, ws, e, VR.free x _ hf.1 h1, VRs.free xs _ hf.2 h2⟩
end

def isRo : ABlk → Bool
  | .cells true _ => false
  | .loop .. => false
  | .map _ => false
  | _ => true

theorem ro_own {x : ABlk} (h : isRo x = true) : ¬ x.own = true := by
  cases x with
  | dead => simp [ABlk.own]
  | cells o l => cases o <;> simp_all [isRo, ABlk.own]
  | loop _ _ _ _ _ _ => simp [isRo] at h
  | map _ => simp [isRo] at h

/-- Nothing is owned: nothing is changed. -/
theorem keeps_all {j : Inj} {H : AHeap} {w w' : World} (h : Keeps j H w w') (hro : H.all isRo = true) : ∀ c, c < w.heap.size → w'.heap[c]? = w.heap[c]? := by
  intro c hc
  refine h.block c hc fun b y p hb hy hp => ?_
  exact absurd hy (ro_own (List.all_eq_true.1 hro _ (List.mem_of_getElem? hb)))

theorem R.same {j : Inj} {H : AHeap} {w w' : World} (h : R j H w) (hw : ∀ c, c < w.heap.size → w'.heap[c]? = w.heap[c]?) : R j H w' := by
  refine ⟨h.dom, fun b x p hb hp => ?_, h.inj⟩
  exact (h.blk b x p hb hp).mono (JLe.refl j) fun hd => hw _ (h.ltx hb hd hp)

/-- A contract of values alone, beside whatever there is: what it makes is forgotten. -/
theorem ct_pure' {P : Program} {f : FuncId} {args : List AV} {H H1 : AHeap} {v : AV} (h : Ct P f args [] v H1) (ha : frees args = true) (hv : free v = true) :
    ∀ j w cargs, R j H w → VRs j args cargs.toList → Calls P f cargs w fun e w' => ∃ cv, e = .returned cv ∧ VR j v cv ∧ Step H.length j H w j H w' := by
  intro j w cargs hR hargs
  have hR0 : R (fun _ => none) [] w := ⟨fun _ _ => rfl, fun b x p hb => by simp at hb, fun b b' l x p p' hb => by simp at hb⟩
  refine (h (fun _ => none) w cargs hR0 (VRs.free _ _ ha hargs)).mono ?_
  rintro e w' ⟨cv, j', rfl, h1, h2⟩
  have hk := keeps_all h2.keeps (by rfl)
  exact ⟨cv, rfl, VR.free v cv hv h1, hR.same hk, fun _ _ => rfl, Nat.le_refl _, ⟨h2.keeps.os, h2.keeps.tape, h2.keeps.output, h2.keeps.size, fun c hc _ => hk c hc⟩, fun b l p hb hy hp => .inr ⟨b, l, p, hb, hy, hp, rfl⟩⟩

theorem ct_pure {P : Program} {f : FuncId} {args : List AV} {H : AHeap} {v : AV} (h : Ct P f args [] v []) (ha : frees args = true) (hv : free v = true) : Ct P f args H v H := by
  intro j w cargs hR hargs
  refine (ct_pure' h ha hv j w cargs hR hargs).mono ?_
  rintro e w' ⟨cv, rfl, h1, h2⟩
  exact ⟨cv, j, rfl, h1, h2⟩

/-- A call of values alone, run without memory. -/
def pureA (Γ : Gam) (F : List AV) (g : Operand) (args : Array Operand) : Option AV :=
  if frees (args.toList.map (ev F)) then
    match ev F g with
    | .func _ first cap =>
      if frees first && frees cap then
        match callA Γ F [] g args with
        | some (v, _, _) => if free v then some v else none
        | none => none
      else none
    | _ => none
  else none

theorem pure_wpIn {P : Program} {Γ : Gam} (hΓ : GOk P Γ) {o : Oper} {a : Act} {j : Inj} {F : List AV} {H : AHeap} {w : World} {v : AV} {g : Operand} {args : Array Operand} {ts : Array TypeId}
    (ho : o.op = .call ⟨.value g, args, ts⟩) (h : pureA Γ F g args = some v) (hF : VRs j F a.tmps.toList) (hR : R j H w) (r : Option Nat) (n : Nat) {K : Act → World → Prop} {Q : Exit → Act → World → Prop}
    (hk : ∀ cv w', VR j v cv → Step H.length j H w j H w' → K (a.put o.dst cv) w') : o.wpIn (FW r) n P a w K Q := by
  unfold pureA at h
  split at h
  rotate_left
  · cases h
  rename_i hfa
  split at h
  rotate_left
  · cases h
  rename_i f first cap hg
  split at h
  rotate_left
  · cases h
  rename_i hfc
  split at h
  rotate_left
  · cases h
  rename_i v1 H1 W hc
  split at h <;> cases h
  rename_i hfv
  unfold callA at hc
  rw [hg] at hc
  dsimp only at hc
  split at hc
  · cases hc
  rename_i hne
  have hgv := ev_ok hF g
  rw [hg] at hgv
  simp only [VR] at hgv
  obtain ⟨cx, cy, hv, h1, h2⟩ := hgv
  have hs := hΓ.1 f hne ⟨_, _, _, hc⟩
  have hargs := evs_ok hF args
  refine ⟨fun _ _ => trivial, ?_⟩
  rw [Oper.semAt_eq _ _ _ (by rw [ho]; simp)]
  have e : (execOp a.eval o).run P w = .ok (.enter f (cx ++ args.map a.eval ++ cy)) w := by
    unfold execOp
    rw [ho]
    dsimp only
    have e1 : Sem.run P (resolve a.eval ⟨.value g, args, ts⟩ o.type) w = .ok { target := .fn (.func f) cy, args := cx ++ args.map a.eval } w := by
      unfold resolve
      dsimp only
      rw [hv]
      rfl
    rw [rb e1]
    exact hs.enter _ w
  rw [e]
  refine ⟨(fun hh => by simp [FW, Fence.wide] at hh), callsIn_FW ?_⟩
  have hfr : frees (first ++ args.toList.map (ev F) ++ cap) = true := by
    have app : ∀ xs ys : List AV, frees xs = true → frees ys = true → frees (xs ++ ys) = true := by
      intro xs
      induction xs with
      | nil => intro ys _ hy; exact hy
      | cons x xs ih =>
        intro ys hx hy
        simp only [List.cons_append, frees, Bool.and_eq_true] at hx ⊢
        exact ⟨hx.1, ih ys hx.2 hy⟩
    rw [Bool.and_eq_true] at hfc
    exact app _ _ (app _ _ hfc.1 hfa) hfc.2
  refine (ct_pure' (hs.ct _ _ _ _ _ hc) hfr hfv j w (cx ++ args.map a.eval ++ cy) hR (by
    rw [Array.toList_append, Array.toList_append]
    exact (h1.append hargs).append h2)).mono ?_
  rintro e w' ⟨cv, rfl, h3, h4⟩
  exact hk cv w' h3 h4

/-- A call of yield, as an operation. -/
theorem yield_wpIn {P : Program} {Γ : Gam} (hΓ : GOk P Γ) {o : Oper} {a : Act} {j : Inj} {F : List AV} {H H' : AHeap} {W : List Nat} {w : World} {v : AV} {g : Operand} {args : Array Operand} {ts : Array TypeId} {b : Nat}
    (ho : o.op = .call ⟨.value g, args, ts⟩) (hg : ev F g = .yld b) (h : Γ yl (.yld b :: args.toList.map (ev F)) H = some (v, H', W)) (hF : VRs j F a.tmps.toList) (hR : R j H w) (r : Option Nat) (n : Nat) {K : Act → World → Prop} {Q : Exit → Act → World → Prop}
    (hk : ∀ cv j' w', VR j' v cv → Step H.length j H w j' H' w' → K (a.put o.dst cv) w') : o.wpIn (FW r) n P a w K Q := by
  have hgv := ev_ok hF g
  rw [hg] at hgv
  simp only [VR] at hgv
  obtain ⟨p, hp, hv⟩ := hgv
  have hargs := evs_ok hF args
  obtain ⟨fn, tmps, asg, body, hy, hr⟩ := hΓ.2 b _ H v H' W h j w (args.map a.eval) p (n - 1) hR hargs hp
  refine ⟨fun _ _ => trivial, ?_⟩
  rw [Oper.semAt_eq _ _ _ (by rw [ho]; simp)]
  have e : (execOp a.eval o).run P w = .ok (.round p.blk fn tmps asg body) w := by
    unfold execOp
    rw [ho]
    dsimp only
    have e1 : Sem.run P (resolve a.eval ⟨.value g, args, ts⟩ o.type) w = .ok { target := .fn (.yield p.blk) #[], args := args.map a.eval } w := by
      unfold resolve
      dsimp only
      rw [hv]
      simp [go_sem]
    rw [rb e1]
    simp [invoke, go_sem, hy]
  rw [e]
  refine ⟨(fun hh => by simp [FW, Fence.wide] at hh), ?_⟩
  refine RoundIn.mono (F := FW r) (R := fun e w' => ∃ cv j', e = .returned cv ∧ VR j' v cv ∧ Step H.length j H w j' H' w') hr ?_
  rintro e w' ⟨cv, j', rfl, h3, h4⟩
  exact hk cv j' w' h3 h4

theorem value_of {P : Program} {o : Oper} {a : Act} {j : Inj} {H : AHeap} {w : World} {v : AV} (hR : R j H w) (h : ∃ cv, (execOp a.eval o).run P w = .ok (.value cv) w ∧ VR j v cv) : OpRun P o a j H w v H := by
  obtain ⟨cv, h1, h2⟩ := h
  exact ⟨_, cv, j, w, h1, .inl rfl, h2, Step.refl hR (Nat.le_refl _)⟩

theorem new_of {P : Program} {o : Oper} {a : Act} {j : Inj} {H H' : AHeap} {w : World} {v : AV} (h : ∃ cv j' w', (execOp a.eval o).run P w = .ok (.value cv) w' ∧ VR j' v cv ∧ Step H.length j H w j' H' w') : OpRun P o a j H w v H' := by
  obtain ⟨cv, j', w', h1, h2, h3⟩ := h
  exact ⟨_, cv, j', w', h1, .inl rfl, h2, h3⟩

theorem conv_eq {P : Program} {F : List AV} {s d : TypeId} {x : Operand} {v : AV} (h : convA P s d (ev F x) = some v) : apure P F (.convert s d x) = some v := h

theorem opA_ok {P : Program} {Γ : Gam} (hΓ : GOk P Γ) {o : Oper} {a : Act} {j : Inj} {F : List AV} {H H' : AHeap} {w : World} {v : AV} (h : opA P Γ F H o.op = some (v, H')) (hF : VRs j F a.tmps.toList) (hR : R j H w) (r : Option Nat) (n : Nat)
    {K : Act → World → Prop} {Q : Exit → Act → World → Prop} (hk : ∀ cv j' w', VR j' v cv → Step H.length j H w j' H' w' → K (a.put o.dst cv) w') : o.wpIn (FW r) n P a w K Q := by
  have pu : ∀ v', apure P F o.op = some v' → v' = v → H = H' → o.wpIn (FW r) n P a w K Q := by
    intro v' hp e1 e2
    subst e1; subst e2
    refine (value_of hR (apure_ok hF hp w)).wpIn ?_ r n hk
    intro c hc
    rw [hc] at hp
    simp [apure] at hp
  unfold opA at h
  split at h
  · rename_i t x i ok ho
    obtain ⟨v', hv, e⟩ := Option.map_eq_some_iff.1 h
    cases e
    exact (value_of hR (readA_ok hF hR (by rw [ho]; exact hv))).wpIn (by rw [ho]; simp) r n hk
  · rename_i t ho
    cases h
    obtain ⟨cv, j', w', h1, h2, h3⟩ := makeMap_ok (P := P) hR t
    refine (new_of ⟨cv, j', w', ?_, h2, h3⟩).wpIn (by rw [ho]; simp) r n hk
    unfold execOp
    rw [ho]
    dsimp only [Option.map]
    rw [rb h1]
    rfl
  · rename_i t m k v' ho
    obtain ⟨H'', hs, e⟩ := Option.map_eq_some_iff.1 h
    cases e
    obtain ⟨w', h1, h2⟩ := mapSetA_ok hR hs (ev_ok hF m) (ev_ok hF k) (ev_ok hF v')
    have : OpRun P o a j H w undefA H' := ⟨.skip, undef, j, w', by
      unfold execOp
      rw [ho]
      dsimp only
      rw [rb h1]
      rfl, .inr ⟨rfl, rfl⟩, ⟨#[], rfl, rfl⟩, h2⟩
    exact this.wpIn (by rw [ho]; simp) r n hk
  · rename_i t x ho
    obtain ⟨v', hv, e⟩ := Option.map_eq_some_iff.1 h
    cases e
    exact (value_of hR (readA_ok hF hR (by rw [ho]; exact hv))).wpIn (by rw [ho]; simp) r n hk
  · rename_i s d x ho
    split at h
    · rename_i v' hv
      cases h
      exact pu _ (by rw [ho]; exact hv) rfl rfl
    · split at h
      · rename_i v' hv
        cases h
        exact (value_of hR (readA_ok hF hR (by rw [ho]; exact hv))).wpIn (by rw [ho]; simp) r n hk
      · obtain ⟨s', hs, e⟩ := Option.map_eq_some_iff.1 h
        cases e
        exact (new_of ((textA_ok hF w (by rw [ho]; exact hs)).step hR)).wpIn (by rw [ho]; simp) r n hk
  · rename_i t ho
    obtain ⟨l, hl, e⟩ := Option.map_eq_some_iff.1 h
    cases e
    exact (new_of ((newA_ok hF w (by rw [ho]; exact hl)).step hR)).wpIn (by rw [ho]; simp) r n hk
  · rename_i t x ho
    obtain ⟨l, hl, e⟩ := Option.map_eq_some_iff.1 h
    cases e
    exact (new_of ((newA_ok hF w (by rw [ho]; exact hl)).step hR)).wpIn (by rw [ho]; simp) r n hk
  · rename_i t m ps ho
    obtain ⟨⟨n', sz, l⟩, hl, e⟩ := Option.map_eq_some_iff.1 h
    cases e
    exact (new_of ((rowA_ok hF w (by rw [ho]; exact hl)).step hR)).wpIn (by rw [ho]; simp) r n hk
  · rename_i t l c ho
    obtain ⟨⟨n', sz, l⟩, hl, e⟩ := Option.map_eq_some_iff.1 h
    cases e
    exact (new_of ((rowA_ok hF w (by rw [ho]; exact hl)).step hR)).wpIn (by rw [ho]; simp) r n hk
  · rename_i t x lo hi mx ho
    split at h
    · rename_i b off hx
      obtain ⟨v', hv, e⟩ := Option.map_eq_some_iff.1 h
      cases e
      exact (value_of hR (readA_ok hF hR (by rw [ho]; exact hv))).wpIn (by rw [ho]; simp) r n hk
    · rename_i hx
      obtain ⟨v', hv, e⟩ := Option.map_eq_some_iff.1 h
      cases e
      refine pu _ ?_ rfl rfl
      rw [ho]
      simp only [apure]
      exact hv
  · rename_i t x v' ho
    obtain ⟨H'', hs, e⟩ := Option.map_eq_some_iff.1 h
    cases e
    obtain ⟨w', h1, h2⟩ := storeA_ok hR hs (ev_ok hF x) (ev_ok hF v')
    have : OpRun P o a j H w undefA H' := ⟨.skip, undef, j, w', by
      unfold execOp
      rw [ho]
      dsimp only
      rw [rb h1]
      rfl, .inr ⟨rfl, rfl⟩, ⟨#[], rfl, rfl⟩, h2⟩
    exact this.wpIn (by rw [ho]; simp) r n hk
  · rename_i args ts ho
    split at h
    rotate_left
    · cases h
    rename_i t t' s x hts hargs
    have key : ∃ cv j' w', (Builtin.append_ #[t, t'] o.type #[a.eval s, a.eval x]).run P w = .ok cv w' ∧ VR j' v cv ∧ Step H.length j H w j' H' w' := by
      split at h
      · rename_i ht
        subst ht
        exact appendA_ok hR h (ev_ok hF s) (ev_ok hF x)
      · exact appendZ_ok hR h (ev_ok hF s) (ev_ok hF x)
    obtain ⟨cv, j', w', h1, h2, h3⟩ := key
    refine (new_of ⟨cv, j', w', ?_, h2, h3⟩).wpIn (by rw [ho]; simp) r n hk
    unfold execOp
    rw [ho]
    dsimp only
    rw [rb (a := (⟨.builtin .append ts o.type (args.map fun | .const _ => true | _ => false), args.map a.eval⟩ : Deferred)) (w' := w) rfl]
    show Sem.run P (do pure (Next.value (← Builtin.append_ ts o.type (args.map a.eval)))) w = _
    have e1 : ts = #[t, t'] := by apply Array.ext'; rw [hts]
    have e2 : args.map a.eval = #[a.eval s, a.eval x] := by apply Array.ext'; rw [Array.toList_map, hargs]; rfl
    rw [e1, e2, rb h1]
    rfl
  · rename_i g args ts ho
    split at h
    · rename_i b hb
      obtain ⟨⟨v', H'', W⟩, hc, e⟩ := Option.map_eq_some_iff.1 h
      cases e
      exact yield_wpIn hΓ ho hb hc hF hR r n hk
    · obtain ⟨⟨v', H'', W⟩, hc, e⟩ := Option.map_eq_some_iff.1 h
      cases e
      exact call_wpIn hΓ ho hc hF hR r n hk
  · obtain ⟨v', hv, e⟩ := Option.map_eq_some_iff.1 h
    cases e
    exact pu _ hv rfl rfl

end Go.Proofs.Ytbbgmaklmlagcaa
