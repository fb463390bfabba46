/- The abstract run of code; what is shown of code (Sim); functions. -/
import Derived.Test.YtbbgmaklmlagcaaAg
import Derived.LoopNIn
import Derived.Scope
import Derived.Test.YtbbgmaklmlagcaaRange
namespace Go.Proofs.Ytbbgmaklmlagcaa

inductive AX where
  | normal | exit (id : Nat) | ret
  deriving Inhabited, DecidableEq

def AX.toExit : AX → Exit
  | .normal => .normal
  | .exit id => .exit id
  | .ret => .ret

abbrev ARes := Option (AX × List AV × AHeap)

/-- Operations, one behind the other. -/
def aops (P : Program) (Γ : Gam) (ops : Array Oper) : List Oper → List AV → AHeap → Option (List AV × AHeap)
  | [], F, H => some (F, H)
  | o :: rest, F, H =>
    match wantA ops o F with
    | none => none
    | some false => aops P Γ ops rest (putA F o.dst undefA) H
    | some true =>
      match opA P Γ F H o.op with
      | none => none
      | some (v, H') => aops P Γ ops rest (putA F o.dst v) H'

def aloop (body : List AV → AHeap → ARes) : Nat → List AV → AHeap → ARes
  | 0, _, _ => none
  | n + 1, F, H =>
    match body F H with
    | some (.normal, F', H') => aloop body n F' H'
    | r => r

/-- q: not inside a round. -/
def acode (P : Program) (Γ : Gam) (n : Nat) (q : Bool) : Code → List AV → AHeap → ARes
  | .skip, F, H => some (.normal, F, H)
  | .label _, F, H => some (.normal, F, H)
  | .region _ ops false, F, H => (aops P Γ ops ops.toList F H).map fun r => (.normal, r)
  | .region _ ops true, F, H => (adraw P Γ ops F H).map fun r => (.normal, r)
  | .seq x y, F, H =>
    match acode P Γ n q x F H with
    | some (.normal, F', H') => acode P Γ n q y F' H'
    | r => r
  | .cond c x y, F, H =>
    match ev F c with
    | .bool t => if t then acode P Γ n q x F H else acode P Γ n q y F H
    | _ => none
  | .block id x, F, H =>
    match acode P Γ n q x F H with
    | some (.exit id', F', H') => if id' = id then some (.normal, F', H') else some (.exit id', F', H')
    | r => r
  | .loop x, F, H => aloop (fun F H => acode P Γ n q x F H) n F H
  | .scope x, F, H => acode P Γ n q x F H
  | .exit id, F, H => some (.exit id, F, H)
  | .ret, F, H => some (.ret, F, H)
  | .rangeFunc g ps asg body, F, H =>
    if q then
      match ev F g with
      | .func gf [] cap =>
        if gf = yl then none else
        match Γ gf (.yld H.length :: cap) (H ++ [.loop ps asg body .ready none F]) with
        | some (_, H', _) =>
          match H'[H.length]? with
          | some (.loop _ _ _ .busy _ _) => none
          | some (.loop _ _ _ _ none _) => some (.normal, F, H'.set H.length .dead)
          | some (.loop _ _ _ _ (some .ret) _) => some (.ret, F, H'.set H.length .dead)
          | some (.loop _ _ _ _ (some (.exit id)) _) => some (.exit id, F, H'.set H.length .dead)
          | _ => none
        | none => none
      | _ => none
    else none
  | _, _, _ => none

/-! Marks -/

def amark (D : Nat) : Deferred := { target := .collected D, args := #[] }

/-- What is deferred: marks of loops over functions, none with a call. -/
def DefOk (B : Nat) (w : World) (ds : List Deferred) : Prop := ∃ Ds : List Nat, ds = Ds.map amark ∧ Ds.Nodup ∧ ∀ D ∈ Ds, B ≤ D ∧ w.heap[D]? = some (.deferred (some []))

theorem DefOk.nil (B : Nat) (w : World) : DefOk B w [] := ⟨[], rfl, by simp, by simp⟩

theorem DefOk.step {n B : Nat} {j j' : Inj} {H H' : AHeap} {w w' : World} {ds : List Deferred} (h : DefOk B w ds) (hR : R j H w) (hs : Step n j H w j' H' w') : DefOk B w' ds := by
  obtain ⟨Ds, h1, h2, h3⟩ := h
  refine ⟨Ds, h1, h2, fun D hD => ⟨(h3 D hD).1, ?_⟩⟩
  have hd := (h3 D hD).2
  rw [hs.keeps.block D (Array.getElem?_eq_some_iff.1 hd).1 ?_]
  · exact hd
  rintro b y p hb hy hp rfl
  have := hR.blk b y p hb hp
  cases y with
  | dead => cases hy
  | cells o l => obtain ⟨cs, T, fz, g, _⟩ := this; rw [g] at hd; cases hd
  | loop _ _ _ _ _ _ => obtain ⟨fn, tmps, D', g, _⟩ := this; rw [g] at hd; cases hd
  | map _ => obtain ⟨_, _, g, _⟩ := this; rw [g] at hd; cases hd

/-- What is shown of code: from any world that shows F and H it comes to an end that Q names. -/
def Sim (P : Program) (r : Option Nat) (n0 : Nat) (c : Code) (F : List AV) (H : AHeap) (Q : AX → List AV → AHeap → Prop) : Prop :=
  ∀ B j w a m, B ≤ w.heap.size → R j H w → VRs j F a.tmps.toList → DefOk B w a.defers → c.wpIn (FW r) m P (fun e a' w' => ∃ x F' H' j', e = AX.toExit x ∧ Q x F' H' ∧ VRs j' F' a'.tmps.toList ∧ DefOk B w' a'.defers ∧ Step n0 j H w j' H' w') a w

theorem put_defers (a : Act) (d : Option Tmp) (v : Value) : (a.put d v).defers = a.defers := by unfold Act.put; split <;> rfl

theorem aops_ok {P : Program} {Γ : Gam} (hΓ : GOk P Γ) {ops : Array Oper} (r : Option Nat) (m : Nat) {Q : Exit → Act → World → Prop} : ∀ (l : List Oper) (F F' : List AV) (H H' : AHeap) (j : Inj) (w : World) (a : Act),
    aops P Γ ops l F H = some (F', H') → R j H w → VRs j F a.tmps.toList → ∀ ds, a.defers = ds →
    (∀ j' w' a', VRs j' F' a'.tmps.toList → a'.defers = ds → Step H.length j H w j' H' w' → Q .normal a' w') → wpListIn (FW r) m P ops Q l a w
  | [], F, F', H, H', j, w, a, h, hR, hF, ds, hd, hq => by
    cases h
    exact hq j w a hF hd (Step.refl hR (Nat.le_refl _))
  | o :: rest, F, F', H, H', j, w, a, h, hR, hF, ds, hd, hq => by
    unfold aops at h
    unfold wpListIn
    split at h
    · cases h
    · rename_i hw
      rw [wantA_ok hw hF]
      refine ⟨fun _ _ => trivial, ?_⟩
      exact aops_ok hΓ r m rest _ F' H H' j w _ h hR (putA_ok hF o.dst ⟨#[], rfl, rfl⟩) ds (by rw [put_defers]; exact hd) hq
    · rename_i hw
      rw [wantA_ok hw hF]
      simp only [if_true]
      split at h
      · cases h
      · rename_i v H1 ho
        refine opA_ok hΓ ho hF hR r m fun cv j' w' hv hst => ?_
        have hle := hst.jle hR (Nat.le_refl _)
        refine aops_ok hΓ r m rest _ F' H1 H' j' w' _ h hst.rel (putA_ok (VRs.mono hle _ _ hF) o.dst hv) ds (by rw [put_defers]; exact hd) fun j2 w2 a2 h1 h2 h3 => ?_
        exact hq j2 w2 a2 h1 h2 (hst.trans h3 hst.len)

theorem Sim.mono {P : Program} {r : Option Nat} {n0 : Nat} {c : Code} {F : List AV} {H : AHeap} {Q Q' : AX → List AV → AHeap → Prop} (h : Sim P r n0 c F H Q) (hq : ∀ x F' H', n0 ≤ H'.length → Q x F' H' → Q' x F' H') : Sim P r n0 c F H Q' := by
  intro B j w a m hB hR hF hd
  refine wpIn_mono (h B j w a m hB hR hF hd) ?_
  rintro e a' w' ⟨x, F', H', j', h1, h2, h3, h4, h5⟩
  exact ⟨x, F', H', j', h1, hq _ _ _ h5.len h2, h3, h4, h5⟩

theorem Sim.seq {P : Program} {r : Option Nat} {n0 : Nat} {x y : Code} {F : List AV} {H : AHeap} {Q : AX → List AV → AHeap → Prop}
    (h : Sim P r n0 x F H fun e F' H' => match e with | .normal => Sim P r n0 y F' H' Q | e => Q e F' H') : Sim P r n0 (.seq x y) F H Q := by
  intro B j w a m hB hR hF hd
  refine wpIn_seq (wpIn_mono (h B j w a m hB hR hF hd) ?_)
  rintro e a' w' ⟨x', F', H', j', rfl, h2, h3, h4, h5⟩
  cases x' with
  | normal =>
    refine wpIn_mono (h2 B j' w' a' m (Nat.le_trans hB h5.keeps.size) h5.rel h3 h4) ?_
    rintro e a2 w2 ⟨x2, F2, H2, j2, g1, g2, g3, g4, g5⟩
    exact ⟨x2, F2, H2, j2, g1, g2, g3, g4, h5.trans g5 (Nat.le_refl _)⟩
  | exit id => exact ⟨_, F', H', j', rfl, h2, h3, h4, h5⟩
  | ret => exact ⟨_, F', H', j', rfl, h2, h3, h4, h5⟩

theorem Sim.block {P : Program} {r : Option Nat} {n0 id : Nat} {x : Code} {F : List AV} {H : AHeap} {Q : AX → List AV → AHeap → Prop}
    (h : Sim P r n0 x F H fun e F' H' => match e with | .exit id' => if id' = id then Q .normal F' H' else Q (.exit id') F' H' | e => Q e F' H') : Sim P r n0 (.block id x) F H Q := by
  intro B j w a m hB hR hF hd
  refine wpIn_block (wpIn_mono (h B j w a m hB hR hF hd) ?_)
  rintro e a' w' ⟨x', F', H', j', rfl, h2, h3, h4, h5⟩
  cases x' with
  | normal => exact ⟨_, F', H', j', rfl, h2, h3, h4, h5⟩
  | exit id' =>
    show (if id' = id then _ else _)
    dsimp only at h2
    split at h2
    · rename_i e; rw [if_pos e]; exact ⟨.normal, F', H', j', rfl, h2, h3, h4, h5⟩
    · rename_i e; rw [if_neg e]; exact ⟨.exit id', F', H', j', rfl, h2, h3, h4, h5⟩
  | ret => exact ⟨_, F', H', j', rfl, h2, h3, h4, h5⟩

section
variable {P : Program} {Fc : Fence} {m : Nat} {b : Frame} {a : Act} {k : List Item} {cs : List Frame} {w : World} {Q : Exit → Act → World → Prop}

theorem stepR_scope {c : Code} : step P (lone (b.atR a (.code (.scope c) :: k)) cs w) = .next (lone (b.atR a (.code c :: .inScope c :: k)) cs w) :=
  step_lone_go (by simp [stepG, stepG.exec, Frame.atR])
theorem stepR_inScope {c : Code} : step P (lone (b.atR a (.inScope c :: k)) cs w) = .next (lone (b.atR a k) cs w) :=
  step_lone_go (by simp [stepG, stepG.exec, Frame.atR])

theorem wpIn_scope {c : Code} (h : c.wpIn Fc m P (Exit.noGoto Q) a w) : (Code.scope c).wpIn Fc m P Q a w := by
  intro b k cs hro hb hr
  have h0 : (lone (b.atR a (.code (.scope c) :: k)) cs w).fenced P Fc := fenced_calm hb hr rfl
  obtain ⟨e, a₁, w₁, hq, harr⟩ := h b (.inScope c :: k) cs hro hb hr
  cases e with
  | normal => exact ⟨.normal, a₁, w₁, hq, .head h0 stepR_scope (StepsIn.trans harr (.one (fenced_calm hb hr rfl) stepR_inScope))⟩
  | exit id =>
    have hx : exitTo id (.inScope c :: k) = exitTo id k := by simp [exitTo]
    exact ⟨.exit id, a₁, w₁, hq, fun k' hk => .head h0 stepR_scope (harr.1 k' (by rw [hx]; exact hk)),
      fun hr' hk => let ⟨k₁, h1, h2⟩ := harr.2 hr' (by rw [hx]; exact hk); ⟨k₁, h1, .head h0 stepR_scope h2⟩⟩
  | goto l => exact hq.elim
  | ret => exact ⟨_, a₁, w₁, hq, .of_steps (.one h0 stepR_scope) harr⟩
  | panic ch => exact ⟨_, a₁, w₁, hq, .of_steps (.one h0 stepR_scope) harr⟩
  | outgrown => exact ⟨_, a₁, w₁, hq, .of_steps (.one h0 stepR_scope) harr⟩
end

theorem Sim.scope {P : Program} {r : Option Nat} {n0 : Nat} {x : Code} {F : List AV} {H : AHeap} {Q : AX → List AV → AHeap → Prop} (h : Sim P r n0 x F H Q) : Sim P r n0 (.scope x) F H Q := by
  intro B j w a m hB hR hF hd
  refine wpIn_scope (wpIn_mono (h B j w a m hB hR hF hd) ?_)
  rintro e a' w' ⟨x', F', H', j', rfl, h2, h3, h4, h5⟩
  cases x' with
  | normal => exact ⟨.normal, F', H', j', rfl, h2, h3, h4, h5⟩
  | exit id => exact ⟨.exit id, F', H', j', rfl, h2, h3, h4, h5⟩
  | ret => exact ⟨.ret, F', H', j', rfl, h2, h3, h4, h5⟩

theorem Sim.cond {P : Program} {r : Option Nat} {n0 : Nat} {c : Operand} {x y : Code} {F : List AV} {H : AHeap} {Q : AX → List AV → AHeap → Prop} {t : Bool} (hc : ev F c = .bool t)
    (h : Sim P r n0 (if t then x else y) F H Q) : Sim P r n0 (.cond c x y) F H Q := by
  intro B j w a m hB hR hF hd
  have hv := ev_ok hF c
  rw [hc] at hv
  simp only [VR] at hv
  exact wpIn_cond hv (h B j w a m hB hR hF hd)

theorem Sim.loop {P : Program} {r : Option Nat} {n0 : Nat} {x : Code} {Q : AX → List AV → AHeap → Prop} {σ : Type} (I : σ → List AV → AHeap → Prop) (μ : σ → Nat) (s0 : σ) {F : List AV} {H : AHeap} (hn : n0 ≤ H.length) (h0 : I s0 F H)
    (round : ∀ s F H, n0 ≤ H.length → I s F H → Sim P r n0 x F H fun e F' H' => match e with | .normal => ∃ s', I s' F' H' ∧ μ s' < μ s | e => Q e F' H') : Sim P r n0 (.loop x) F H Q := by
  intro B j w a m hB hR hF hd
  refine wpIn_loop_rounds (μ s0 + 1) ?_
  have key : ∀ k s F1 H1 j1 w1 a1, μ s < k → I s F1 H1 → VRs j1 F1 a1.tmps.toList → DefOk B w1 a1.defers → Step n0 j H w j1 H1 w1 →
      Code.roundsIn (FW r) m P x (fun e a' w' => ∃ x F' H' j', e = AX.toExit x ∧ Q x F' H' ∧ VRs j' F' a'.tmps.toList ∧ DefOk B w' a'.defers ∧ Step n0 j H w j' H' w') k a1 w1 := by
    intro k
    induction k with
    | zero => intro s _ _ _ _ _ hk; omega
    | succ k ih =>
      intro s F1 H1 j1 w1 a1 hk hi hv hdf hst
      refine wpIn_mono (round s F1 H1 hst.len hi B j1 w1 a1 m (Nat.le_trans hB hst.keeps.size) hst.rel hv hdf) ?_
      rintro e a2 w2 ⟨x', F2, H2, j2, rfl, g2, g3, g4, g5⟩
      have hst2 := hst.trans g5 (Nat.le_refl _)
      cases x' with
      | normal =>
        obtain ⟨s', hi', hlt⟩ := g2
        exact ih s' F2 H2 j2 w2 a2 (by omega) hi' g3 g4 hst2
      | exit id => exact ⟨_, F2, H2, j2, rfl, g2, g3, g4, hst2⟩
      | ret => exact ⟨_, F2, H2, j2, rfl, g2, g3, g4, hst2⟩
  exact key _ s0 F H j w a (Nat.lt_succ_self _) h0 hF hd (Step.refl hR hn)

theorem Sim.aloop {P : Program} {r : Option Nat} {c : Code} (body : List AV → AHeap → ARes) (hb : ∀ F H x F' H', body F H = some (x, F', H') → Sim P r H.length c F H fun x1 F1 H1 => x1 = x ∧ F1 = F' ∧ H1 = H') :
    ∀ (n : Nat) F H x F' H', aloop body n F H = some (x, F', H') → Sim P r H.length (.loop c) F H fun x1 F1 H1 => x1 = x ∧ F1 = F' ∧ H1 = H' := by
  intro n F H x F' H' h B j w a m hB hR hF hd
  refine wpIn_loop_rounds n ?_
  have key : ∀ n F1 H1 j1 w1 a1, _root_.Go.Proofs.Ytbbgmaklmlagcaa.aloop body n F1 H1 = some (x, F', H') → VRs j1 F1 a1.tmps.toList → DefOk B w1 a1.defers → Step H.length j H w j1 H1 w1 →
      Code.roundsIn (FW r) m P c (fun e a' w' => ∃ x1 F1 H1 j', e = AX.toExit x1 ∧ (x1 = x ∧ F1 = F' ∧ H1 = H') ∧ VRs j' F1 a'.tmps.toList ∧ DefOk B w' a'.defers ∧ Step H.length j H w j' H1 w') n a1 w1 := by
    intro n
    induction n with
    | zero => intro F1 H1 j1 w1 a1 h; cases h
    | succ n ih =>
      intro F1 H1 j1 w1 a1 h hv hdf hst
      unfold _root_.Go.Proofs.Ytbbgmaklmlagcaa.aloop at h
      cases hbo : body F1 H1 with
      | none => rw [hbo] at h; cases h
      | some r1 =>
        obtain ⟨x1, F2, H2⟩ := r1
        rw [hbo] at h
        refine wpIn_mono (hb F1 H1 x1 F2 H2 hbo B j1 w1 a1 m (Nat.le_trans hB hst.keeps.size) hst.rel hv hdf) ?_
        rintro e a2 w2 ⟨x', F3, H3, j2, rfl, ⟨rfl, rfl, rfl⟩, g3, g4, g5⟩
        have hst2 := hst.trans g5 hst.len
        cases x' with
        | normal => exact ih _ _ j2 w2 a2 h g3 g4 hst2
        | exit id => cases h; exact ⟨_, _, _, j2, rfl, ⟨rfl, rfl, rfl⟩, g3, g4, hst2⟩
        | ret => cases h; exact ⟨_, _, _, j2, rfl, ⟨rfl, rfl, rfl⟩, g3, g4, hst2⟩
  exact key n F H j w a h hF hd (Step.refl hR (Nat.le_refl _))

theorem Sim.len {P : Program} {r : Option Nat} {n0 n1 : Nat} {c : Code} {F : List AV} {H : AHeap} {Q : AX → List AV → AHeap → Prop} (h : Sim P r n1 c F H Q) (hn : n0 ≤ n1) : Sim P r n0 c F H Q := by
  intro B j w a m hB hR hF hd
  refine wpIn_mono (h B j w a m hB hR hF hd) ?_
  rintro e a' w' ⟨x, F', H', j', h1, h2, h3, h4, h5⟩
  exact ⟨x, F', H', j', h1, h2, h3, h4, h5.weaken hn⟩

theorem step_loop {j : Inj} {H : AHeap} {w : World} (h : R j H w) (fn : FuncId) {tmps : Array Value} (ps : Array Tmp) (asg body : Code) {F : List AV} (hF : VRs j F tmps.toList) :
    Step H.length j H w (jput j H.length ⟨w.heap.size + 1, 0, 0⟩) (H ++ [.loop ps asg body .ready none F]) ((w.alloc (.deferred (some []))).alloc (arec fn tmps ps asg body w.heap.size .ready none)) := by
  obtain ⟨W1, hW⟩ : ∃ W1, W1 = (w.alloc (.deferred (some []))).alloc (arec fn tmps ps asg body w.heap.size .ready none) := ⟨_, rfl⟩
  rw [← hW]
  have hh : W1.heap = (w.heap.push (.deferred (some []))).push (arec fn tmps ps asg body w.heap.size .ready none) := by rw [hW]; rfl
  have hos : W1.os = w.os := by rw [hW]; rfl
  have htape : W1.tape = w.tape := by rw [hW]; rfl
  have hout : W1.output = w.output := by rw [hW]; rfl
  clear hW
  have hnone : j H.length = none := h.dom _ (Nat.le_refl _)
  have hle : JLe j (jput j H.length ⟨w.heap.size + 1, 0, 0⟩) := jput_le hnone
  have hold : ∀ c, c < w.heap.size → W1.heap[c]? = w.heap[c]? := fun c hc => by
    rw [hh, Array.getElem?_push, if_neg (by simp; omega), Array.getElem?_push, if_neg (by omega)]
  have hnew : W1.heap[w.heap.size + 1]? = some (arec fn tmps ps asg body w.heap.size .ready none) := by
    rw [hh, Array.getElem?_push, if_pos (by simp)]
  have hcase : ∀ c y q, (H ++ [ABlk.loop ps asg body .ready none F])[c]? = some y → jput j H.length ⟨w.heap.size + 1, 0, 0⟩ c = some q → (c = H.length ∧ y = .loop ps asg body .ready none F ∧ q = ⟨w.heap.size + 1, 0, 0⟩) ∨ (c ≠ H.length ∧ H[c]? = some y ∧ j c = some q) := by
    intro c y q hc hq
    rw [List.getElem?_append] at hc
    split at hc <;> rename_i hlt
    · exact .inr ⟨by omega, hc, by unfold jput at hq; rw [if_neg (by omega)] at hq; exact hq⟩
    · have hc0 : c = H.length := by
        rcases Nat.lt_or_ge (c - H.length) 1 with h1 | h1
        · omega
        · rw [List.getElem?_eq_none (by simpa using h1)] at hc; cases hc
      subst hc0
      simp at hc
      rw [jput_same] at hq
      cases hq
      exact .inl ⟨rfl, hc.symm, rfl⟩
  refine ⟨⟨?_, ?_, ?_⟩, ?_, by simp, ⟨hos, htape, hout, by rw [hh]; simp; omega, fun c hc _ => hold c hc⟩, ?_⟩
  · intro b hb
    simp at hb
    unfold jput
    rw [if_neg (by omega)]
    exact h.dom b (by omega)
  · intro b x p hb hp
    rcases hcase b x p hb hp with ⟨rfl, rfl, rfl⟩ | ⟨_, hb', hp'⟩
    · exact ⟨fn, tmps, w.heap.size, hnew, VRs.mono hle _ _ hF⟩
    · exact (h.blk b x p hb' hp').mono hle fun hx => hold _ (h.ltx hb' hx hp')
  · intro b b' y x p p' hb hy hb' hx hne hp hp'
    rcases hcase b y p hb hp with ⟨rfl, rfl, rfl⟩ | ⟨e1, h1, h2⟩ <;> rcases hcase b' x p' hb' hp' with ⟨rfl, rfl, rfl⟩ | ⟨e2, k1, k2⟩
    · exact absurd rfl hne
    · have := h.ltx k1 hx k2; dsimp only; omega
    · have := h.ltx h1 (own_nd hy) h2; dsimp only; omega
    · exact h.inj b b' y x p p' h1 hy k1 hx hne h2 k2
  · intro b hb
    unfold jput
    rw [if_neg (by omega)]
  · intro b y p hb hy hp
    rcases hcase b y p hb hp with ⟨rfl, rfl, rfl⟩ | ⟨_, hb', hp'⟩
    · exact .inl (by dsimp only; omega)
    · exact .inr ⟨b, y, p, hb', hy, hp', rfl⟩

theorem rf_stmtA {n : Nat} {P : Program} {g : Operand} {ps : Array Tmp} {assign body : Code} {Q : Exit → Act → World → Prop} {a : Act} {w : World} {gf : Nat} {lb : Array Value}
    (hg : a.eval g = .func (.func gf) #[] lb) (eg : ∀ args w, (callFunc gf args).run P w = .ok (.enter gf args) w)
    (h : ∀ fn W1, W1 = (w.alloc (.deferred (some []))).alloc (arec fn a.tmps ps assign body w.heap.size .ready none) →
      Calls P gf (#[.func (.yield (w.heap.size + 1)) #[] #[]] ++ lb) W1 fun e W2 => ∃ v rc, e = .returned v ∧ rc.state ≠ .busy ∧ W2.heap[w.heap.size + 1]? = some (.loop rc) ∧
        (match rc.pending with
        | none => Q .normal { a with defers := amark w.heap.size :: a.defers } (W2.putObj (w.heap.size + 1) (.loop { rc with state := .exhausted }))
        | some c => c.wpIn Fence.wide n P Q { a with defers := amark w.heap.size :: a.defers } (W2.putObj (w.heap.size + 1) (.loop { rc with state := .exhausted })))) :
    (Code.rangeFunc g ps assign body).wpIn Fence.wide n P Q a w := by
  refine wpIn_rangeFunc ?_
  intro fn _
  obtain ⟨W1, hW1⟩ : ∃ W1, W1 = (w.alloc (.deferred (some []))).alloc (arec fn a.tmps ps assign body w.heap.size .ready none) := ⟨_, rfl⟩
  refine ⟨w.heap.size + 1, [amark w.heap.size], W1, { target := .fn (.func gf) lb, args := #[.func (.yield (w.heap.size + 1)) #[] #[]] }, W1, gf,
    #[.func (.yield (w.heap.size + 1)) #[] #[]] ++ lb, W1, ?_, ?_, ?_, ?_, ?_, ?_⟩
  · rw [hW1]; exact run_enterLoop_outer _ _ _ _ _
  · simp only [resolve, hg]
    simp [go_sem]
  · intro f' _; trivial
  · simp [invoke, go_sem, eg]
  · intro hd; cases hd
  · refine callsIn_wide.2 ((h fn W1 hW1).mono ?_)
    rintro e W2 ⟨v, rc, rfl, hst, hl, hq⟩
    refine ⟨rc.pending, _, run_endLoop hl hst, ?_⟩
    cases hp : rc.pending with
    | none => rw [hp] at hq; exact hq
    | some c => rw [hp] at hq; exact hq

theorem rangeFunc_ok {P : Program} {Γ : Gam} (_hm : P.follows .mixedOrders = true) (hΓ : GOk P Γ) (r : Option Nat) (n : Nat) (q : Bool) (hqr : q = true → r = none) {g : Operand} {ps : Array Tmp} {asg body : Code} {F F' : List AV} {H H' : AHeap} {x : AX}
    (h : acode P Γ n q (.rangeFunc g ps asg body) F H = some (x, F', H')) : Sim P r H.length (.rangeFunc g ps asg body) F H fun x1 F1 H1 => x1 = x ∧ F1 = F' ∧ H1 = H' := by
  simp only [acode] at h
  split at h
  rotate_left
  · cases h
  rename_i hq
  have := hqr hq
  subst this
  split at h
  rotate_left
  · cases h
  rename_i gf cap hg
  split at h
  · cases h
  rename_i hne
  split at h
  rotate_left
  · cases h
  rename_i v H1 W hcall
  intro B j w a m hB hR hF hd
  have hs := hΓ.1 gf hne ⟨_, _, _, hcall⟩
  have hgv := ev_ok hF g
  rw [hg] at hgv
  simp only [VR] at hgv
  obtain ⟨cx, cy, hgv, h1, h2⟩ := hgv
  have hcx : cx = #[] := by apply Array.ext'; simpa [VRs] using h1
  subst hcx
  refine rf_stmtA (n := m) hgv hs.enter fun fn W1 hW1 => ?_
  have st1 := step_loop hR fn ps asg body hF
  rw [← hW1] at st1
  have hle := st1.jle hR (Nat.le_refl _)
  refine (hs.ct _ _ _ _ _ hcall _ W1 _ st1.rel ?_).mono ?_
  · rw [Array.toList_append]
    exact ⟨_, _, rfl, ⟨_, jput_same _ _ _, rfl⟩, VRs.mono hle _ _ h2⟩
  rintro e W2 ⟨cv, j2, rfl, _, st2⟩
  have hj2 : j2 H.length = some ⟨w.heap.size + 1, 0, 0⟩ := by rw [st2.ext _ (by simp)]; exact jput_same _ _ _
  have key : ∀ ps' asg' body' st pe F1, H1[H.length]? = some (.loop ps' asg' body' st pe F1) → st ≠ .busy → ∃ rc : Loop, rc.state = st ∧ rc.pending = pe ∧ W2.heap[w.heap.size + 1]? = some (.loop rc) ∧
      Step H.length j H w j2 (H1.set H.length .dead) (W2.putObj (w.heap.size + 1) (.loop { rc with state := .exhausted })) ∧
      DefOk B (W2.putObj (w.heap.size + 1) (.loop { rc with state := .exhausted })) (amark w.heap.size :: a.defers) := by
    intro ps' asg' body' st pe F1 hl hst
    obtain ⟨fn', tmps', D', g1, g2⟩ := st2.rel.blk H.length _ _ hl hj2
    have st3 := step_put (o := .loop { ({ state := st, pending := pe, fn := fn', tmps := tmps', params := ps', assign := asg', body := body', defers := D' } : Loop) with state := .exhausted }) st2.rel hl rfl hj2 (.inl rfl) trivial
    have st12 := st1.trans st2 (by simp)
    have stA := st12.trans st3 (by have := st2.len; simp at this; omega)
    refine ⟨_, rfl, rfl, g1, stA, ?_⟩
    have hd1 : DefOk B W1 (amark w.heap.size :: a.defers) := by
      obtain ⟨Ds, e1, e2, e3⟩ := hd
      refine ⟨w.heap.size :: Ds, by rw [e1]; rfl, List.nodup_cons.2 ⟨fun hm => ?_, e2⟩, fun D hD => ?_⟩
      · have := (Array.getElem?_eq_some_iff.1 (e3 _ hm).2).1
        omega
      · rcases List.mem_cons.1 hD with rfl | hD
        · refine ⟨hB, ?_⟩
          rw [hW1]
          show ((w.heap.push (.deferred (some []))).push _)[w.heap.size]? = _
          rw [Array.getElem?_push, if_neg (by simp), Array.getElem?_push, if_pos rfl]
        · refine ⟨(e3 D hD).1, ?_⟩
          have := (Array.getElem?_eq_some_iff.1 (e3 D hD).2).1
          rw [st1.keeps.block D this ?_]
          · exact (e3 D hD).2
          rintro b y p hb hy hp rfl
          have hbr := hR.blk b y p hb hp
          have h9 := (e3 _ hD).2
          cases y with
          | dead => cases hy
          | cells o l => obtain ⟨cs, T, fz, g, _⟩ := hbr; rw [g] at h9; cases h9
          | loop _ _ _ _ _ _ => obtain ⟨_, _, _, g, _⟩ := hbr; rw [g] at h9; cases h9
          | map _ => obtain ⟨_, _, g, _⟩ := hbr; rw [g] at h9; cases h9
    exact (hd1.step st1.rel st2).step st2.rel st3
  have fin : ∀ (st : LoopState) (pe : Option Code) (e : AX), st ≠ .busy → (∃ ps' asg' body' F1, H1[H.length]? = some (.loop ps' asg' body' st pe F1)) → (match pe with | none => e = .normal | some .ret => e = .ret | some (.exit id) => e = .exit id | _ => False) → some (e, F, H1.set H.length .dead) = some (x, F', H') → ∃ v rc, Ending.returned cv = .returned v ∧ rc.state ≠ .busy ∧ W2.heap[w.heap.size + 1]? = some (.loop rc) ∧
        (match rc.pending with
        | none => (fun e a' w' => ∃ x1 F1 H1 j', e = AX.toExit x1 ∧ (x1 = x ∧ F1 = F' ∧ H1 = H') ∧ VRs j' F1 a'.tmps.toList ∧ DefOk B w' a'.defers ∧ Step H.length j H w j' H1 w') Exit.normal { a with defers := amark w.heap.size :: a.defers } (W2.putObj (w.heap.size + 1) (.loop { rc with state := .exhausted }))
        | some c => c.wpIn Fence.wide m P (fun e a' w' => ∃ x1 F1 H1 j', e = AX.toExit x1 ∧ (x1 = x ∧ F1 = F' ∧ H1 = H') ∧ VRs j' F1 a'.tmps.toList ∧ DefOk B w' a'.defers ∧ Step H.length j H w j' H1 w') { a with defers := amark w.heap.size :: a.defers } (W2.putObj (w.heap.size + 1) (.loop { rc with state := .exhausted }))) := by
    rintro st pe e hst ⟨ps', asg', body', F1, hl⟩ hpe heq
    cases heq
    obtain ⟨rc, e1, e2, e3, e4, e5⟩ := key ps' asg' body' st pe F1 hl hst
    refine ⟨_, rc, rfl, by rw [e1]; exact hst, e3, ?_⟩
    rw [e2] at e4 e5 ⊢
    have hF' : VRs j2 F a.tmps.toList := VRs.mono (e4.jle hR (Nat.le_refl _)) _ _ hF
    split at hpe
    · subst hpe
      exact ⟨.normal, _, _, j2, rfl, ⟨rfl, rfl, rfl⟩, hF', e5, e4⟩
    · subst hpe
      exact wpIn_ret ⟨.ret, _, _, j2, rfl, ⟨rfl, rfl, rfl⟩, hF', e5, e4⟩
    · subst hpe
      exact wpIn_exit ⟨.exit _, _, _, j2, rfl, ⟨rfl, rfl, rfl⟩, hF', e5, e4⟩
    · exact hpe.elim
  split at h <;> first | (cases h; done) | skip
  · rename_i hb hl
    exact fin _ _ .normal (fun e => hb e) ⟨_, _, _, _, hl⟩ rfl h
  · rename_i hb hl
    exact fin _ _ .ret (fun e => hb e) ⟨_, _, _, _, hl⟩ rfl h
  · rename_i hb hl
    exact fin _ _ (.exit _) (fun e => hb e) ⟨_, _, _, _, hl⟩ rfl h

/-- What the abstract run says is so. -/
theorem acode_ok {P : Program} {Γ : Gam} (hm : P.follows .mixedOrders = true) (hΓ : GOk P Γ) (r : Option Nat) (n : Nat) (q : Bool) (hqr : q = true → r = none) : ∀ (c : Code) (F F' : List AV) (H H' : AHeap) (x : AX), acode P Γ n q c F H = some (x, F', H') →
    Sim P r H.length c F H fun x1 F1 H1 => x1 = x ∧ F1 = F' ∧ H1 = H'
  | .skip, F, F', H, H', x, h => fun B j w a m hB hR hF hd => by
    simp only [acode] at h
    cases h
    exact wpIn_skip ⟨.normal, F, H, j, rfl, ⟨rfl, rfl, rfl⟩, hF, hd, Step.refl hR (Nat.le_refl _)⟩
  | .label l, F, F', H, H', x, h => fun B j w a m hB hR hF hd => by
    simp only [acode] at h
    cases h
    exact wpIn_label ⟨.normal, F, H, j, rfl, ⟨rfl, rfl, rfl⟩, hF, hd, Step.refl hR (Nat.le_refl _)⟩
  | .region id ops false, F, F', H, H', x, h => fun B j w a m hB hR hF hd => by
    simp only [acode] at h
    obtain ⟨⟨F1, H1⟩, h1, e⟩ := Option.map_eq_some_iff.1 h
    cases e
    refine wpIn_region_list (aops_ok hΓ r m ops.toList F F' H H' j w a h1 hR hF _ rfl fun j' w' a' g1 g2 g3 => ?_)
    exact ⟨.normal, F', H', j', rfl, ⟨rfl, rfl, rfl⟩, g1, by rw [g2]; exact hd.step hR g3, g3⟩
  | .region id ops true, F, F', H, H', x, h => fun B j w a m hB hR hF hd => by
    simp only [acode] at h
    obtain ⟨⟨F1, H1⟩, h1, e⟩ := Option.map_eq_some_iff.1 h
    cases e
    refine wpIn_region_any hm (draw_wp (w0 := { w with drawn := w.drawn + 1 }) hΓ h1 (hR.heapEq rfl) hF rfl r m fun j' a' w' g1 g2 g3 => ?_)
    exact ⟨.normal, F', H', j', rfl, ⟨rfl, rfl, rfl⟩, g1, by rw [g2]; exact hd.step hR (step_drew g3), step_drew g3⟩
  | .seq c d, F, F', H, H', x, h => by
    simp only [acode] at h
    refine Sim.seq ?_
    cases hc : acode P Γ n q c F H with
    | none => rw [hc] at h; cases h
    | some r1 =>
      obtain ⟨x1, F1, H1⟩ := r1
      rw [hc] at h
      refine (acode_ok hm hΓ r n q hqr c F F1 H H1 x1 hc).mono ?_
      rintro x2 F2 H2 hl ⟨rfl, rfl, rfl⟩
      cases x2 with
      | normal => exact (acode_ok hm hΓ r n q hqr d _ _ _ _ _ h).len hl
      | exit id => cases h; exact ⟨rfl, rfl, rfl⟩
      | ret => cases h; exact ⟨rfl, rfl, rfl⟩
  | .cond c t e, F, F', H, H', x, h => by
    simp only [acode] at h
    split at h
    · rename_i b hb
      refine Sim.cond hb ?_
      cases b with
      | true => exact acode_ok hm hΓ r n q hqr t _ _ _ _ _ h
      | false => exact acode_ok hm hΓ r n q hqr e _ _ _ _ _ h
    · cases h
  | .block id c, F, F', H, H', x, h => by
    simp only [acode] at h
    refine Sim.block ?_
    cases hc : acode P Γ n q c F H with
    | none => rw [hc] at h; cases h
    | some r1 =>
      obtain ⟨x1, F1, H1⟩ := r1
      rw [hc] at h
      refine (acode_ok hm hΓ r n q hqr c F F1 H H1 x1 hc).mono ?_
      rintro x2 F2 H2 _ ⟨rfl, rfl, rfl⟩
      cases x2 with
      | normal => cases h; exact ⟨rfl, rfl, rfl⟩
      | exit id' =>
        dsimp only at h ⊢
        split at h
        · rename_i e; rw [if_pos e]; cases h; exact ⟨rfl, rfl, rfl⟩
        · rename_i e; rw [if_neg e]; cases h; exact ⟨rfl, rfl, rfl⟩
      | ret => cases h; exact ⟨rfl, rfl, rfl⟩
  | .loop c, F, F', H, H', x, h => by
    simp only [acode] at h
    exact Sim.aloop _ (fun F1 H1 x1 F2 H2 h1 => acode_ok hm hΓ r n q hqr c F1 F2 H1 H2 x1 h1) n F H x F' H' h
  | .exit id, F, F', H, H', x, h => fun B j w a m hB hR hF hd => by
    simp only [acode] at h
    cases h
    exact wpIn_exit ⟨.exit id, F, H, j, rfl, ⟨rfl, rfl, rfl⟩, hF, hd, Step.refl hR (Nat.le_refl _)⟩
  | .ret, F, F', H, H', x, h => fun B j w a m hB hR hF hd => by
    simp only [acode] at h
    cases h
    exact wpIn_ret ⟨.ret, F, H, j, rfl, ⟨rfl, rfl, rfl⟩, hF, hd, Step.refl hR (Nat.le_refl _)⟩
  | .rangeFunc g ps asg body, F, F', H, H', x, h => rangeFunc_ok hm hΓ r n q hqr h
  | .scope c, F, F', H, H', x, h => by
    simp only [acode] at h
    exact Sim.scope (acode_ok hm hΓ r n q hqr c F F' H H' x h)
  | .goto _, _, _, _, _, _, h => by simp [acode] at h
  | .refuse _, _, _, _, _, _, h => by simp [acode] at h

theorem Sim.exec {P : Program} {Γ : Gam} (hm : P.follows .mixedOrders = true) (hΓ : GOk P Γ) {r : Option Nat} {n0 n : Nat} {c : Code} {F F' : List AV} {H H' : AHeap} {x : AX} {Q : AX → List AV → AHeap → Prop} (h : acode P Γ n r.isNone c F H = some (x, F', H')) (hn : n0 ≤ H.length) (hq : Q x F' H') : Sim P r n0 c F H Q :=
  ((acode_ok hm hΓ r n r.isNone (by cases r <;> simp) c F F' H H' x h).len hn).mono fun x1 F1 H1 _ ⟨e1, e2, e3⟩ => by rw [e1, e2, e3]; exact hq

end Go.Proofs.Ytbbgmaklmlagcaa
