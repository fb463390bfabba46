/- Abstract operations without memory, and that the operations do so. -/
import Derived.Test.YtbbgmaklmlagcaaAv
import Derived.Laws.StructEq
namespace Go.Proofs.Ytbbgmaklmlagcaa

def ofV1 : Value → AV
  | .bool b => .bool b
  | .int k n => .int k n
  | .string s => .str s.data.toList
  | .pointer none => .nilp
  | .slice none 0 0 => .nils
  | .map none => .nilm
  | .nilFunc => .nilf
  | _ => .top

def ofV : Value → AV
  | .agg cs => .agg (cs.toList.map ofV1)
  | .tuple cs => .tuple (cs.toList.map ofV1)
  | v => ofV1 v

theorem VR_ofV1 (j : Inj) (v : Value) : VR j (ofV1 v) v := by
  unfold ofV1
  split <;> simp [VR]

theorem VR_ofV (j : Inj) (v : Value) : VR j (ofV v) v := by
  unfold ofV
  split
  · rename_i cs
    refine ⟨cs, rfl, ?_⟩
    have := VRs.map (j := j) cs.toList ofV1 id (fun a _ => VR_ofV1 j a)
    simpa using this
  · rename_i cs
    refine ⟨cs, rfl, ?_⟩
    have := VRs.map (j := j) cs.toList ofV1 id (fun a _ => VR_ofV1 j a)
    simpa using this
  · exact VR_ofV1 j v

def undefA : AV := .tuple []

def ev (F : List AV) : Operand → AV
  | .tmp t => F.getD t undefA
  | .const v => ofV v
  | .global _ => .top
  | .func f => .func f [] []

theorem ev_ok {j : Inj} {F : List AV} {a : Act} (h : VRs j F a.tmps.toList) (x : Operand) : VR j (ev F x) (a.eval x) := by
  cases x with
  | tmp t =>
    simp only [ev, Act.eval]
    rw [List.getD_eq_getElem?_getD]
    have h1 := VRs_iff.1 h
    cases hx : F[t]? with
    | some x =>
      obtain ⟨v, hv, hr⟩ := h.at hx
      have hv' : a.tmps[t]? = some v := by simpa using hv
      simp only [Option.getD_some]
      rw [Array.getD_eq_getD_getElem?, hv']
      exact hr
    | none =>
      have ht : F.length ≤ t := by simpa using hx
      have : a.tmps[t]? = none := by rw [Array.getElem?_eq_none]; have := h1.1; simp at this; omega
      rw [Array.getD_eq_getD_getElem?, this]
      exact ⟨#[], rfl, rfl⟩
  | const v => exact VR_ofV j v
  | global g => trivial
  | func f => exact ⟨#[], #[], rfl, rfl, rfl⟩

def cmpA (op : BinOp) (a b : Int) : Option Bool :=
  match op with
  | .eql => some (a == b)
  | .neq => some (a != b)
  | .lss => some (a < b)
  | .leq => some (a ≤ b)
  | .gtr => some (a > b)
  | .geq => some (a ≥ b)
  | _ => none

def strA (op : BinOp) (x y : List UInt8) : Option AV :=
  match op with
  | .add => if x.length + y.length ≤ 9223372036854775807 then some (.str (x ++ y)) else none
  | .eql => some (.bool (x == y))
  | .neq => some (.bool !(x == y))
  | .lss => some (.bool (Op.bytesLess x y))
  | .leq => some (.bool (Op.bytesLess x y || x == y))
  | .gtr => some (.bool !(Op.bytesLess x y || x == y))
  | .geq => some (.bool !(Op.bytesLess x y))
  | _ => none

def bitsA (op : BinOp) (k : IntKind) (x y : Int) : Int :=
  match op with
  | .and => k.wrap (BitVec.ofInt k.bits x &&& BitVec.ofInt k.bits y).toNat
  | .or => k.wrap (BitVec.ofInt k.bits x ||| BitVec.ofInt k.bits y).toNat
  | .xor => k.wrap (BitVec.ofInt k.bits x ^^^ BitVec.ofInt k.bits y).toNat
  | _ => k.wrap (BitVec.ofInt k.bits x &&& ~~~BitVec.ofInt k.bits y).toNat

def intA (op : BinOp) (k : IntKind) (a b : Int) : Option AV :=
  match op with
  | .add => some (.int k (k.wrap (a + b)))
  | .sub => some (.int k (k.wrap (a - b)))
  | .mul => some (.int k (k.wrap (a * b)))
  | .quo => if b = 0 then none else some (.int k (k.wrap (a.tdiv b)))
  | .rem => if b = 0 then none else some (.int k (a.tmod b))
  | .and | .or | .xor | .andNot => some (.int k (bitsA op k a b))
  | .shl | .shr => none
  | op => (cmpA op a b).map .bool

/-- Is it nil? -/
def nilA : AV → Option Bool
  | .nilp | .nils | .nilm | .nilf => some true
  | .ptr .. | .slice .. | .map .. | .func .. | .yld .. => some false
  | _ => none

/-- Equal: numbers, texts, truths, and what is compared with nil. -/
def eqA : TypeDesc → AV → AV → Option Bool
  | .bool, .bool a, .bool b => some (a == b)
  | .pointer _, .nilp, .ptr .. => some false
  | .pointer _, .ptr .., .nilp => some false
  | .pointer _, .nilp, .nilp => some true
  | .slice _, .nils, .nils => some true
  | .slice _, .nils, .slice .. => some false
  | .slice _, .slice .., .nils => some false
  | .slice _, .nils, .sl _ _ n _ _ => if 0 < n then some false else none
  | .slice _, .sl _ _ n _ _, .nils => if 0 < n then some false else none
  | .map _ _, .nilm, .nilm => some true
  | .map _ _, .nilm, .map .. => some false
  | .map _ _, .map .., .nilm => some false
  | .func _ _ _, .nilf, .nilf => some true
  | .func _ _ _, .nilf, .func .. => some false
  | .func _ _ _, .func .., .nilf => some false
  | _, _, _ => none

def abin0 (P : Program) (t : TypeId) (op : BinOp) : AV → AV → Option AV
  | .int k a, .int k' b =>
    match op with
    | .shl => if b < 0 then none else some (.int k (k.wrap (a * 2 ^ (min b.toNat k.bits))))
    | .shr => if b < 0 then none else some (.int k (a.fdiv (2 ^ (min b.toNat k.bits))))
    | op => if k = k' then intA op k a b else none
  | .str a, .str b => strA op a b
  | x, y =>
    match P.underlying t with
    | none => none
    | some d =>
      match op with
      | .eql => (eqA d x y).map .bool
      | .neq => (eqA d x y).map fun b => .bool (!b)
      | _ => none

theorem rb {P : Program} {α β : Type} {x : Sem α} {f : α → Sem β} {a : α} {w w' : World} (h : Sem.run P x w = .ok a w') : Sem.run P (x >>= f) w = Sem.run P (f a) w' := by
  rw [Sem.run_bind, h]; rfl

theorem run_und {P : Program} {t : TypeId} {d : TypeDesc} (h : P.underlying t = some d) (w : World) : Sem.run P (underlying t) w = .ok d w := by
  simp [underlying, program, Sem.run_bind, Sem.run, h, Result.andThen]

theorem run_info {P : Program} {t : TypeId} {d : TypeInfo} (h : P.info? t = some d) (w : World) : Sem.run P (typeInfo t) w = .ok d w := by
  simp [typeInfo, program, Sem.run_bind, Sem.run, h, Result.andThen]

theorem toList_mk (a : List UInt8) : (ByteArray.mk a.toArray).toList = a := by rw [ByteArray.toList_eq]

theorem eqA_ok {P : Program} {j : Inj} {t : TypeId} {d : TypeDesc} {x y : AV} {cx cy : Value} {r : Bool} (h : eqA d x y = some r) (ht : P.underlying t = some d)
    (hx : VR j x cx) (hy : VR j y cy) (w : World) : (Op.equal t cx cy).run P w = .ok r w := by
  have hm : Op.maxDepth = 9999 + 1 := rfl
  unfold Op.equal
  rw [hm]
  unfold Op.equalIn
  rw [rb (run_und ht w)]
  clear ht
  unfold eqA at h
  have key : ∀ (b o n sz : Nat) (c : Bool) (v : Value), VR j (.sl b o n sz c) v → (if 0 < n then some false else none) = some r → r = false ∧ ∃ a m k, v = .slice (some a) m k := by
    intro b o n sz c v hv hr
    split at hr <;> cases hr
    have := VR_sl_pos ‹_› hv
    simp only [VR] at this
    obtain ⟨_, a, k, _, rfl, _⟩ := this
    exact ⟨rfl, _, _, _, rfl⟩
  split at h <;> (try (first | (obtain ⟨rfl, _, _, _, rfl⟩ := key _ _ _ _ _ _ hx h; simp only [VR] at hy; subst hy; rfl) | (obtain ⟨rfl, _, _, _, rfl⟩ := key _ _ _ _ _ _ hy h; simp only [VR] at hx; subst hx; rfl))) <;> (try cases h) <;> simp only [VR] at hx hy <;> (try obtain ⟨_, _, _, _, rfl, _⟩ := hx) <;> (try obtain ⟨_, _, rfl, _⟩ := hx) <;> (try obtain ⟨_, _, rfl⟩ := hx) <;> (try obtain ⟨_, _, _, _, rfl, _⟩ := hy) <;> (try obtain ⟨_, _, rfl, _⟩ := hy) <;> (try obtain ⟨_, _, rfl⟩ := hy) <;> (try subst hx) <;> (try subst hy) <;> rfl

theorem binOp_eql {t : TypeId} {x y : Value} (h1 : ∀ k n, x ≠ .int k n) (h2 : ∀ s, x ≠ .string s) (h3 : ∀ k n, x ≠ .float k n) (h4 : ∀ k n m, x ≠ .complex k n m) :
    binOp .eql t x y = (do pure (.bool (← Op.equal t x y))) := by
  cases x <;> first | rfl | (cases y <;> first | rfl | simp_all)

theorem binOp_neq {t : TypeId} {x y : Value} (h1 : ∀ k n, x ≠ .int k n) (h2 : ∀ s, x ≠ .string s) (h3 : ∀ k n, x ≠ .float k n) (h4 : ∀ k n m, x ≠ .complex k n m) :
    binOp .neq t x y = (do pure (.bool (!(← Op.equal t x y)))) := by
  cases x <;> first | rfl | (cases y <;> first | rfl | simp_all)

theorem bytesLess_max (x y : List UInt8) : (ByteArray.mk (x ++ y).toArray) = ByteArray.mk x.toArray ++ ByteArray.mk y.toArray := by
  apply ByteArray.ext
  simp

theorem eqGuard_plain {op : BinOp} {t : TypeId} {x y : Operand} {a b : Value} (h1 : a ≠ .nilIface) (h2 : ∀ c, a ≠ .agg c) (P : Program) (w : World) : (eqGuard op t x y a b).run P w = .ok () w := by
  unfold eqGuard
  cases op <;> try rfl
  all_goals
    cases a <;> first | rfl | exact absurd rfl h1 | exact absurd rfl (h2 _)

theorem abin0_ok {P : Program} {j : Inj} {t : TypeId} {op : BinOp} {x y : AV} {cx cy : Value} {r : AV} (h : abin0 P t op x y = some r)
    (hx : VR j x cx) (hy : VR j y cy) (w : World) (ox oy : Operand) : ∃ cv, ((do eqGuard op t ox oy cx cy; binOp op t cx cy) : Sem Value).run P w = .ok cv w ∧ VR j r cv := by
  unfold abin0 at h
  split at h
  · rename_i k a k' b
    simp only [VR] at hx hy
    subst hx; subst hy
    rw [rb (eqGuard_plain (by simp) (by simp) P w)]
    split at h
    · split at h <;> cases h
      exact ⟨_, by simp [binOp, Op.shift, *], rfl⟩
    · split at h <;> cases h
      exact ⟨_, by simp [binOp, Op.shift, *], rfl⟩
    · split at h
      · rename_i hk
        subst hk
        unfold intA at h
        cases op <;> simp_all [cmpA] <;> (try (obtain ⟨h0, h⟩ := h)) <;> (try subst h) <;> simp [binOp, Op.intArith, Op.intDiv, Op.intBits, Op.intCmp, *] <;> simp [VR, bitsA]
      · cases h
  · rename_i a b
    simp only [VR] at hx hy
    subst hx; subst hy
    rw [rb (eqGuard_plain (by simp) (by simp) P w)]
    have e : binOp op t (.string ⟨a.toArray⟩) (.string ⟨b.toArray⟩) = Op.stringOp op ⟨a.toArray⟩ ⟨b.toArray⟩ := by cases op <;> rfl
    rw [e]
    unfold Op.stringOp
    rw [toList_mk, toList_mk]
    unfold strA at h
    cases op <;> simp at h <;> (try subst h) <;> (try exact ⟨_, rfl, by simp [VR]⟩)
    obtain ⟨hl, rfl⟩ := h
    refine ⟨.string ⟨(a ++ b).toArray⟩, ?_, rfl⟩
    dsimp only
    have hmax : (IntKind.i64.max : Int) = 9223372036854775807 := rfl
    rw [hmax, if_neg (by simp [ByteArray.size]; omega), bytesLess_max]
    rfl
  · rename_i hni hns
    split at h
    · cases h
    · rename_i d hd
      have hcx : (∀ k n, cx ≠ .int k n) ∧ (∀ s, cx ≠ .string s) ∧ (∀ k n, cx ≠ .float k n) ∧ (∀ k n m, cx ≠ .complex k n m) ∧ cx ≠ .nilIface ∧ (∀ c, cx ≠ .agg c) := by
        have hxx : ∀ r, eqA d x y = some r → (∀ k n, cx ≠ .int k n) ∧ (∀ s, cx ≠ .string s) ∧ (∀ k n, cx ≠ .float k n) ∧ (∀ k n m, cx ≠ .complex k n m) ∧ cx ≠ .nilIface ∧ (∀ c, cx ≠ .agg c) := by
          intro r hr
          unfold eqA at hr
          split at hr <;> (try cases hr) <;> simp only [VR] at hx <;> (try (rcases hx with ⟨_, rfl⟩ | ⟨_, _, _, _, rfl, _⟩ <;> simp; done)) <;> (try obtain ⟨_, _, _, _, rfl, _⟩ := hx) <;> (try obtain ⟨_, _, rfl, _⟩ := hx) <;> (try obtain ⟨_, _, rfl⟩ := hx) <;> (try subst hx) <;> simp
        cases hr : eqA d x y with
        | none => rw [hr] at h; split at h <;> simp at h
        | some r => exact hxx r hr
      obtain ⟨c1, c2, c3, c4, c5, c6⟩ := hcx
      rw [rb (eqGuard_plain c5 c6 P w)]
      split at h
      · obtain ⟨r', hr, rfl⟩ := Option.map_eq_some_iff.1 h
        rw [binOp_eql c1 c2 c3 c4]
        exact ⟨.bool r', by rw [rb (eqA_ok hr hd hx hy w)]; rfl, rfl⟩
      · obtain ⟨r', hr, rfl⟩ := Option.map_eq_some_iff.1 h
        rw [binOp_neq c1 c2 c3 c4]
        exact ⟨.bool !r', by rw [rb (eqA_ok hr hd hx hy w)]; rfl, rfl⟩
      · cases h

def unA (op : UnOp) : AV → Option AV
  | .bool b => match op with | .not => some (.bool (!b)) | _ => none
  | .int k n => match op with
    | .neg => some (.int k (k.wrap (0 - n)))
    | .xor => some (.int k (bitsA .xor k (if k.signed then -1 else k.max) n))
    | _ => none
  | _ => none

theorem unA_ok {P : Program} {j : Inj} {op : UnOp} {x r : AV} {cx : Value} (h : unA op x = some r) (hx : VR j x cx) (w : World) : ∃ cv, (Op.unary op cx).run P w = .ok cv w ∧ VR j r cv := by
  unfold unA at h
  split at h
  · simp only [VR] at hx
    subst hx
    split at h <;> cases h
    exact ⟨_, rfl, rfl⟩
  · simp only [VR] at hx
    subst hx
    split at h <;> cases h
    · exact ⟨_, rfl, rfl⟩
    · exact ⟨_, rfl, rfl⟩
  · cases h

/-- A choice between two. -/
def pickA (t : Bool) : AV → AV → AV
  | .bool x, .bool y => .bool (cond t x y)
  | x, y => cond t x y

theorem pickA_ok {j : Inj} {t : Bool} {x y : AV} {cx cy : Value} (hx : t = true → VR j x cx) (hy : t = false → VR j y cy) : VR j (pickA t x y) (if t then cx else cy) := by
  unfold pickA
  split <;> cases t <;> simp_all [VR]

def isAggA : TypeDesc → Bool
  | .struct _ | .array _ _ => true
  | _ => false

theorem run_isAgg {P : Program} {t : TypeId} {d : TypeDesc} (h : P.underlying t = some d) (w : World) : Sem.run P (isAgg t) w = .ok (isAggA d) w := by
  unfold isAgg
  rw [rb (run_und h w)]
  cases d <;> rfl

theorem run_sizeOf {P : Program} {t : TypeId} {i : TypeInfo} (h : P.info? t = some i) (w : World) : Sem.run P (sizeOf t) w = .ok i.size w := by
  unfold sizeOf
  rw [rb (run_info h w)]
  rfl

def sizeA (P : Program) (t : TypeId) : Option Nat := (P.info? t).map (·.size)

theorem sizeA_ok {P : Program} {t : TypeId} {n : Nat} (h : sizeA P t = some n) (w : World) : Sem.run P (sizeOf t) w = .ok n w := by
  obtain ⟨i, hi, rfl⟩ := Option.map_eq_some_iff.1 h
  exact run_sizeOf hi w

def bytesSz (P : Program) (t : TypeId) : Option Nat := (P.info? t).map (·.bytes)

/-- A part of an aggregate. -/
def partA (P : Program) (t : TypeId) (l : List AV) (off : Nat) : Option AV :=
  match P.underlying t, sizeA P t with
  | some d, some sz => if isAggA d then (if off + sz ≤ l.length then some (.agg ((l.drop off).take sz)) else none) else l[off]?
  | _, _ => none

theorem partA_ok {P : Program} {j : Inj} {t : TypeId} {l : List AV} {cs : Array Value} {off : Nat} {r : AV} (h : partA P t l off = some r) (hl : VRs j l cs.toList) (w : World) :
    ∃ cv, (part t cs off).run P w = .ok cv w ∧ VR j r cv := by
  unfold partA at h
  split at h
  · rename_i d sz hd hi
    unfold part
    rw [rb (run_isAgg hd w)]
    split at h
    · rename_i ha
      rw [if_pos ha]
      rw [rb (sizeA_ok hi w)]
      split at h <;> cases h
      rename_i hle
      refine ⟨_, rfl, _, rfl, ?_⟩
      have e : (cs.extract off (off + sz)).toList = (cs.toList.drop off).take sz := by
        rw [Array.toList_extract]
        simp [List.extract_eq_take_drop]
      rw [e]
      exact (hl.drop off).take sz
    · rename_i ha
      rw [if_neg ha]
      obtain ⟨v, hv, hr⟩ := hl.at h
      have hv' : cs[off]? = some v := by simpa using hv
      rw [hv']
      exact ⟨v, rfl, hr⟩
  · cases h

def boundA (x : AV) (y : Nat) : Option Nat :=
  match x with
  | .int _ i => if 0 ≤ i ∧ i ≤ y then some i.toNat else none
  | _ => none

theorem boundA_ok {P : Program} {j : Inj} {x : AV} {cx : Value} {y r : Nat} (h : boundA x y = some r) (hx : VR j x cx) (c : BoundsCode) (w : World) : (Instr.sliceBound cx y c).run P w = .ok r w ∧ r ≤ y := by
  unfold boundA at h
  split at h
  · simp only [VR] at hx
    subst hx
    split at h <;> cases h
    rename_i k i hi
    refine ⟨?_, by omega⟩
    show Sem.run P (if 0 ≤ i ∧ i ≤ y then pure i.toNat else _) w = _
    rw [if_pos hi]
    rfl
  · cases h

/-- Low and high of a slice expression without a third index; cap: none where it is not known, and not asked. -/
def lowHigh (F : List AV) (lo hi : Option Operand) (len : Nat) (cap : Nat) : Option (Nat × Nat) :=
  match hi with
  | none => match lo with
    | none => some (0, len)
    | some l => (boundA (ev F l) len).map fun l => (l, len)
  | some h => match boundA (ev F h) cap with
    | none => none
    | some h => match lo with
      | none => some (0, h)
      | some l => (boundA (ev F l) h).map fun l => (l, h)

theorem lowHigh_ok {P : Program} {j : Inj} {F : List AV} {a : Act} (hF : VRs j F a.tmps.toList) {lo hi : Option Operand} {isS : Bool} {len cap cap' l h : Nat} (hr : lowHigh F lo hi len cap = some (l, h))
    (hlc : len ≤ cap) (hcc : cap ≤ cap') (w : World) :
    (Instr.sliceBounds isS len cap' (lo.map a.eval) (hi.map a.eval) none).run P w = .ok (l, h, cap') w ∧ l ≤ h ∧ h ≤ cap := by
  unfold lowHigh at hr
  unfold Instr.sliceBounds
  cases hi with
  | none =>
    cases lo with
    | none =>
      cases hr
      exact ⟨rfl, by omega, hlc⟩
    | some lo =>
      obtain ⟨l', hl, e⟩ := Option.map_eq_some_iff.1 hr
      cases e
      obtain ⟨h1, h2⟩ := boundA_ok (P := P) hl (ev_ok hF lo) .sliceB w
      refine ⟨?_, h2, hlc⟩
      simp only [Option.map_some, Option.map_none, Option.isSome_none, Bool.false_eq_true, if_false]
      show Sem.run P (Instr.sliceBound (a.eval lo) len .sliceB >>= _) w = _
      rw [rb h1]
      rfl
  | some hi =>
    dsimp only at hr
    cases hb : boundA (ev F hi) cap with
    | none => rw [hb] at hr; cases hr
    | some h' =>
      rw [hb] at hr
      have hb' : boundA (ev F hi) cap' = some h' := by
        unfold boundA at hb ⊢
        split at hb
        · split at hb <;> cases hb
          rw [if_pos (by omega)]
        · cases hb
      obtain ⟨h1, h2⟩ := boundA_ok (P := P) hb' (ev_ok hF hi) (if isS then .sliceAcap else .sliceAlen) w
      have h2' := (boundA_ok (P := P) hb (ev_ok hF hi) (if isS then .sliceAcap else .sliceAlen) w).2
      cases lo with
      | none =>
        cases hr
        refine ⟨?_, by omega, h2'⟩
        simp only [Option.map_some, Option.map_none]
        show Sem.run P (Instr.sliceBound (a.eval hi) cap' _ >>= _) w = _
        rw [rb h1]
        rfl
      | some lo =>
        obtain ⟨l', hl, e⟩ := Option.map_eq_some_iff.1 hr
        cases e
        obtain ⟨h3, h4⟩ := boundA_ok (P := P) hl (ev_ok hF lo) .sliceB w
        refine ⟨?_, h4, h2'⟩
        simp only [Option.map_some, Option.isSome_none, Bool.false_eq_true, if_false]
        show Sem.run P (Instr.sliceBound (a.eval hi) cap' _ >>= _) w = _
        rw [rb h1]
        show Sem.run P (Instr.sliceBound (a.eval lo) _ .sliceB >>= _) w = _
        rw [rb h3]
        rfl

/-! Structs of plain fields are compared cell by cell -/

def primTy : Option TypeDesc → Bool
  | some (.int _) | some .string | some .bool => true
  | _ => false

def flatFields (P : Program) : List Field → Nat → Bool
  | [], _ => true
  | f :: fs, i => f.name != "_" && f.offset == i && primTy (P.underlying f.type) && (sizeA P f.type).isSome && flatFields P fs (i + 1)

/-- Of how many cells a struct of plain fields is. -/
def flatEq (P : Program) (t : TypeId) : Option Nat :=
  match P.underlying t with
  | some (.struct fs) => if !P.stoodInHeld t && !P.eqGuardType P.depth t && flatFields P fs.toList 0 then some fs.size else none
  | _ => none

def primEq : AV → AV → Option Bool
  | .int k a, .int k' b => if k = k' then some (a == b) else none
  | .str a, .str b => some (a == b)
  | .bool a, .bool b => some (a == b)
  | _, _ => none

def cellsEq : List AV → List AV → Option Bool
  | [], [] => some true
  | x :: xs, y :: ys =>
    match primEq x y, cellsEq xs ys with
    | some b, some c => some (b && c)
    | _, _ => none
  | _, _ => none

theorem primEq_ok {P : Program} {j : Inj} {t : TypeId} {x y : AV} {cx cy : Value} {r : Bool} (h : primEq x y = some r) (ht : primTy (P.underlying t) = true) (htt : ∀ k a, x = .int k a → ∃ k', P.underlying t = some (.int k')) (hts : ∀ a, x = .str a → P.underlying t = some .string) (htb : ∀ a, x = .bool a → P.underlying t = some .bool)
    (hx : VR j x cx) (hy : VR j y cy) (d : Nat) (w : World) : (Op.equalIn (d + 1) t cx cy).run P w = .ok r w := by
  unfold primEq at h
  split at h
  · rename_i k a k' b
    split at h <;> cases h
    rename_i hk
    subst hk
    simp only [VR] at hx hy
    subst hx; subst hy
    obtain ⟨k', hu⟩ := htt _ _ rfl
    exact run_equalIn_int w d t k k' a b hu
  · rename_i a b
    cases h
    simp only [VR] at hx hy
    subst hx; subst hy
    have := run_equalIn_string w d t ⟨a.toArray⟩ ⟨b.toArray⟩ (hts _ rfl)
    rw [toList_mk, toList_mk] at this
    exact this
  · rename_i a b
    cases h
    simp only [VR] at hx hy
    subst hx; subst hy
    exact run_equalIn_bool' w d t a b (htb _ rfl)
  · cases h

/-- A cell is of the kind that its field says. -/
def kindOk (P : Program) (t : TypeId) : AV → Bool
  | .int _ _ => match P.underlying t with | some (.int _) => true | _ => false
  | .str _ => match P.underlying t with | some .string => true | _ => false
  | .bool _ => match P.underlying t with | some .bool => true | _ => false
  | _ => false

def kindsOk (P : Program) : List Field → List AV → Bool
  | [], [] => true
  | f :: fs, x :: xs => kindOk P f.type x && kindsOk P fs xs
  | _, _ => false

theorem run_eqFields {P : Program} {j : Inj} {lx ly : List AV} {xs ys : Array Value} (hx : VRs j lx xs.toList) (hy : VRs j ly ys.toList) (d : Nat) (w : World) : ∀ (fs : List Field) (i : Nat) (r : Bool), flatFields P fs i = true → kindsOk P fs (lx.drop i) = true → cellsEq (lx.drop i) (ly.drop i) = some r → (Op.eqFields (d + 1) xs ys fs).run P w = .ok r w
  | [], i, r, _, hk, h => by
    cases hl : lx.drop i with
    | cons _ _ => rw [hl] at hk; simp [kindsOk] at hk
    | nil =>
      rw [hl] at h
      cases hl2 : ly.drop i with
      | cons _ _ => rw [hl2] at h; simp [cellsEq] at h
      | nil => rw [hl2] at h; simp [cellsEq] at h; subst h; rfl
  | f :: fs, i, r, hf, hk, h => by
    simp only [flatFields, Bool.and_eq_true, beq_iff_eq, bne_iff_ne, ne_eq] at hf
    obtain ⟨⟨⟨⟨f1, f2⟩, f3⟩, f4⟩, f5⟩ := hf
    cases hl : lx.drop i with
    | nil => rw [hl] at hk; simp [kindsOk] at hk
    | cons x lx' =>
      rw [hl] at hk h
      cases hl2 : ly.drop i with
      | nil => rw [hl2] at h; simp [cellsEq] at h
      | cons y ly' =>
        rw [hl2] at h
        simp only [kindsOk, Bool.and_eq_true] at hk
        have dx : lx.drop (i + 1) = lx' := by rw [← List.drop_drop, hl]; rfl
        have dy : ly.drop (i + 1) = ly' := by rw [← List.drop_drop, hl2]; rfl
        have gx : lx[i]? = some x := by have := congrArg (·[0]?) hl; simpa using this
        have gy : ly[i]? = some y := by have := congrArg (·[0]?) hl2; simpa using this
        obtain ⟨sz, hsz⟩ := Option.isSome_iff_exists.1 f4
        have px : partA P f.type lx i = some x := by
          unfold partA
          rw [hsz]
          unfold primTy at f3
          split at f3 <;> first | (rename_i hu; rw [hu]; exact gx) | cases f3
        have py : partA P f.type ly i = some y := by
          unfold partA
          rw [hsz]
          unfold primTy at f3
          split at f3 <;> first | (rename_i hu; rw [hu]; exact gy) | cases f3
        obtain ⟨cx, e1, e2⟩ := partA_ok px hx w
        obtain ⟨cy, g1, g2⟩ := partA_ok py hy w
        simp only [cellsEq] at h
        split at h
        rotate_left
        · cases h
        rename_i b c hb hc
        cases h
        have key := primEq_ok (P := P) (t := f.type) hb f3 (fun k a e => by
            subst e
            have := hk.1
            unfold kindOk at this
            dsimp only at this
            split at this
            · exact ⟨_, ‹_›⟩
            · cases this) (fun a e => by
            subst e
            have := hk.1
            unfold kindOk at this
            dsimp only at this
            split at this
            · assumption
            · cases this) (fun a e => by
            subst e
            have := hk.1
            unfold kindOk at this
            dsimp only at this
            split at this
            · assumption
            · cases this) e2 g2 d w
        unfold Op.eqFields
        rw [if_pos f1, f2, rb e1, rb g1, rb key]
        cases b with
        | false => rfl
        | true =>
          simp only [Bool.not_true, Bool.false_eq_true, if_false, Bool.true_and]
          exact run_eqFields hx hy d w fs (i + 1) c f5 (by rw [dx]; exact hk.2) (by rw [dx, dy]; exact hc)

/-- A binary operation: structs of plain fields too. -/
def abin (P : Program) (t : TypeId) (op : BinOp) (x y : AV) : Option AV :=
  match x, y with
  | .agg xs, .agg ys =>
    match flatEq P t, P.underlying t with
    | some _, some (.struct fs) =>
      if kindsOk P fs.toList xs then
        match op with
        | .eql => (cellsEq xs ys).map .bool
        | .neq => (cellsEq xs ys).map fun b => .bool (!b)
        | _ => none
      else none
    | _, _ => none
  | x, y => abin0 P t op x y

theorem abin_ok {P : Program} {j : Inj} {t : TypeId} {op : BinOp} {x y : AV} {cx cy : Value} {r : AV} (h : abin P t op x y = some r)
    (hx : VR j x cx) (hy : VR j y cy) (w : World) (ox oy : Operand) : ∃ cv, ((do eqGuard op t ox oy cx cy; binOp op t cx cy) : Sem Value).run P w = .ok cv w ∧ VR j r cv := by
  unfold abin at h
  split at h
  rotate_left
  · exact abin0_ok h hx hy w ox oy
  rename_i xs ys
  split at h
  rotate_left
  · cases h
  rename_i n fs hfe ht
  split at h
  rotate_left
  · cases h
  rename_i hk
  simp only [VR] at hx hy
  obtain ⟨cs, rfl, hxs⟩ := hx
  obtain ⟨ds, rfl, hys⟩ := hy
  unfold flatEq at hfe
  rw [ht] at hfe
  dsimp only at hfe
  split at hfe <;> cases hfe
  rename_i hc
  simp only [Bool.and_eq_true, Bool.not_eq_true'] at hc
  obtain ⟨⟨c1, c2⟩, c3⟩ := hc
  have hfo : P.fieldsOf t = fs := by unfold Program.fieldsOf; rw [ht]
  have key : ∀ r, cellsEq xs ys = some r → (Op.equalIn 10000 t (.agg cs) (.agg ds)).run P w = .ok r w := by
    intro r hr
    rw [show (10000 : Nat) = 9998 + 1 + 1 from rfl, run_equalIn_struct w _ t cs ds (by rw [hfo]; exact ht) c1, hfo]
    exact run_eqFields hxs hys 9998 w fs.toList 0 r c3 hk hr
  rw [rb (run_eqGuard_agg w op t ox oy cs ds c2)]
  split at h
  · obtain ⟨r', hr, rfl⟩ := Option.map_eq_some_iff.1 h
    rw [run_eql_struct, key r' hr]
    exact ⟨_, rfl, rfl⟩
  · obtain ⟨r', hr, rfl⟩ := Option.map_eq_some_iff.1 h
    rw [run_neq_struct, key r' hr]
    exact ⟨_, rfl, rfl⟩
  · cases h

end Go.Proofs.Ytbbgmaklmlagcaa
