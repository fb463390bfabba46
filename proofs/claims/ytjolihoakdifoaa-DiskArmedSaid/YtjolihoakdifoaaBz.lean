/- The kernel's run within a walk: one step of it, its end told with less, all decided by reckoning. -/
import Derived.Test.YtjolihoakdifoaaGd
namespace Go.Proofs.Ytjolihoakdifoaa
open Go

mutual
/-- AW, decided. -/
def awB (rn : List Nat) : AV → AV → Bool
  | .top, _ => true
  | .bool b, .bool b' => b == b'
  | .int k n, .int k' n' => k == k' && n == n'
  | .str s, .str s' => s == s'
  | .ptr b o, .ptr b' o' => rn[b]? == some b' && o == o'
  | .nilp, .nilp => true
  | .slice b o l sz c, .slice b' o' l' sz' c' => rn[b]? == some b' && (o == o' && (l == l' && (sz == sz' && (!c || c'))))
  | .sl b o l sz c, .slice b' o' l' sz' c' => rn[b]? == some b' && (o == o' && (l == l' && (sz == sz' && (!c || c'))))
  | .sl b o l sz c, .sl b' o' l' sz' c' => rn[b]? == some b' && (o == o' && (l == l' && (sz == sz' && (!c || c'))))
  | .sl _ _ l _ _, .nils => l == 0
  | .nils, .nils => true
  | .map b, .map b' => rn[b]? == some b'
  | .nilm, .nilm => true
  | .func f xs ys, .func f' xs' ys' => f == f' && (awsB rn xs xs' && awsB rn ys ys')
  | .yld b, .yld b' => rn[b]? == some b'
  | .nilf, .nilf => true
  | .agg l, .agg l' => awsB rn l l'
  | .tuple l, .tuple l' => awsB rn l l'
  | _, _ => false
def awsB (rn : List Nat) : List AV → List AV → Bool
  | [], [] => true
  | x :: xs, y :: ys => awB rn x y && awsB rn xs ys
  | _, _ => false
end

mutual
theorem awB_ok {rn : List Nat} : ∀ (x y : AV), awB rn x y = true → AW rn x y
  | .top, _, _ => by simp [AW]
  | .bool b, y, h => by cases y <;> simp_all [awB, AW]
  | .int k n, y, h => by cases y <;> simp_all [awB, AW]
  | .str s, y, h => by cases y <;> simp_all [awB, AW]
  | .ptr b o, y, h => by cases y <;> simp_all [awB, AW]
  | .nilp, y, h => by cases y <;> simp_all [awB, AW]
  | .slice b o l sz c, y, h => by
    cases y <;> simp only [awB, Bool.false_eq_true, Bool.and_eq_true, beq_iff_eq, Bool.or_eq_true, Bool.not_eq_true'] at h
    simp only [AW]
    obtain ⟨h1, h2, h3, h4, h5⟩ := h
    exact ⟨h1, h2, h3, h4, fun hc => by rcases h5 with h5 | h5 <;> simp_all⟩
  | .sl b o l sz c, y, h => by
    cases y <;> simp only [awB, Bool.false_eq_true, Bool.and_eq_true, beq_iff_eq, Bool.or_eq_true, Bool.not_eq_true'] at h
    · simp only [AW]
      obtain ⟨h1, h2, h3, h4, h5⟩ := h
      exact ⟨h1, h2, h3, h4, fun hc => by rcases h5 with h5 | h5 <;> simp_all⟩
    · simp only [AW]
      obtain ⟨h1, h2, h3, h4, h5⟩ := h
      exact ⟨h1, h2, h3, h4, fun hc => by rcases h5 with h5 | h5 <;> simp_all⟩
    · simpa only [AW] using h
  | .nils, y, h => by cases y <;> simp_all [awB, AW]
  | .map b, y, h => by cases y <;> simp_all [awB, AW]
  | .nilm, y, h => by cases y <;> simp_all [awB, AW]
  | .func f xs ys, y, h => by
    cases y <;> simp only [awB, Bool.false_eq_true, Bool.and_eq_true, beq_iff_eq] at h
    simp only [AW]
    exact ⟨h.1, awsB_ok _ _ h.2.1, awsB_ok _ _ h.2.2⟩
  | .yld b, y, h => by cases y <;> simp_all [awB, AW]
  | .nilf, y, h => by cases y <;> simp_all [awB, AW]
  | .agg l, y, h => by
    cases y <;> simp only [awB, Bool.false_eq_true] at h
    simp only [AW]
    exact awsB_ok _ _ h
  | .tuple l, y, h => by
    cases y <;> simp only [awB, Bool.false_eq_true] at h
    simp only [AW]
    exact awsB_ok _ _ h
theorem awsB_ok {rn : List Nat} : ∀ (xs ys : List AV), awsB rn xs ys = true → AWs rn xs ys
  | [], ys, h => by cases ys <;> simp_all [awsB, AWs]
  | x :: xs, ys, h => by
    cases ys <;> simp only [awsB, Bool.false_eq_true, Bool.and_eq_true] at h
    simp only [AWs]
    exact ⟨awB_ok _ _ h.1, awsB_ok _ _ h.2⟩
end

def ablB (rn : List Nat) : ABlk → ABlk → Bool
  | .dead, _ => true
  | .cells o l, .cells o' l' => (!o || o') && awsB rn l l'
  | .map es, .map es' => awsB rn (es.map (·.1)) (es'.map (·.1)) && awsB rn (es.map (·.2)) (es'.map (·.2))
  | .pin l, .pin l' => awsB rn l l'
  | _, _ => false

theorem ablB_ok {rn : List Nat} {x y : ABlk} (h : ablB rn x y = true) : AWb rn x y := by
  cases x <;> cases y <;> simp only [ablB, Bool.false_eq_true, Bool.and_eq_true, Bool.or_eq_true, Bool.not_eq_true'] at h
  all_goals simp only [AWb]
  · exact ⟨fun ho => by rcases h.1 with h1 | h1 <;> simp_all, awsB_ok _ _ h.2⟩
  · exact ⟨awsB_ok _ _ h.1, awsB_ok _ _ h.2⟩
  · exact awsB_ok _ _ h

def awgB (rn : List Nat) (H : AHeap) : AHeap → List Nat → Bool
  | [], [] => true
  | x :: xs, b :: bs => (if b < H.length then ablB rn x (H.getD b .dead) else true) && awgB rn H xs bs
  | _, _ => false

theorem awgB_ok {rn : List Nat} {H : AHeap} : ∀ {xs : AHeap} {bs : List Nat}, awgB rn H xs bs = true → AWg rn H xs bs
  | [], bs, h => by cases bs <;> simp_all [awgB, AWg]
  | x :: xs, bs, h => by
    cases bs <;> simp only [awgB, Bool.false_eq_true, Bool.and_eq_true] at h
    simp only [AWg]
    refine ⟨?_, awgB_ok h.2⟩
    split
    · rename_i hb
      have h1 := h.1
      rw [if_pos hb] at h1
      exact ablB_ok h1
    · trivial

def dupB : List Nat → Bool
  | [] => true
  | x :: l => !l.contains x && dupB l
theorem dupB_ok : ∀ {l : List Nat}, dupB l = true → l.Nodup
  | [], _ => by simp
  | x :: l, h => by
    simp only [dupB, Bool.and_eq_true, Bool.not_eq_true', List.contains_eq_mem, decide_eq_false_iff_not] at h
    exact List.nodup_cons.2 ⟨h.1, dupB_ok h.2⟩

/-- Weak, decided. -/
def weakB (n : Nat) (rn : List Nat) (F : List AV) (H : AHeap) (Fn : List AV) (Hn : AHeap) : Bool :=
  dupB rn && (rn.take n == List.range n && (awsB rn Fn F && awgB rn H Hn rn))

theorem weakB_ok {n : Nat} {rn : List Nat} {F Fn : List AV} {H Hn : AHeap} (h : weakB n rn F H Fn Hn = true) : Weak n F H Fn Hn := by
  simp only [weakB, Bool.and_eq_true, beq_iff_eq] at h
  exact Weak.mk' rn (dupB_ok h.1) h.2.1 (awsB_ok _ _ h.2.2.1) (awgB_ok h.2.2.2)

def kend (n : Nat) (rn : List Nat) (x : AX) (r : ARes) (Fn : List AV) (Hn : AHeap) : Bool :=
  match r with
  | some (.normal, F', H') => (match x with | .normal => weakB n rn F' H' Fn Hn | _ => false)
  | some (.ret, F', H') => (match x with | .ret => weakB n rn F' H' Fn Hn | _ => false)
  | some (.exit i, F', H') => (match x with | .exit k => i == k && weakB n rn F' H' Fn Hn | _ => false)
  | none => false

theorem kend_ok {n : Nat} {rn : List Nat} {x : AX} {r : ARes} {Fn : List AV} {Hn : AHeap} (h : kend n rn x r Fn Hn = true) : ∃ F' H', r = some (x, F', H') ∧ Weak n F' H' Fn Hn := by
  unfold kend at h
  split at h
  · rename_i F' H'
    cases x <;> simp only [Bool.false_eq_true] at h
    exact ⟨F', H', rfl, weakB_ok h⟩
  · rename_i F' H'
    cases x <;> simp only [Bool.false_eq_true] at h
    exact ⟨F', H', rfl, weakB_ok h⟩
  · rename_i F' H'
    cases x <;> simp only [Bool.false_eq_true, Bool.and_eq_true, beq_iff_eq] at h
    obtain ⟨rfl, h2⟩ := h
    exact ⟨F', H', rfl, weakB_ok h2⟩
  · cases h

/-- Code run by the kernel to its end. -/
theorem Sim.kexec {P : Program} {Γ : Gam} (hm : P.follows .mixedOrders = true) (hΓ : GOk P Γ) {r : Option Nat} {n0 n : Nat} {c : Code} {F Fn : List AV} {H Hn : AHeap} {x : AX} {Q : AX → List AV → AHeap → Prop} (rn : List Nat) (h : kend n0 rn x (acodeK P Γ n r.isNone c F H) Fn Hn = true) (hn : n0 ≤ H.length)
    (hq : ∀ F' H', n0 ≤ H'.length → Weak n0 F' H' Fn Hn → Q x F' H') : Sim P r n0 c F H Q := by
  obtain ⟨F', H', h1, h2⟩ := kend_ok h
  have hr : r.isNone = true → r = none := by intro e; cases r <;> simp_all
  refine ((acodeK_ok hm hΓ r n r.isNone hr c F F' H H' x h1).len hn).mono ?_
  rintro x1 F1 H1 hl ⟨rfl, rfl, rfl⟩
  exact hq _ _ hl h2

/-- Code run by the kernel, and what stands behind it. -/
theorem Sim.kstep {P : Program} {Γ : Gam} (hm : P.follows .mixedOrders = true) (hΓ : GOk P Γ) {r : Option Nat} {n0 n : Nat} {x y : Code} {F Fn : List AV} {H Hn : AHeap} {Q : AX → List AV → AHeap → Prop} (rn : List Nat) (h : kend n0 rn .normal (acodeK P Γ n r.isNone x F H) Fn Hn = true) (hn : n0 ≤ H.length) (k : Sim P r n0 y Fn Hn Q) : Sim P r n0 (.seq x y) F H Q := by
  refine Sim.seq (Sim.kexec hm hΓ rn h hn fun F' H' hl hw => ?_)
  exact Sim.weak hw hl k

def kretB (P : Program) (rs : List ResultVar) (r : ARes) : Bool :=
  match r with
  | some (.ret, F', H') => (match resA P rs F' H' with | some (.bool true) => true | _ => false)
  | some (.normal, F', H') => (match resA P rs F' H' with | some (.bool true) => true | _ => false)
  | _ => false

/-- A closed statement's end, run by the kernel. -/
theorem Sim.kret {P : Program} {Γ : Gam} (hm : P.follows .mixedOrders = true) (hΓ : GOk P Γ) {n : Nat} {c : Code} {F : List AV} {H : AHeap} {rs : List ResultVar} (h : kretB P rs (acodeK P Γ n true c F H) = true) :
    Sim P none ([] : AHeap).length c F H fun x F1 H1 => (x = .normal ∨ x = .ret) ∧ ∃ v1, resA P rs F1 H1 = some v1 ∧ Weak ([] : AHeap).length [v1] H1 [.bool true] [] := by
  have key : ∀ x F' H', acodeK P Γ n true c F H = some (x, F', H') → (x = .normal ∨ x = .ret) → resA P rs F' H' = some (.bool true) → Sim P none ([] : AHeap).length c F H fun x F1 H1 => (x = .normal ∨ x = .ret) ∧ ∃ v1, resA P rs F1 H1 = some v1 ∧ Weak ([] : AHeap).length [v1] H1 [.bool true] [] := by
    intro x F' H' h1 h2 h3
    refine ((acodeK_ok hm hΓ none n true (fun _ => rfl) c F F' H H' x h1).len (Nat.zero_le _)).mono ?_
    rintro x1 F1 H1 _ ⟨rfl, rfl, rfl⟩
    exact ⟨h2, _, h3, Weak.mk' [] (by decide) rfl (by simp [AWs, AW]) (by simp [AWg])⟩
  unfold kretB at h
  split at h
  · rename_i F' H' h1
    split at h
    · rename_i h2; exact key _ _ _ h1 (.inr rfl) h2
    · cases h
  · rename_i F' H' h1
    split at h
    · rename_i h2; exact key _ _ _ h1 (.inl rfl) h2
    · cases h
  · cases h

/-- The first pieces of a text, run by the kernel. -/
def acodeN (P : Program) (Γ : Gam) (n : Nat) (q : Bool) : Nat → Code → List AV → AHeap → Option (List AV × AHeap)
  | 0, _, F, H => some (F, H)
  | k + 1, .seq x y, F, H => match acodeK P Γ n q x F H with
    | some (.normal, F', H') => acodeN P Γ n q k y F' H'
    | _ => none
  | _ + 1, _, _, _ => none

theorem acodeN_sim {P : Program} {Γ : Gam} (hm : P.follows .mixedOrders = true) (hΓ : GOk P Γ) {r : Option Nat} {n0 n : Nat} {Q : AX → List AV → AHeap → Prop} : ∀ (k : Nat) (c : Code) (F F' : List AV) (H H' : AHeap), acodeN P Γ n r.isNone k c F H = some (F', H') → n0 ≤ H.length →
    (n0 ≤ H'.length → Sim P r n0 (restC k c) F' H' Q) → Sim P r n0 c F H Q
  | 0, c, F, F', H, H', h, hn, hk => by
    cases h
    exact hk hn
  | k + 1, c, F, F', H, H', h, hn, hk => by
    cases c with
    | seq x y =>
      simp only [acodeN] at h
      split at h
      · rename_i F1 H1 h1
        have hr : r.isNone = true → r = none := by intro e; cases r <;> simp_all
        refine Sim.seq (((acodeK_ok hm hΓ r n r.isNone hr x F F1 H H1 .normal h1).len hn).mono ?_)
        rintro x1 F2 H2 hl ⟨rfl, rfl, rfl⟩
        exact acodeN_sim hm hΓ k y _ F' _ H' h hl hk
      · cases h
    | _ => simp [acodeN] at h

def kendN (n : Nat) (rn : List Nat) (r : Option (List AV × AHeap)) (Fn : List AV) (Hn : AHeap) : Bool :=
  match r with
  | some (F', H') => weakB n rn F' H' Fn Hn
  | none => false

theorem Sim.kmany {P : Program} {Γ : Gam} (hm : P.follows .mixedOrders = true) (hΓ : GOk P Γ) {r : Option Nat} {n0 n : Nat} {c : Code} {F Fn : List AV} {H Hn : AHeap} {Q : AX → List AV → AHeap → Prop} (k : Nat) (rn : List Nat) (h : kendN n0 rn (acodeN P Γ n r.isNone k c F H) Fn Hn = true) (hn : n0 ≤ H.length)
    (kk : Sim P r n0 (restC k c) Fn Hn Q) : Sim P r n0 c F H Q := by
  unfold kendN at h
  split at h
  · rename_i F' H' h1
    exact acodeN_sim hm hΓ k c F F' H H' h1 hn fun hl => Sim.weak (weakB_ok h) hl kk
  · cases h

/-! The names of an end's blocks, found by the kernel itself. -/

def blkOf : AV → Nat
  | .ptr b _ => b
  | .slice b _ _ _ _ => b
  | .sl b _ _ _ _ => b
  | .map b => b
  | .yld b => b
  | _ => 0

mutual
def pairV : AV → AV → List (Nat × Nat)
  | .ptr b _, y => [(b, blkOf y)]
  | .slice b _ _ _ _, y => [(b, blkOf y)]
  | .sl b _ _ _ _, y => [(b, blkOf y)]
  | .map b, y => [(b, blkOf y)]
  | .yld b, y => [(b, blkOf y)]
  | .func _ xs ys, .func _ xs' ys' => pairVs xs xs' ++ pairVs ys ys'
  | .agg l, .agg l' => pairVs l l'
  | .tuple l, .tuple l' => pairVs l l'
  | _, _ => []
def pairVs : List AV → List AV → List (Nat × Nat)
  | x :: l, y :: l' => pairV x y ++ pairVs l l'
  | _, _ => []
end

def pairB : ABlk → ABlk → List (Nat × Nat)
  | .cells _ l, .cells _ l' => pairVs l l'
  | .map es, .map es' => pairVs (es.map (·.1)) (es'.map (·.1)) ++ pairVs (es.map (·.2)) (es'.map (·.2))
  | .pin l, .pin l' => pairVs l l'
  | _, _ => []

def findGo (Hn H : AHeap) : Nat → List (Nat × Nat) → List (Nat × Nat) → List (Nat × Nat)
  | 0, _, seen => seen
  | _ + 1, [], seen => seen
  | n + 1, (a, b) :: todo, seen => if seen.any (fun x => x.1 == a) then findGo Hn H n todo seen else findGo Hn H n (pairB (Hn.getD a .dead) (H.getD b .dead) ++ todo) ((a, b) :: seen)

def findRn (Fn F : List AV) (Hn H : AHeap) : List Nat :=
  (List.range Hn.length).map fun i => match (findGo Hn H 20000 (pairVs Fn F) []).find? (fun x => x.1 == i) with | some x => x.2 | none => i

def kendM (n : Nat) (r : Option (List AV × AHeap)) (Fn : List AV) (Hn : AHeap) : Bool :=
  match r with
  | some (F', H') => weakB n (findRn Fn F' Hn H') F' H' Fn Hn
  | none => false

theorem Sim.kmanyM {P : Program} {Γ : Gam} (hm : P.follows .mixedOrders = true) (hΓ : GOk P Γ) {r : Option Nat} {n0 n : Nat} {c : Code} {F Fn : List AV} {H Hn : AHeap} {Q : AX → List AV → AHeap → Prop} (k : Nat) (h : kendM n0 (acodeN P Γ n r.isNone k c F H) Fn Hn = true) (hn : n0 ≤ H.length)
    (kk : Sim P r n0 (restC k c) Fn Hn Q) : Sim P r n0 c F H Q := by
  unfold kendM at h
  split at h
  · rename_i F' H' h1
    exact Sim.kmany hm hΓ k _ (by unfold kendN; rw [h1]; exact h) hn kk
  · cases h

theorem restC_add : ∀ (a b : Nat) (c : Code), restC b (restC a c) = restC (a + b) c
  | 0, b, c => by rw [Nat.zero_add]; rfl
  | a + 1, b, c => by
    rw [Nat.add_right_comm]
    cases c with
    | seq x y => exact restC_add a b y
    | _ => cases b <;> rfl

theorem minA_min (k k' : IntKind) (x y : Int) : minA false (.int k x) (.int k' y) = some (.int k (min x y)) := by
  unfold minA; simp only [Bool.false_eq_true, if_false]; congr 2; omega
theorem minA_max (k k' : IntKind) (x y : Int) : minA true (.int k x) (.int k' y) = some (.int k (max x y)) := by
  unfold minA; simp only [if_true]; congr 2; omega

end Go.Proofs.Ytjolihoakdifoaa
