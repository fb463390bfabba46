/- Parts of the proof of ReplayReads: lemmas, each with its own conditions. -/
import Derived.Test.YthafeihjlamhhaaGreatDoorY5
import Derived.Test.YthafeihjlamhhaaGreatDoorTypes
import Derived.Test.YthafeihjlamhhaaGreatDoorY4
namespace Go.Proofs.YthafeihjlamhhaaGreatDoor
open Go
mutual
def awB (rn : List Nat) : AV → AV → Bool
  | .top, _ => true
  | .bool b, .bool b' => b == b'
  | .int k n, .int k' n' => k == k' && n == n'
  | .str s, .str s' => s == s'
  | .ptr b o, .ptr b' o' => rn[b]? == some b' && o == o'
  | .nilp, .nilp => true
  | .slice b o l sz c, .slice b' o' l' sz' c' => rn[b]? == some b' && (o == o' && (l == l' && (sz == sz' && (!c || c'))))
  | .sl b o l sz c, .slice b' o' l' sz' c' => rn[b]? == some b' && (o == o' && (l == l' && (sz == sz' && (!c || c'))))
  | .sl b o l sz c, .sl b' o' l' sz' c' => rn[b]? == some b' && (o == o' && (l == l' && (sz == sz' && (!c || c'))))
  | .sl _ _ l _ _, .nils => l == 0
  | .nils, .nils => true
  | .map b, .map b' => rn[b]? == some b'
  | .nilm, .nilm => true
  | .func f xs ys, .func f' xs' ys' => f == f' && (awsB rn xs xs' && awsB rn ys ys')
  | .yld b, .yld b' => rn[b]? == some b'
  | .nilf, .nilf => true
  | .agg l, .agg l' => awsB rn l l'
  | .tuple l, .tuple l' => awsB rn l l'
  | _, _ => false
def awsB (rn : List Nat) : List AV → List AV → Bool
  | [], [] => true
  | x :: xs, y :: ys => awB rn x y && awsB rn xs ys
  | _, _ => false
end
mutual
theorem awB_ok {rn : List Nat} : ∀ (x y : AV), awB rn x y = true → AW rn x y
  | .top, _, _ => by simp [AW]
  | .bool b, y, h => by cases y <;> simp_all [awB, AW]
  | .int k n, y, h => by cases y <;> simp_all [awB, AW]
  | .str s, y, h => by cases y <;> simp_all [awB, AW]
  | .ptr b o, y, h => by cases y <;> simp_all [awB, AW]
  | .nilp, y, h => by cases y <;> simp_all [awB, AW]
  | .slice b o l sz c, y, h => by
    cases y <;> simp only [awB, Bool.false_eq_true, Bool.and_eq_true, beq_iff_eq, Bool.or_eq_true, Bool.not_eq_true'] at h
    simp only [AW]
    obtain ⟨h1, h2, h3, h4, h5⟩ := h
    exact ⟨h1, h2, h3, h4, fun hc => by rcases h5 with h5 | h5 <;> simp_all⟩
  | .sl b o l sz c, y, h => by
    cases y <;> simp only [awB, Bool.false_eq_true, Bool.and_eq_true, beq_iff_eq, Bool.or_eq_true, Bool.not_eq_true'] at h
    · simp only [AW]
      obtain ⟨h1, h2, h3, h4, h5⟩ := h
      exact ⟨h1, h2, h3, h4, fun hc => by rcases h5 with h5 | h5 <;> simp_all⟩
    · simp only [AW]
      obtain ⟨h1, h2, h3, h4, h5⟩ := h
      exact ⟨h1, h2, h3, h4, fun hc => by rcases h5 with h5 | h5 <;> simp_all⟩
    · simpa only [AW] using h
  | .nils, y, h => by cases y <;> simp_all [awB, AW]
  | .map b, y, h => by cases y <;> simp_all [awB, AW]
  | .nilm, y, h => by cases y <;> simp_all [awB, AW]
  | .func f xs ys, y, h => by
    cases y <;> simp only [awB, Bool.false_eq_true, Bool.and_eq_true, beq_iff_eq] at h
    simp only [AW]
    exact ⟨h.1, awsB_ok _ _ h.2.1, awsB_ok _ _ h.2.2⟩
  | .yld b, y, h => by cases y <;> simp_all [awB, AW]
  | .nilf, y, h => by cases y <;> simp_all [awB, AW]
  | .agg l, y, h => by
    cases y <;> simp only [awB, Bool.false_eq_true] at h
    simp only [AW]
    exact awsB_ok _ _ h
  | .tuple l, y, h => by
    cases y <;> simp only [awB, Bool.false_eq_true] at h
    simp only [AW]
    exact awsB_ok _ _ h
theorem awsB_ok {rn : List Nat} : ∀ (xs ys : List AV), awsB rn xs ys = true → AWs rn xs ys
  | [], ys, h => by cases ys <;> simp_all [awsB, AWs]
  | x :: xs, ys, h => by
    cases ys <;> simp only [awsB, Bool.false_eq_true, Bool.and_eq_true] at h
    simp only [AWs]
    exact ⟨awB_ok _ _ h.1, awsB_ok _ _ h.2⟩
end
def ablB (rn : List Nat) : ABlk → ABlk → Bool
  | .dead, _ => true
  | .cells o l, .cells o' l' => (!o || o') && awsB rn l l'
  | .map es, .map es' => awsB rn (es.map (·.1)) (es'.map (·.1)) && awsB rn (es.map (·.2)) (es'.map (·.2))
  | .pin l, .pin l' => awsB rn l l'
  | _, _ => false
theorem ablB_ok {rn : List Nat} {x y : ABlk} (h : ablB rn x y = true) : AWb rn x y := by
  cases x <;> cases y <;> simp only [ablB, Bool.false_eq_true, Bool.and_eq_true, Bool.or_eq_true, Bool.not_eq_true'] at h
  all_goals simp only [AWb]
  · exact ⟨fun ho => by rcases h.1 with h1 | h1 <;> simp_all, awsB_ok _ _ h.2⟩
  · exact ⟨awsB_ok _ _ h.1, awsB_ok _ _ h.2⟩
  · exact awsB_ok _ _ h
def awgB (rn : List Nat) (H : AHeap) : AHeap → List Nat → Bool
  | [], [] => true
  | x :: xs, b :: bs => (if b < H.length then ablB rn x (H.getD b .dead) else true) && awgB rn H xs bs
  | _, _ => false
theorem awgB_ok {rn : List Nat} {H : AHeap} : ∀ {xs : AHeap} {bs : List Nat}, awgB rn H xs bs = true → AWg rn H xs bs
  | [], bs, h => by cases bs <;> simp_all [awgB, AWg]
  | x :: xs, bs, h => by
    cases bs <;> simp only [awgB, Bool.false_eq_true, Bool.and_eq_true] at h
    simp only [AWg]
    refine ⟨?_, awgB_ok h.2⟩
    split
    · rename_i hb
      have h1 := h.1
      rw [if_pos hb] at h1
      exact ablB_ok h1
    · trivial
def dupB : List Nat → Bool
  | [] => true
  | x :: l => !l.contains x && dupB l
theorem dupB_ok : ∀ {l : List Nat}, dupB l = true → l.Nodup
  | [], _ => by simp
  | x :: l, h => by
    simp only [dupB, Bool.and_eq_true, Bool.not_eq_true', List.contains_eq_mem, decide_eq_false_iff_not] at h
    exact List.nodup_cons.2 ⟨h.1, dupB_ok h.2⟩
def weakB (n : Nat) (rn : List Nat) (F : List AV) (H : AHeap) (Fn : List AV) (Hn : AHeap) : Bool :=
  dupB rn && (rn.take n == List.range n && (awsB rn Fn F && awgB rn H Hn rn))
theorem weakB_ok {n : Nat} {rn : List Nat} {F Fn : List AV} {H Hn : AHeap} (h : weakB n rn F H Fn Hn = true) : Weak n F H Fn Hn := by
  simp only [weakB, Bool.and_eq_true, beq_iff_eq] at h
  exact Weak.mk' rn (dupB_ok h.1) h.2.1 (awsB_ok _ _ h.2.2.1) (awgB_ok h.2.2.2)
def kretB (P : Program) (rs : List ResultVar) (r : ARes) : Bool :=
  match r with
  | some (.ret, F', H') => (match resA P rs F' H' with | some (.bool true) => true | _ => false)
  | some (.normal, F', H') => (match resA P rs F' H' with | some (.bool true) => true | _ => false)
  | _ => false
theorem Sim.kret {P : Program} {Γ : Gam} (hm : P.follows .mixedOrders = true) (hΓ : GOk P Γ) {n : Nat} {c : Code} {F : List AV} {H : AHeap} {rs : List ResultVar} (h : kretB P rs (acodeK P Γ n true c F H) = true) :
    Sim P none ([] : AHeap).length c F H fun x F1 H1 => (x = .normal ∨ x = .ret) ∧ ∃ v1, resA P rs F1 H1 = some v1 ∧ Weak ([] : AHeap).length [v1] H1 [.bool true] [] := by
  have key : ∀ x F' H', acodeK P Γ n true c F H = some (x, F', H') → (x = .normal ∨ x = .ret) → resA P rs F' H' = some (.bool true) → Sim P none ([] : AHeap).length c F H fun x F1 H1 => (x = .normal ∨ x = .ret) ∧ ∃ v1, resA P rs F1 H1 = some v1 ∧ Weak ([] : AHeap).length [v1] H1 [.bool true] [] := by
    intro x F' H' h1 h2 h3
    refine ((acodeK_ok hm hΓ none n true (fun _ => rfl) c F F' H H' x h1).len (Nat.zero_le _)).mono ?_
    rintro x1 F1 H1 _ ⟨rfl, rfl, rfl⟩
    exact ⟨h2, _, h3, Weak.mk' [] (by decide) rfl (by simp [AWs, AW]) (by simp [AWg])⟩
  unfold kretB at h
  split at h
  · rename_i F' H' h1
    split at h
    · rename_i h2; exact key _ _ _ h1 (.inr rfl) h2
    · cases h
  · rename_i F' H' h1
    split at h
    · rename_i h2; exact key _ _ _ h1 (.inl rfl) h2
    · cases h
  · cases h
def acodeN (P : Program) (Γ : Gam) (n : Nat) (q : Bool) : Nat → Code → List AV → AHeap → Option (List AV × AHeap)
  | 0, _, F, H => some (F, H)
  | k + 1, .seq x y, F, H => match acodeK P Γ n q x F H with
    | some (.normal, F', H') => acodeN P Γ n q k y F' H'
    | _ => none
  | _ + 1, _, _, _ => none
theorem acodeN_sim {P : Program} {Γ : Gam} (hm : P.follows .mixedOrders = true) (hΓ : GOk P Γ) {r : Option Nat} {n0 n : Nat} {Q : AX → List AV → AHeap → Prop} : ∀ (k : Nat) (c : Code) (F F' : List AV) (H H' : AHeap), acodeN P Γ n r.isNone k c F H = some (F', H') → n0 ≤ H.length →
    (n0 ≤ H'.length → Sim P r n0 (restC k c) F' H' Q) → Sim P r n0 c F H Q
  | 0, c, F, F', H, H', h, hn, hk => by
    cases h
    exact hk hn
  | k + 1, c, F, F', H, H', h, hn, hk => by
    cases c with
    | seq x y =>
      simp only [acodeN] at h
      split at h
      · rename_i F1 H1 h1
        have hr : r.isNone = true → r = none := by intro e; cases r <;> simp_all
        refine Sim.seq (((acodeK_ok hm hΓ r n r.isNone hr x F F1 H H1 .normal h1).len hn).mono ?_)
        rintro x1 F2 H2 hl ⟨rfl, rfl, rfl⟩
        exact acodeN_sim hm hΓ k y _ F' _ H' h hl hk
      · cases h
    | _ => simp [acodeN] at h
def kendN (n : Nat) (rn : List Nat) (r : Option (List AV × AHeap)) (Fn : List AV) (Hn : AHeap) : Bool :=
  match r with
  | some (F', H') => weakB n rn F' H' Fn Hn
  | none => false
theorem Sim.kmany {P : Program} {Γ : Gam} (hm : P.follows .mixedOrders = true) (hΓ : GOk P Γ) {r : Option Nat} {n0 n : Nat} {c : Code} {F Fn : List AV} {H Hn : AHeap} {Q : AX → List AV → AHeap → Prop} (k : Nat) (rn : List Nat) (h : kendN n0 rn (acodeN P Γ n r.isNone k c F H) Fn Hn = true) (hn : n0 ≤ H.length)
    (kk : Sim P r n0 (restC k c) Fn Hn Q) : Sim P r n0 c F H Q := by
  unfold kendN at h
  split at h
  · rename_i F' H' h1
    exact acodeN_sim hm hΓ k c F F' H H' h1 hn fun hl => Sim.weak (weakB_ok h) hl kk
  · cases h
def blkOf : AV → Nat
  | .ptr b _ => b
  | .slice b _ _ _ _ => b
  | .sl b _ _ _ _ => b
  | .map b => b
  | .yld b => b
  | _ => 0
mutual
def pairV : AV → AV → List (Nat × Nat)
  | .ptr b _, y => [(b, blkOf y)]
  | .slice b _ _ _ _, y => [(b, blkOf y)]
  | .sl b _ _ _ _, y => [(b, blkOf y)]
  | .map b, y => [(b, blkOf y)]
  | .yld b, y => [(b, blkOf y)]
  | .func _ xs ys, .func _ xs' ys' => pairVs xs xs' ++ pairVs ys ys'
  | .agg l, .agg l' => pairVs l l'
  | .tuple l, .tuple l' => pairVs l l'
  | _, _ => []
def pairVs : List AV → List AV → List (Nat × Nat)
  | x :: l, y :: l' => pairV x y ++ pairVs l l'
  | _, _ => []
end
def pairB : ABlk → ABlk → List (Nat × Nat)
  | .cells _ l, .cells _ l' => pairVs l l'
  | .map es, .map es' => pairVs (es.map (·.1)) (es'.map (·.1)) ++ pairVs (es.map (·.2)) (es'.map (·.2))
  | .pin l, .pin l' => pairVs l l'
  | _, _ => []
def findGo (Hn H : AHeap) : Nat → List (Nat × Nat) → List (Nat × Nat) → List (Nat × Nat)
  | 0, _, seen => seen
  | _ + 1, [], seen => seen
  | n + 1, (a, b) :: todo, seen => if seen.any (fun x => x.1 == a) then findGo Hn H n todo seen else findGo Hn H n (pairB (Hn.getD a .dead) (H.getD b .dead) ++ todo) ((a, b) :: seen)
def findRn (Fn F : List AV) (Hn H : AHeap) : List Nat :=
  (List.range Hn.length).map fun i => match (findGo Hn H 20000 (pairVs Fn F) []).find? (fun x => x.1 == i) with | some x => x.2 | none => i
def kendM (n : Nat) (r : Option (List AV × AHeap)) (Fn : List AV) (Hn : AHeap) : Bool :=
  match r with
  | some (F', H') => weakB n (findRn Fn F' Hn H') F' H' Fn Hn
  | none => false
theorem Sim.kmanyM {P : Program} {Γ : Gam} (hm : P.follows .mixedOrders = true) (hΓ : GOk P Γ) {r : Option Nat} {n0 n : Nat} {c : Code} {F Fn : List AV} {H Hn : AHeap} {Q : AX → List AV → AHeap → Prop} (k : Nat) (h : kendM n0 (acodeN P Γ n r.isNone k c F H) Fn Hn = true) (hn : n0 ≤ H.length)
    (kk : Sim P r n0 (restC k c) Fn Hn Q) : Sim P r n0 c F H Q := by
  unfold kendM at h
  split at h
  · rename_i F' H' h1
    exact Sim.kmany hm hΓ k _ (by unfold kendN; rw [h1]; exact h) hn kk
  · cases h
end Go.Proofs.YthafeihjlamhhaaGreatDoor
namespace Go.Proofs.YthafeihjlamhhaaGreatDoor
open Go
set_option maxRecDepth 100000
attribute [-simp] drawOk_eq adraw qrun acode aops
abbrev En := List UInt8 × Int × Bool
def enA (s : En) : List AV := [.str s.1, .int .u32 s.2.1, .bool s.2.2]
def ensA : List En → List AV
  | [] => []
  | s :: l => enA s ++ ensA l
@[simp] theorem ensA_length : ∀ l : List En, (ensA l).length = l.length * 3
  | [] => rfl
  | s :: l => by simp [ensA, enA, ensA_length l]; omega
@[simp] theorem frees_ens : ∀ l : List En, frees (ensA l) = true
  | [] => rfl
  | s :: l => by simp [ensA, enA, frees_ens l]
theorem ens_get : ∀ (l : List En) (k : Nat) (h : k < l.length), ((ensA l).drop (k * 3)).take 3 = enA l[k]
  | s :: l, 0, _ => by simp [ensA, enA]
  | s :: l, k + 1, h => by
    have := ens_get l k (by simpa using h)
    rw [show (k + 1) * 3 = k * 3 + 3 by omega]
    simpa [ensA, enA] using this
def ensOf : List AV → Option (List En)
  | [] => some []
  | .str a :: .int .u32 b :: .bool c :: l => (ensOf l).map ((a, b, c) :: ·)
  | _ => none
theorem ensOf_eq : ∀ {xs : List AV} {l : List En}, ensOf xs = some l → xs = ensA l
  | [], l, h => by cases h; rfl
  | x :: xs, l, h => by
    unfold ensOf at h
    split at h
    · cases ‹_ = []›
    · rename_i a b c ys e
      cases e
      obtain ⟨l', hl', rfl⟩ := Option.map_eq_some_iff.1 h
      rw [ensOf_eq hl']
      rfl
    · cases h
@[simp] theorem ensOf_ensA : ∀ l : List En, ensOf (ensA l) = some l
  | [] => rfl
  | s :: l => by simp [ensA, enA, ensOf, ensOf_ensA l]
@[simp] theorem take_ensA (l : List En) : (ensA l).take (l.length * 3) = ensA l := by rw [← ensA_length, List.take_length]
@[simp] theorem ensA_append (a b : List En) : ensA (a ++ b) = ensA a ++ ensA b := by
  induction a with
  | nil => rfl
  | cons x a ih => simp [ensA, ih]
def rowEns (H : AHeap) : AV → Option (List En)
  | .nils => some []
  | .slice b off len 3 _ => match H[b]? with
    | some (.cells _ l) => if off + len * 3 ≤ l.length then ensOf ((l.drop off).take (len * 3)) else none
    | _ => none
  | .sl b off len 3 _ => match H[b]? with
    | some (.cells _ l) => if off + len * 3 ≤ l.length then ensOf ((l.drop off).take (len * 3)) else none
    | _ => none
  | _ => none
theorem rowEns_win {H : AHeap} {x : AV} {a : List En} (h : rowEns H x = some a) : ∃ b off, (∀ (i : Nat) (wd : List (Nat × Nat)), wd[i]? = some (b, off) → winA wd (.sl i 0 a.length 3 false) x) ∧
    (match H[b]? with | some (.cells _ l) => off + (ensA a).length ≤ l.length ∧ ensA a = (l.drop off).take (ensA a).length | none => True | _ => False) := by
  have key : ∀ (b off len : Nat) (o : Bool) (l : List AV), H[b]? = some (.cells o l) → off + len * 3 ≤ l.length → ensOf ((l.drop off).take (len * 3)) = some a → len = a.length ∧ off + (ensA a).length ≤ l.length ∧ ensA a = (l.drop off).take (ensA a).length := by
    intro b off len o l hb hle hs
    have e := ensOf_eq hs
    have hlen : len = a.length := by
      have := congrArg List.length e
      simp at this
      omega
    subst hlen
    exact ⟨rfl, by simpa using hle, by rw [ensA_length]; exact e.symm⟩
  unfold rowEns at h
  split at h
  · cases h
    exact ⟨H.length, 0, fun i wd _ => by simp [winA], by simp⟩
  · rename_i b off len c
    split at h
    rotate_left
    · cases h
    rename_i o l hb
    split at h
    rotate_left
    · cases h
    rename_i hle
    obtain ⟨rfl, h1, h2⟩ := key b off len o l hb hle h
    exact ⟨b, off, fun i wd hw => by simp [winA, hw], by rw [hb]; exact ⟨h1, h2⟩⟩
  · rename_i b off len c
    split at h
    rotate_left
    · cases h
    rename_i o l hb
    split at h
    rotate_left
    · cases h
    rename_i hle
    obtain ⟨rfl, h1, h2⟩ := key b off len o l hb hle h
    exact ⟨b, off, fun i wd hw => by simp [winA, hw], by rw [hb]; exact ⟨h1, h2⟩⟩
  · cases h
@[simp] theorem cells_ens : ∀ l : List En, (ensA l).all isCell = true
  | [] => rfl
  | s :: l => by simp [ensA, enA, cells_ens l]
def okW (w : List UInt8) : Bool := decide (1 ≤ w.length ∧ w.length ≤ 255)
def cdW (w : List UInt8) : Int := if okW w then 0 else 7
def chInl : List FuncId := [239, 238]
theorem chΓ_ok : GOk Tryz.prog (runG Tryz.prog (gams []) 4 chInl 2) := gok_run hmix goks_nil 4 chInl 2
set_option maxHeartbeats 4000000 in
theorem wcheck_ct (w : List UInt8) : Ct Tryz.prog 175 [.slice 0 0 1 1 false] [.cells false [.str w]] (.int .i64 (cdW w)) [.cells false [.str w]] := by
  refine ct_runE hmix chΓ_ok (n := 0) Tryz.func175 ?_
  unfold Tryz.f175 cdW okW
  by_cases h0 : w = []
  · subst h0
    exact ⟨_, _, (by simp [chInl, Tryz.f239, Tryz.f238]; exact ⟨rfl, rfl⟩), Weak.mk' [0] (by decide) rfl (by simp) (by simp)⟩
  · have h1 : 1 ≤ w.length := by cases w with | nil => exact absurd rfl h0 | cons => simp
    have hE : w.isEmpty = false := by cases w with | nil => exact absurd rfl h0 | cons => rfl
    by_cases h2 : w.length ≤ 255
    · have h3 : (w.length : Int) ≤ 255 := by omega
      exact ⟨_, _, (by simp [chInl, Tryz.f239, Tryz.f238, h0, hE, h2, h3]; exact ⟨rfl, rfl⟩), Weak.mk' [0] (by decide) rfl (by simp [h1, h2]) (by simp)⟩
    · have h3 : ¬ (w.length : Int) ≤ 255 := by omega
      exact ⟨_, _, (by simp [chInl, Tryz.f239, Tryz.f238, h0, hE, h2, h3]; exact ⟨rfl, rfl⟩), Weak.mk' [0] (by decide) rfl (by simp [h1, h2]) (by simp)⟩
def wcheckS : Summ := readS fun args H => match args with
  | [.slice b off 1 1 _] => match H[b]? with
    | some (.cells _ l) => match (l.drop off).take 1 with
      | [.str w] => if off + 1 ≤ l.length then some (.int .i64 (cdW w)) else none
      | _ => none
    | _ => none
  | _ => none
theorem wcheck_sound : Sound Tryz.prog 175 wcheckS := by
  refine sound_read (enter_of Tryz.func175 rfl (by decide)) fun args H v h => ?_
  split at h <;> try cases h
  rename_i b off c
  split at h <;> try cases h
  rename_i o l hb
  split at h <;> try cases h
  rename_i w hw
  split at h <;> cases h
  rename_i hle
  refine ct_win (wcheck_ct w) rfl [(b, off)] ⟨?_, trivial⟩ ⟨?_, rfl, trivial⟩
  · simp [winA]
  · rw [hb]
    exact ⟨hle, hw.symm⟩
theorem ris_ct (w : List UInt8) : Ct Tryz.prog 258 [.str w] [] (.bool (okW w)) [] := by
  unfold okW
  refine ct_val hmix goks_nil (n := 0) Tryz.func258 ?_ (by simp)
  unfold Tryz.f258
  by_cases h1 : 1 ≤ w.length
  · by_cases h2 : w.length ≤ 255
    · have h3 : (w.length : Int) ≤ 255 := by omega
      have h4 : (1 : Int) ≤ w.length := by omega
      simp [h1, h2, h3, h4]
    · have h3 : ¬ (w.length : Int) ≤ 255 := by omega
      have h4 : (1 : Int) ≤ w.length := by omega
      simp [h1, h2, h3, h4]
  · have h4 : ¬ (1 : Int) ≤ w.length := by omega
    simp [h1, h4]
def risS : Summ := pureS fun | [.str w] => some (.bool (okW w)) | _ => none
theorem ris_sound : Sound Tryz.prog 258 risS := by
  refine sound_pure (enter_of Tryz.func258 rfl (by decide)) fun args v h => ?_
  split at h <;> cases h
  exact ⟨ris_ct _, rfl, rfl⟩
theorem rcheck_ct (w : List UInt8) : Ct Tryz.prog 198 [.str w] [] (.int .i64 (cdW w)) [] := by
  have hΓ : GOk Tryz.prog (gams [(258, risS)]) := goks_cons ris_sound goks_nil
  unfold cdW
  refine ct_val hmix hΓ (n := 0) Tryz.func198 ?_ (by simp)
  unfold Tryz.f198
  cases h : okW w <;> simp [risS, h]
def rcheckS : Summ := pureS fun | [.str w] => some (.int .i64 (cdW w)) | _ => none
theorem rcheck_sound : Sound Tryz.prog 198 rcheckS := by
  refine sound_pure (enter_of Tryz.func198 rfl (by decide)) fun args v h => ?_
  split at h <;> cases h
  exact ⟨rcheck_ct _, rfl, rfl⟩
def eput (e : En) : List UInt8 × Int := if okW e.1 then (if e.2.2 then (2 :: e.1, 0) else (1 :: (Vy.enc e.2.1.toNat ++ e.1), 0)) else ([], 7)
def okN (n : Int) : Bool := decide (0 ≤ n ∧ n < 4294967296)
def eputS : Summ := pureS fun | [.agg [.str w, .int .u32 n, .bool g]] => if okN n = true then some (.tuple [.str (eput (w, n, g)).1, .int .i64 (eput (w, n, g)).2]) else none | _ => none
def rpΓ : Gam := gams [(198, rcheckS), (199, rputS)]
theorem rpΓ_ok : GOk Tryz.prog rpΓ := goks_cons rcheck_sound (goks_cons rput_sound goks_nil)
set_option maxHeartbeats 4000000 in
theorem reput_ct (e : En) (hn : okN e.2.1 = true) : Ct Tryz.prog 134 [.agg (enA e)] [] (.tuple [.str (eput e).1, .int .i64 (eput e).2]) [] := by
  obtain ⟨w, n, g⟩ := e
  simp only [okN, decide_eq_true_eq] at hn
  obtain ⟨hn0, hn1⟩ := hn
  have c1 : IntKind.u64.wrap n = n := wr_u64 hn0 (by omega)
  have hz : n.toNat < 18446744073709551616 := by omega
  have hz2 : n < 18446744073709551616 := by omega
  unfold eput
  have hw : okW w = true ∨ okW w = false := by cases okW w <;> simp
  have hcd : cdW w = if okW w then 0 else 7 := rfl
  refine ct_runE hmix rpΓ_ok (n := 0) Tryz.func134 ?_
  unfold Tryz.f134
  rcases hw with h | h
  · have hl : w.length ≤ 255 := by simp only [okW, decide_eq_true_eq] at h; exact h.2
    rw [h, if_pos rfl] at hcd
    have hb1 : 1 + w.length ≤ 9223372036854775807 := by omega
    have hb2 : w.length + 1 ≤ 9223372036854775807 := by omega
    obtain ⟨q, hq⟩ : ∃ q, Vy.enc n.toNat = q := ⟨_, rfl⟩
    have hql : q.length ≤ 9 := by
      rw [← hq, Vy.enc_length]
      have := (Vy.size_bd n.toNat (by omega)).2
      omega
    have hb3 : 1 + q.length ≤ 9223372036854775807 := by omega
    have hb4 : q.length + 1 ≤ 9223372036854775807 := by omega
    have hb5 : q.length + 1 + w.length ≤ 9223372036854775807 := by omega
    rw [hq]
    cases g with
    | true =>
      exact ⟨_, _, (by simp (decide := true) [enA, rpΓ, rcheckS, hcd, h, hb1, hb2]; exact ⟨rfl, rfl⟩), Weak.mk' [] (by decide) rfl (by simp [h]) (by simp)⟩
    | false =>
      exact ⟨_, _, (by simp (decide := true) [enA, rpΓ, rcheckS, rputS, hcd, h, c1, hz, hz2, hn0, hq, hb1, hb2, hb3, hb4, hb5]; exact ⟨rfl, rfl⟩), Weak.mk' [] (by decide) rfl (by simp [h]) (by simp)⟩
  · rw [h] at hcd
    exact ⟨_, _, (by simp [enA, rpΓ, rcheckS, hcd, h]; exact ⟨rfl, rfl⟩), Weak.mk' [] (by decide) rfl (by simp [h]) (by simp)⟩
theorem reput_sound : Sound Tryz.prog 134 eputS := by
  refine sound_pure (enter_of Tryz.func134 rfl (by decide)) fun args v h => ?_
  split at h <;> try cases h
  rename_i w n g
  split at h <;> cases h
  rename_i hn
  exact ⟨reput_ct (w, n, g) hn, rfl, rfl⟩
def noE : En := ([], 0, false)
def eget (s : List UInt8) : En × Int := match s with
  | [] => (noE, 3)
  | b :: r =>
    if b.toNat = 2 then (if okW r then ((r, 0, true), 0) else (noE, 7))
    else if b.toNat = 1 then
      (if (Vy.get s 1).2.2 = 0 then (if 4294967295 < (Vy.get s 1).1 then (noE, 17) else if okW (s.drop (Vy.get s 1).2.1.toNat) then ((s.drop (Vy.get s 1).2.1.toNat, ((Vy.get s 1).1 : Int), false), 0) else (noE, 7))
       else (noE, (Vy.get s 1).2.2))
    else (noE, 6)
def egΓ : Gam := gams [(175, wcheckS), (174, getS)]
theorem egΓ_ok : GOk Tryz.prog egΓ := goks_cons wcheck_sound (goks_cons get_sound goks_nil)
theorem cdW_eq (w : List UInt8) : cdW w = if okW w then 0 else 7 := rfl
set_option maxHeartbeats 16000000 in
theorem eget_ct (s : List UInt8) (hs : s.length ≤ 1000000) : Ct Tryz.prog 108 [.str s] [] (.tuple [.agg (enA (eget s).1), .int .i64 (eget s).2]) [] := by
  refine ct_runE hmix egΓ_ok (n := 0) Tryz.func108 ?_
  unfold Tryz.f108
  cases s with
  | nil => exact ⟨_, _, (by simp [eget, enA, noE]; exact ⟨rfl, rfl⟩), Weak.mk' [] (by decide) rfl (by simp [eget, enA, noE]) (by simp)⟩
  | cons b r =>
    have hbl := b.toNat_lt
    have hr : r.length + 1 ≤ 1000000 := by simpa using hs
    have hr2 : r.length + 1 ≤ 140737488351232 := by omega
    have e1 : (1 : Int) ≤ (r.length : Int) + 1 := by omega
    by_cases h2 : b.toNat = 2
    · have h2i : ((b.toNat : Nat) : Int) = 2 := by omega
      cases hk : okW r with
      | true => exact ⟨_, _, (by simp (decide := true) [egΓ, wcheckS, readS, h2i, e1, cdW_eq, hk]; exact ⟨rfl, rfl⟩), Weak.mk' [] (by decide) rfl (by simp [eget, enA, h2, hk]) (by simp)⟩
      | false => exact ⟨_, _, (by simp (decide := true) [egΓ, wcheckS, readS, h2i, e1, cdW_eq, hk]; exact ⟨rfl, rfl⟩), Weak.mk' [] (by decide) rfl (by simp [eget, enA, noE, h2, hk]) (by simp)⟩
    · have h2i : ¬ ((b.toNat : Nat) : Int) = 2 := by omega
      by_cases h1 : b.toNat = 1
      · have h1i : ((b.toNat : Nat) : Int) = 1 := by omega
        obtain ⟨m, x, c, hg⟩ : ∃ m x c, Vy.get (b :: r) 1 = (m, x, c) := ⟨_, _, _, rfl⟩
        by_cases hc : c = 0
        · subst hc
          obtain ⟨g0, g1, g2⟩ := Vy.get_ok _ _ _ _ hg
          have gv := (Vy.get_put _ 1 m x hg).2
          have x0 : (0 : Int) ≤ x := by omega
          have x1 : x ≤ (r.length : Int) + 1 := by simpa using g2
          by_cases hm : 4294967295 < m
          · have hmi : (4294967295 : Int) < m := by omega
            exact ⟨_, _, (by simp (decide := true) [egΓ, wcheckS, getS, readS, h2i, h1i, e1, hg, hr2, hmi, x0, x1]; exact ⟨rfl, rfl⟩), Weak.mk' [] (by decide) rfl (by simp [eget, enA, noE, h1, hg, hm]) (by simp)⟩
          · have hmi : ¬ (4294967295 : Int) < m := by omega
            have c2 : IntKind.u32.wrap (m : Int) = m := wr_u32 (by omega) (by omega)
            obtain ⟨w, hw⟩ : ∃ w, (b :: r).drop x.toNat = w := ⟨_, rfl⟩
            have ht : w.take (r.length + 1 - x.toNat) = w := by
              apply List.take_of_length_le
              rw [← hw, List.length_drop, List.length_cons]
              omega
            cases hk : okW w with
            | true => exact ⟨_, _, (by simp (decide := true) [egΓ, wcheckS, getS, readS, h2i, h1i, e1, hg, hr2, hmi, x0, x1, hw, ht, cdW_eq, hk, c2]; exact ⟨rfl, rfl⟩), Weak.mk' [] (by decide) rfl (by simp [eget, enA, noE, h1, hg, hm, hw, hk]) (by simp)⟩
            | false => exact ⟨_, _, (by simp (decide := true) [egΓ, wcheckS, getS, readS, h2i, h1i, e1, hg, hr2, hmi, x0, x1, hw, ht, cdW_eq, hk, c2]; exact ⟨rfl, rfl⟩), Weak.mk' [] (by decide) rfl (by simp [eget, enA, noE, h1, hg, hm, hw, hk]) (by simp)⟩
        · exact ⟨_, _, (by simp (decide := true) [egΓ, wcheckS, getS, readS, h2i, h1i, e1, hg, hr2, hc]; exact ⟨rfl, rfl⟩), Weak.mk' [] (by decide) rfl (by simp [eget, enA, noE, h1, hg, hc]) (by simp)⟩
      · have h1i : ¬ ((b.toNat : Nat) : Int) = 1 := by omega
        exact ⟨_, _, (by simp (decide := true) [egΓ, h2i, h1i, e1]; exact ⟨rfl, rfl⟩), Weak.mk' [] (by decide) rfl (by simp [eget, enA, noE, h1, h2]) (by simp)⟩
def rgΓ : Gam := gams [(198, rcheckS), (202, getS)]
theorem rgΓ_ok : GOk Tryz.prog rgΓ := goks_cons rcheck_sound (goks_cons rget_sound goks_nil)
set_option maxHeartbeats 16000000 in
theorem reget_ct (s : List UInt8) (hs : s.length ≤ 1000000) : Ct Tryz.prog 138 [.str s] [] (.tuple [.agg (enA (eget s).1), .int .i64 (eget s).2]) [] := by
  refine ct_runE hmix rgΓ_ok (n := 0) Tryz.func138 ?_
  unfold Tryz.f138
  cases s with
  | nil => exact ⟨_, _, (by simp [eget, enA, noE]; exact ⟨rfl, rfl⟩), Weak.mk' [] (by decide) rfl (by simp [eget, enA, noE]) (by simp)⟩
  | cons b r =>
    have hbl := b.toNat_lt
    have hr : r.length + 1 ≤ 1000000 := by simpa using hs
    have hr2 : r.length + 1 ≤ 140737488351232 := by omega
    have e1 : (1 : Int) ≤ (r.length : Int) + 1 := by omega
    have ht0 : r.take (r.length + 1 - 1) = r := List.take_of_length_le (by omega)
    by_cases h2 : b.toNat = 2
    · have h2i : ((b.toNat : Nat) : Int) = 2 := by omega
      have h1i : ¬ ((b.toNat : Nat) : Int) = 1 := by omega
      cases hk : okW r with
      | true => exact ⟨_, _, (by simp (decide := true) [rgΓ, rcheckS, h2i, h1i, e1, ht0, cdW_eq, hk]; exact ⟨rfl, rfl⟩), Weak.mk' [] (by decide) rfl (by simp [eget, enA, h2, hk]) (by simp)⟩
      | false => exact ⟨_, _, (by simp (decide := true) [rgΓ, rcheckS, h2i, h1i, e1, ht0, cdW_eq, hk]; exact ⟨rfl, rfl⟩), Weak.mk' [] (by decide) rfl (by simp [eget, enA, noE, h2, hk]) (by simp)⟩
    · have h2i : ¬ ((b.toNat : Nat) : Int) = 2 := by omega
      by_cases h1 : b.toNat = 1
      · have h1i : ((b.toNat : Nat) : Int) = 1 := by omega
        obtain ⟨m, x, c, hg⟩ : ∃ m x c, Vy.get (b :: r) 1 = (m, x, c) := ⟨_, _, _, rfl⟩
        by_cases hc : c = 0
        · subst hc
          obtain ⟨g0, g1, g2⟩ := Vy.get_ok _ _ _ _ hg
          have gv := (Vy.get_put _ 1 m x hg).2
          have x0 : (0 : Int) ≤ x := by omega
          have x1 : x ≤ (r.length : Int) + 1 := by simpa using g2
          by_cases hm : 4294967295 < m
          · have hmi : (4294967296 : Int) ≤ m := by omega
            exact ⟨_, _, (by simp (decide := true) [rgΓ, rcheckS, getS, h2i, h1i, e1, hg, hr2, hmi, x0, x1]; exact ⟨rfl, rfl⟩), Weak.mk' [] (by decide) rfl (by simp [eget, enA, noE, h1, hg, hm]) (by simp)⟩
          · have hmi : ¬ (4294967296 : Int) ≤ m := by omega
            have c2 : IntKind.u32.wrap (m : Int) = m := wr_u32 (by omega) (by omega)
            obtain ⟨w, hw⟩ : ∃ w, (b :: r).drop x.toNat = w := ⟨_, rfl⟩
            have ht : w.take (r.length + 1 - x.toNat) = w := by
              apply List.take_of_length_le
              rw [← hw, List.length_drop, List.length_cons]
              omega
            cases hk : okW w with
            | true => exact ⟨_, _, (by simp (decide := true) [rgΓ, rcheckS, getS, h2i, h1i, e1, hg, hr2, hmi, x0, x1, hw, ht, cdW_eq, hk, c2]; exact ⟨rfl, rfl⟩), Weak.mk' [] (by decide) rfl (by simp [eget, enA, noE, h1, hg, hm, hw, hk]) (by simp)⟩
            | false => exact ⟨_, _, (by simp (decide := true) [rgΓ, rcheckS, getS, h2i, h1i, e1, hg, hr2, hmi, x0, x1, hw, ht, cdW_eq, hk, c2]; exact ⟨rfl, rfl⟩), Weak.mk' [] (by decide) rfl (by simp [eget, enA, noE, h1, hg, hm, hw, hk]) (by simp)⟩
        · exact ⟨_, _, (by simp (decide := true) [rgΓ, rcheckS, getS, h2i, h1i, e1, hg, hr2, hc]; exact ⟨rfl, rfl⟩), Weak.mk' [] (by decide) rfl (by simp [eget, enA, noE, h1, hg, hc]) (by simp)⟩
      · have h1i : ¬ ((b.toNat : Nat) : Int) = 1 := by omega
        have h1b : (((b.toNat : Nat) : Int) == 1) = false := by simpa using h1i
        have h2b : (((b.toNat : Nat) : Int) == 2) = false := by simpa using h2i
        have h1n : (((b.toNat : Nat) : Int) != 1) = true := by simpa using h1i
        have h2n : (((b.toNat : Nat) : Int) != 2) = true := by simpa using h2i
        exact ⟨_, _, (by simp (decide := true) [rgΓ, h2i, h1i, h1b, h2b, h1n, h2n, e1]; exact ⟨rfl, rfl⟩), Weak.mk' [] (by decide) rfl (by simp [eget, enA, noE, h1, h2]) (by simp)⟩
def egetS : Summ := pureS fun | [.str s] => if s.length ≤ 1000000 then some (.tuple [.agg (enA (eget s).1), .int .i64 (eget s).2]) else none | _ => none
theorem eget_sound : Sound Tryz.prog 108 egetS := by
  refine sound_pure (enter_of Tryz.func108 rfl (by decide)) fun args v h => ?_
  split at h <;> try cases h
  rename_i s
  split at h <;> cases h
  rename_i hn
  exact ⟨eget_ct s hn, rfl, rfl⟩
theorem reget_sound : Sound Tryz.prog 138 egetS := by
  refine sound_pure (enter_of Tryz.func138 rfl (by decide)) fun args v h => ?_
  split at h <;> try cases h
  rename_i s
  split at h <;> cases h
  rename_i hn
  exact ⟨reget_ct s hn, rfl, rfl⟩
end Go.Proofs.YthafeihjlamhhaaGreatDoor
namespace Go.Proofs.YthafeihjlamhhaaGreatDoor
open Go
set_option maxRecDepth 100000
def Rp.one (s : List UInt8) (a : Int) : Option (En × Int) := if (Fr.get s a).2.2 = 0 ∧ (eget (Fr.get s a).1).2 = 0 then some ((eget (Fr.get s a).1).1, (Fr.get s a).2.1) else none
def Rp.rdF (s : List UInt8) : Nat → Int → List En × Int
  | 0, a => ([], a)
  | k + 1, a => match Rp.one s a with
    | some (x, b) => (x :: (Rp.rdF s k b).1, (Rp.rdF s k b).2)
    | none => ([], a)
def Rp.rd (s : List UInt8) (a : Int) : List En × Int := Rp.rdF s ((s.length : Int) + 1 - a).toNat a
theorem Rp.one_way {s : List UInt8} {a : Int} {x : En} {b : Int} (h : Rp.one s a = some (x, b)) : 0 ≤ a ∧ a < b ∧ b ≤ s.length ∧ (Fr.get s a).2.2 = 0 ∧ (eget (Fr.get s a).1) = (x, 0) ∧ b = (Fr.get s a).2.1 := by
  unfold Rp.one at h
  split at h
  · rename_i hc
    cases h
    obtain ⟨h1, h2, h3⟩ := Fr.get_way s a hc.1
    exact ⟨h1, h2, h3, hc.1, Prod.ext rfl hc.2, rfl⟩
  · cases h
theorem Rp.rdF_fuel (s : List UInt8) : ∀ (k m : Nat) (a : Int), (s.length : Int) < a + k → (s.length : Int) < a + m → a ≤ s.length → Rp.rdF s k a = Rp.rdF s m a
  | 0, _, a, h, _, h3 => by omega
  | _ + 1, 0, a, _, h, h3 => by omega
  | k + 1, m + 1, a, h1, h2, h3 => by
    unfold Rp.rdF
    cases h : Rp.one s a with
    | none => rfl
    | some y =>
      obtain ⟨x, b⟩ := y
      obtain ⟨_, w2, w3, _⟩ := Rp.one_way h
      dsimp only
      rw [Rp.rdF_fuel s k m b (by push_cast at h1; omega) (by push_cast at h2; omega) w3]
theorem Rp.rd_some {s : List UInt8} {a : Int} {x : En} {b : Int} (h : Rp.one s a = some (x, b)) : Rp.rd s a = (x :: (Rp.rd s b).1, (Rp.rd s b).2) := by
  obtain ⟨w1, w2, w3, _⟩ := Rp.one_way h
  obtain ⟨k, hk⟩ : ∃ k : Nat, ((s.length : Int) + 1 - a).toNat = k + 1 := ⟨((s.length : Int) - a).toNat, by omega⟩
  have e : Rp.rdF s k b = Rp.rd s b := Rp.rdF_fuel s _ _ _ (by omega) (by omega) w3
  unfold Rp.rd
  rw [hk]
  conv => lhs; unfold Rp.rdF
  rw [h]
  dsimp only
  rw [e]
  rfl
theorem Rp.rd_none {s : List UInt8} {a : Int} (ha : a ≤ s.length) (h : Rp.one s a = none) : Rp.rd s a = ([], a) := by
  obtain ⟨k, hk⟩ : ∃ k : Nat, ((s.length : Int) + 1 - a).toNat = k + 1 := ⟨((s.length : Int) - a).toNat, by omega⟩
  unfold Rp.rd
  rw [hk]
  conv => lhs; unfold Rp.rdF
  rw [h]
def Rp.bytes (l : List En) : List UInt8 := (l.map fun x => (Fr.put (eput x).1).1).flatten
theorem Rp.bytes_le (l : List En) : (Rp.bytes l).length ≤ 313 * l.length := by
  induction l with
  | nil => simp [Rp.bytes]
  | cons x l ih =>
    simp only [Rp.bytes, List.map_cons, List.flatten_cons, List.length_append, List.length_cons] at ih ⊢
    have := Fr.put_le (eput x).1
    omega
theorem Rp.bytes_snoc (l : List En) (x : En) : Rp.bytes (l ++ [x]) = Rp.bytes l ++ (Fr.put (eput x).1).1 := by simp [Rp.bytes]
def Rp.At (s : List UInt8) (p : List En × Int) : Prop := 0 ≤ p.2 ∧ p.2 ≤ s.length ∧ (p.1.length : Int) ≤ p.2 ∧ Rp.rd s 0 = (p.1 ++ (Rp.rd s p.2).1, (Rp.rd s p.2).2)
theorem Rp.at0 (s : List UInt8) : Rp.At s ([], 0) := ⟨Int.le_refl _, by dsimp only; omega, by simp, by simp⟩
theorem Rp.at_next {s : List UInt8} {acc : List En} {a : Int} {x : En} {b : Int} (h : Rp.At s (acc, a)) (h1 : Rp.one s a = some (x, b)) : Rp.At s (acc ++ [x], b) := by
  obtain ⟨g1, g2, g3, g4⟩ := h
  obtain ⟨w1, w2, w3, _⟩ := Rp.one_way h1
  dsimp only at g1 g2 g3 g4
  refine ⟨by dsimp only; omega, w3, by simp; omega, ?_⟩
  dsimp only
  rw [g4, Rp.rd_some h1]
  simp
theorem Rp.at_end {s : List UInt8} {acc : List En} {a : Int} (h : Rp.At s (acc, a)) (h1 : Rp.one s a = none) : Rp.rd s 0 = (acc, a) := by
  obtain ⟨g1, g2, g3, g4⟩ := h
  dsimp only at g1 g2 g3 g4
  rw [g4, Rp.rd_none g2 h1]
  simp
theorem Rp.get_le (s : List UInt8) (a : Int) : (Fr.get s a).1.length ≤ 300 := by
  unfold Fr.get
  repeat' split
  all_goals first | (simp; done) | (simp only [List.length_take]; omega)
end Go.Proofs.YthafeihjlamhhaaGreatDoor
