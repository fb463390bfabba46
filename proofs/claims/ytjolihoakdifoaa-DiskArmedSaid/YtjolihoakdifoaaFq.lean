/- Contracts of a file's methods: Sync, Stay. -/
import Derived.Test.YtjolihoakdifoaaFp
import Derived.Test.YtjolihoakdifoaaCb
namespace Go.Proofs.Ytjolihoakdifoaa
open Go
set_option maxRecDepth 100000
attribute [-simp] drawOk_eq adraw qrun acode aops

/-- A file without acts is closed. -/
theorem Aft.closeD {n0 : Nat} {F : List AV} {H : AHeap} {K : List AV → AHeap → Prop} (s : List UInt8) (b : Nat) (hb : H[b]? = some (.cells true [.str s, .nils, .str s])) (hn : n0 ≤ H.length)
    (h : Aft n0 F (closeH H b [H.length] true (⟨s, []⟩ : PF).blks) K) : Aft n0 F H K := by
  have hbl : b < H.length := (List.getElem?_eq_some_iff.1 hb).1
  exact Aft.closeF (⟨s, []⟩ : PF) b H.length [] (x := .nils) (o := true) hb rfl (fun h => absurd h (by omega)) rfl (by simp) (by simp; omega) hn h

set_option maxHeartbeats 4000000 in
theorem fsync_ct (f : PF) : Ct Try.prog 9 [.ptr 0 0] [.obj true f.blks] (.int .i64 0) [.obj true (⟨f.now, []⟩ : PF).blks] := by
  have hΓ := fiΓ_ok
  refine ct_of_sim Try.func9 rfl ?_
  simp only [Try.ntmps9, List.length_cons, List.length_nil, Nat.reduceAdd, Nat.reduceSub, List.replicate, List.cons_append, List.nil_append]
  refine Sim.aft (Aft.open (b := 0) rfl (by simp) (Aft.done (by simp [openH]) ?_))
  rw [open_file]
  obtain ⟨R, eR⟩ : ∃ R, rowF (List.length ([] : AHeap) + 2) f.acts = R := ⟨_, rfl⟩
  obtain ⟨X, eX⟩ : ∃ X, f.acts.map FAct.box = X := ⟨_, rfl⟩
  rw [eR, eX]
  refine Sim.step hmix hΓ (n := 0) (by simp; exact ⟨rfl, rfl⟩) (by simp) ?_
  refine Sim.step hmix hΓ (n := 0) (by simp; exact ⟨rfl, rfl⟩) (by simp) ?_
  refine Sim.step hmix hΓ (n := 0) (by simp [fiInl, Try.f44]; exact ⟨rfl, rfl⟩) (by simp) ?_
  refine Sim.aft (Aft.closeD f.now 0 rfl (by simp) (Aft.weak (Fn := List.replicate 11 .top) (Hn := [.obj true (⟨f.now, []⟩ : PF).blks]) (Weak.mk' [0] (by decide) (by decide) (AWs_tops _ _ _ rfl) (AWg_closed (b := 0) (by simp) _ _ rfl fun i c x h1 h2 => ?_)) (by simp) (Aft.done (by simp) ?_)))
  · match i, h1, h2 with
    | 0, h1, h2 => cases h1; cases h2; exact .inl ⟨rfl, rfl⟩
  refine Sim.exec hmix hΓ (n := 0) (by simp; exact ⟨rfl, rfl, rfl⟩) (by simp) ?_
  exact ⟨.inr rfl, _, by simp [Try.f9] <;> rfl, Weak.mk' [0] (by decide) (by decide) (by simp) (by simp [AWb])⟩

/-- A file within bounds. -/
structure PF.ok (f : PF) (B : Nat) : Prop where
  fits : fits f.d f.acts
  acts : f.acts.length ≤ B
  len : ∀ i, (runs f.d (f.acts.take i)).length ≤ B

def inI (n a b : Int) : Int := max a (min n b)

/-- What stays. -/
def PF.stays (f : PF) (done part : Int) : List UInt8 :=
  let n := (inI done 0 f.acts.length).toNat
  runs f.d (f.acts.take n) ++ (match f.acts[n]? with
    | some (.add m) => m.take (inI part 0 m.length).toNat
    | _ => [])

theorem runs_take (s : List UInt8) (l : List FAct) (i : Nat) (h : i < l.length) : runs s (l.take (i + 1)) = l[i].run (runs s (l.take i)) := by
  rw [List.take_succ_eq_append_getElem h, runs_append]; rfl

theorem fits_at {s : List UInt8} {l : List FAct} (h : fits s l) {i n : Nat} (hi : l[i]? = some (.cut n)) : n ≤ (runs s (l.take i)).length := by
  have hil : i < l.length := (List.getElem?_eq_some_iff.1 hi).1
  have e : l = l.take i ++ l[i] :: l.drop (i + 1) := by rw [← List.drop_eq_getElem_cons hil, List.take_append_drop]
  rw [e, fits_append] at h
  have h2 := h.2
  have : l[i] = .cut n := by rw [List.getElem?_eq_getElem hil] at hi; exact Option.some.inj hi
  rw [this] at h2
  exact h2.1

/-- An act, done to bytes. -/
def boxOf : ABlk → Option AV
  | .obj false [.cells true [x]] => some x
  | _ => none
theorem boxOf_eq {B : ABlk} {x : AV} (h : boxOf B = some x) : B = .obj false [.cells true [x]] := by
  unfold boxOf at h
  split at h <;> cases h
  rfl
def addS : Summ := fun args H => match args with
  | [.str s, .int .i64 p, .ptr b 0] => match boxOf (H.getD b .dead) with
    | some (.str m) => if s.length + m.length ≤ 1000000000000 then some (.str (s ++ m.take (inI p 0 m.length).toNat), H, []) else none
    | _ => none
  | _ => none
def cutActS : Summ := fun args H => match args with
  | [.str s, .int .i64 p, .ptr b 0] => match boxOf (H.getD b .dead) with
    | some (.int .i64 n) => if 0 ≤ n ∧ n ≤ s.length then some (.str (if p < 4611686018427387904 then s else s.take n.toNat), H, []) else none
    | _ => none
  | _ => none

/-- A contract that looks at one frozen block. -/
theorem ct_look {P : Program} {f : FuncId} {xs : List AV} {s : AHeap} {v : AV} (h : Ct P f (xs ++ [.ptr 0 0]) [.obj false s] v [.obj false s]) (hx : flatsA xs = true) (hv : flatT v = true) {H : AHeap} {b : Nat} (hb : H[b]? = some (.obj false s)) :
    Ct P f (xs ++ [.ptr b 0]) H v H := by
  have hbl : b < H.length := (List.getElem?_eq_some_iff.1 hb).1
  have ha : ∀ ys : List AV, flatsA ys = true → AWs [b] (ys ++ [.ptr 0 0]) (ys ++ [.ptr b 0]) := by
    intro ys
    induction ys with
    | nil => intro _; exact ⟨⟨rfl, rfl⟩, trivial⟩
    | cons y ys ih =>
      intro h
      simp only [flatsA, List.all_cons, Bool.and_eq_true] at h
      exact ⟨AW_free y h.1, ih h.2⟩
  have := ct_frame (H := H) (args := xs ++ [.ptr b 0]) h [b] (by simp) (ha xs hx) ⟨by rw [List.getD_eq_getElem?_getD, hb]; exact ⟨rfl, rfl⟩, hbl, trivial⟩ rfl
  rw [reA_flatT _ hv] at this
  simpa [setOwn, ABlk.own, reB] using this

theorem add_ct (s m : List UInt8) (p : Int) (hl : s.length + m.length ≤ 1000000000000) : Ct Try.prog 42 [.str s, .int .i64 p, .ptr 0 0] [.obj false [.cells true [.str m]]] (.str (s ++ m.take (inI p 0 m.length).toNat)) [.obj false [.cells true [.str m]]] := by
  obtain ⟨z, hz⟩ : ∃ z, (inI p 0 m.length).toNat = z := ⟨_, rfl⟩
  have hz2 : max 0 (min p (m.length : Int)) = z := by unfold inI at hz; omega
  have hz3 : z ≤ m.length := by unfold inI at hz; omega
  have hz4 : (z : Int) ≤ (m.length : Int) := by omega
  have c1 : m.length ≤ 9223372036854775807 := by omega
  have c4 : s.length + (m.take z).length ≤ 9223372036854775807 := by simp; omega
  have c5 : s.length + z ≤ 9223372036854775807 := by omega
  rw [hz]
  refine ct_runE hmix fiΓ_ok (n := 0) Try.func42 ?_
  unfold Try.f42
  exact ⟨_, _, (by simp (decide := true) [-minA, minA_min, minA_max, fiInl, Try.f43, hz2, hz3, hz4, c5]; exact ⟨rfl, rfl⟩), Weak.mk' [0] (by decide) rfl (by simp) (by simp [AWb])⟩

theorem cutAct_ct (s : List UInt8) (n p : Int) (h0 : 0 ≤ n) (h1 : n ≤ s.length) : Ct Try.prog 85 [.str s, .int .i64 p, .ptr 0 0] [.obj false [.cells true [.int .i64 n]]] (.str (if p < 4611686018427387904 then s else s.take n.toNat)) [.obj false [.cells true [.int .i64 n]]] := by
  refine ct_runE hmix fiΓ_ok (n := 0) Try.func85 ?_
  unfold Try.f85
  by_cases hp : p < 4611686018427387904
  · rw [if_pos hp]
    exact ⟨_, _, (by simp (decide := true) [hp]; exact ⟨rfl, rfl⟩), Weak.mk' [0] (by decide) rfl (by simp) (by simp [AWb])⟩
  · rw [if_neg hp]
    exact ⟨_, _, (by simp (decide := true) [hp, h0, h1]; exact ⟨rfl, rfl⟩), Weak.mk' [0] (by decide) rfl (by simp) (by simp [AWb])⟩

theorem add_sound : Sound Try.prog 42 addS := by
  refine ⟨enter_of Try.func42 rfl (by decide), fun args H v H' W h => ?_, fun args H v H' W h => ?_⟩
  · unfold addS at h
    split at h <;> try cases h
    rename_i s p b
    split at h <;> try cases h
    rename_i m hb
    split at h <;> cases h
    rename_i hl
    have hb2 : H[b]? = some (.obj false [.cells true [.str m]]) := by
      have := boxOf_eq hb
      rw [List.getD_eq_getElem?_getD] at this
      cases hx : H[b]? with
      | none => rw [hx] at this; cases this
      | some y => rw [hx] at this; exact congrArg some this
    exact ct_look (xs := [.str s, .int .i64 p]) (add_ct s m p hl) rfl rfl hb2
  · unfold addS at h
    split at h <;> try cases h
    split at h <;> try cases h
    split at h <;> cases h
    exact ⟨Nat.le_refl _, fun _ _ _ => rfl⟩

theorem cutAct_sound : Sound Try.prog 85 cutActS := by
  refine ⟨enter_of Try.func85 rfl (by decide), fun args H v H' W h => ?_, fun args H v H' W h => ?_⟩
  · unfold cutActS at h
    split at h <;> try cases h
    rename_i s p b
    split at h <;> try cases h
    rename_i n hb
    split at h <;> cases h
    rename_i hl
    have hb2 : H[b]? = some (.obj false [.cells true [.int .i64 n]]) := by
      have := boxOf_eq hb
      rw [List.getD_eq_getElem?_getD] at this
      cases hx : H[b]? with
      | none => rw [hx] at this; cases this
      | some y => rw [hx] at this; exact congrArg some this
    exact ct_look (xs := [.str s, .int .i64 p]) (cutAct_ct s n p hl.1 hl.2) rfl rfl hb2
  · unfold cutActS at h
    split at h <;> try cases h
    split at h <;> try cases h
    split at h <;> cases h
    exact ⟨Nat.le_refl _, fun _ _ _ => rfl⟩

def stInl : List FuncId := [43, 44]
theorem stΓ_ok : GOk Try.prog (runG Try.prog (gams [(42, addS), (85, cutActS)]) 0 stInl 4) := gok_run hmix (goks_cons add_sound (goks_cons cutAct_sound goks_nil)) 0 stInl 4

set_option maxHeartbeats 8000000 in
theorem fstay_ct (f : PF) (done part : Int) (hok : f.ok 1000000000000) (hp : part ≤ 4611686018427387903) :
    Ct Try.prog 53 [.ptr 0 0, .agg [.int .i64 done, .int .i64 part]] [.obj true f.blks] (.int .i64 0) [.obj true (⟨f.stays done part, []⟩ : PF).blks] := by
  have hΓ := stΓ_ok
  refine ct_of_sim Try.func53 rfl ?_
  simp only [Try.ntmps53, List.length_cons, List.length_nil, Nat.reduceAdd, Nat.reduceSub, List.replicate, List.cons_append, List.nil_append]
  refine Sim.aft (Aft.open (b := 0) rfl (by simp) (Aft.done (by simp [openH]) ?_))
  rw [open_file]
  obtain ⟨hfit, hk, hlen⟩ := hok
  obtain ⟨R, eR⟩ : ∃ R, rowF (List.length ([] : AHeap) + 2) f.acts = R := ⟨_, rfl⟩
  obtain ⟨X, eX⟩ : ∃ X, f.acts.map FAct.box = X := ⟨_, rfl⟩
  have hR : R.length = f.acts.length := by rw [← eR]; simp
  have hX : X.length = f.acts.length := by rw [← eX]; simp
  have eR2 : R = rowF 2 f.acts := by rw [← eR]; rfl
  have gR : ∀ (i : Nat) (a : FAct), f.acts[i]? = some a → ∀ h, R[i]'h = a.fn (i + 2) := by
    intro i a hi h
    have hil : i < f.acts.length := (List.getElem?_eq_some_iff.1 hi).1
    have := rowF_get f.acts 2 i hil
    rw [← eR2, List.getElem?_eq_getElem h] at this
    rw [List.getElem?_eq_getElem hil] at hi
    rw [Option.some.inj this, Option.some.inj hi, Nat.add_comm]
  have gX : ∀ (i : Nat) (a : FAct), f.acts[i]? = some a → X[i]? = some a.box := by
    intro i a hi
    rw [← eX, List.getElem?_map, hi]; rfl
  rw [eR, eX]
  obtain ⟨k, ek⟩ : ∃ k, f.acts.length = k := ⟨_, rfl⟩
  rw [ek] at hR hX hk ⊢
  obtain ⟨s, es⟩ : ∃ s, f.now = s := ⟨_, rfl⟩
  rw [es]
  refine Sim.step hmix hΓ (n := 0) (by simp; exact ⟨rfl, rfl⟩) (by simp) ?_
  refine Sim.step hmix hΓ (n := 0) (by simp; exact ⟨rfl, rfl⟩) (by simp) ?_
  refine Sim.step hmix hΓ (n := 0) (by simp; exact ⟨rfl, rfl⟩) (by simp) ?_
  obtain ⟨n, en⟩ : ∃ n, (inI done 0 k).toNat = n := ⟨_, rfl⟩
  have en2 : max 0 (min done (k : Int)) = n := by unfold inI at en; omega
  have hnk : n ≤ k := by unfold inI at en; omega
  have hnk2 : (n : Int) ≤ (k : Int) := by omega
  refine Sim.step hmix hΓ (n := 0) (by simp (decide := true) [-minA, minA_min, minA_max, stInl, Try.f43, hX, en2]; first | exact ⟨rfl, rfl⟩ | exact ⟨by kernel_rfl, rfl, rfl⟩) (by simp) ?_
  refine Sim.seq (Sim.step hmix hΓ (n := 0) (by simp [hnk2]; exact ⟨rfl, rfl⟩) (by simp) ?_)
  obtain ⟨HH, eH⟩ : ∃ HH, (ABlk.cells true [AV.str f.d, AV.sl 1 0 k 1 false, AV.str s] :: ABlk.cells true R :: (X ++ [ABlk.cells true [AV.int IntKind.i64 done, AV.int IntKind.i64 part]]) : AHeap) = HH := ⟨_, rfl⟩
  refine Sim.block (Sim.loopS (fun i : Nat => i ≤ n)
    (fun i => [.ptr 0 0, .top, .top, .ptr (k + 1 + 1) 0, .int .i64 0, .str (runs f.d (f.acts.take i)), .int .i64 n] ++ List.replicate 21 .top ++ [.sl 1 0 n 1 false, .int .i64 n, .int .i64 i] ++ List.replicate 29 .top)
    (fun _ => HH) (fun i => n - i) 0 (by simp) (by simp) ⟨by simp [runs], eH⟩ fun i hi => ?_)
  by_cases hlt : i < n
  · have hik : i < f.acts.length := by omega
    obtain ⟨a, ha⟩ : ∃ a, f.acts[i]? = some a := ⟨_, List.getElem?_eq_getElem hik⟩
    have hae : f.acts[i] = a := by rw [List.getElem?_eq_getElem hik] at ha; exact Option.some.inj ha
    have q1 := gR i a ha
    have q2 := gX i a ha
    have hiR : i < R.length := by omega
    have hiX : i < X.length := by omega
    have q3 : (X ++ [ABlk.cells true [AV.int IntKind.i64 done, AV.int IntKind.i64 part]])[i]? = some a.box := by rw [List.getElem?_append_left hiX]; exact q2
    have e1 := runs_take f.d f.acts i hik
    rw [hae] at e1
    have l1 := hlen (i + 1)
    have l2 := hlen i
    rw [e1] at l1
    have y1 : IntKind.i64.wrap ((i : Int) + 1) = i + 1 := wr_i64 (by omega) (by omega)
    have hfc := fun n h => fits_at hfit (i := i) (n := n) h
    obtain ⟨u, hu⟩ : ∃ u, runs f.d (f.acts.take i) = u := ⟨_, rfl⟩
    rw [hu] at e1 l1 l2 hfc ⊢
    rw [← eH]
    cases a with
    | add m =>
      simp only [FAct.run, List.length_append] at l1
      simp only [FAct.fn] at q1
      simp only [FAct.box] at q3
      have c5 : u.length + m.length ≤ 1000000000000 := by omega
      have c6 : m.take (inI 4611686018427387904 0 m.length).toNat = m := List.take_of_length_le (by unfold inI; omega)
      refine Sim.exec hmix hΓ (n := 0) (by simp (decide := true) [stInl, addS, boxOf, hlt, hiR, q1, q3, y1, c5, c6]; exact ⟨rfl, rfl, rfl⟩) (by simp) ?_
      exact ⟨i + 1, by omega, ⟨by simp [e1, FAct.run], by first | exact eH | rfl⟩, by omega⟩
    | cut z =>
      simp only [FAct.fn] at q1
      simp only [FAct.box] at q3
      have hz := hfc z ha
      refine Sim.exec hmix hΓ (n := 0) (by simp (decide := true) [stInl, cutActS, boxOf, hlt, hiR, q1, q3, y1, hz]; exact ⟨rfl, rfl, rfl⟩) (by simp) ?_
      exact ⟨i + 1, by omega, ⟨by simp [e1, FAct.run], by first | exact eH | rfl⟩, by omega⟩
  have : i = n := by omega
  subst this
  rw [← eH]
  refine Sim.exec hmix hΓ (n := 0) (by simp; exact ⟨rfl, rfl, rfl⟩) (by simp) ?_
  dsimp only
  rw [if_pos rfl]
  -- the next act
  obtain ⟨T, hT⟩ : ∃ T, f.stays done part = T := ⟨_, rfl⟩
  have hT2 : T = runs f.d (f.acts.take i) ++ (match f.acts[i]? with
    | some (.add m) => m.take (inI part 0 m.length).toNat
    | _ => []) := by rw [← hT]; unfold PF.stays; simp only [ek, en]
  rw [hT]
  obtain ⟨u, hu⟩ : ∃ u, runs f.d (f.acts.take i) = u := ⟨_, rfl⟩
  have l2 := hlen i
  rw [hu] at hT2 l2 ⊢
  have q4 : (X ++ [ABlk.cells true [AV.int IntKind.i64 done, AV.int IntKind.i64 part]])[k]? = some (ABlk.cells true [AV.int IntKind.i64 done, AV.int IntKind.i64 part]) := by rw [← hX, List.getElem?_append_right (Nat.le_refl _)]; simp
  refine Sim.seq (Sim.mono (Q := fun e F' H' => e = .normal ∧ LessF ([.ptr 0 0] ++ List.replicate 4 .top ++ [.str T] ++ List.replicate 54 .top) F' ∧ H' = ABlk.cells true [AV.str f.d, AV.sl 1 0 k 1 false, AV.str s] :: ABlk.cells true R :: (X ++ [ABlk.cells true [AV.int IntKind.i64 done, AV.int IntKind.i64 part]])) ?_ ?_)
  · by_cases hlast : i < k
    · have hik : i < f.acts.length := by omega
      obtain ⟨a, ha⟩ : ∃ a, f.acts[i]? = some a := ⟨_, List.getElem?_eq_getElem hik⟩
      have hae : f.acts[i] = a := by rw [List.getElem?_eq_getElem hik] at ha; exact Option.some.inj ha
      have q1 := gR i a ha
      have q2 := gX i a ha
      have hiR : i < R.length := by omega
      have hiX : i < X.length := by omega
      have q3 : (X ++ [ABlk.cells true [AV.int IntKind.i64 done, AV.int IntKind.i64 part]])[i]? = some a.box := by rw [List.getElem?_append_left hiX]; exact q2
      have e1 := runs_take f.d f.acts i hik
      rw [hae, hu] at e1
      have l1 := hlen (i + 1)
      rw [e1] at l1
      have hlast2 : (i : Int) < (k : Int) := by omega
      have p1 : min part 4611686018427387903 = part := by omega
      rw [ha] at hT2
      cases a with
      | add m =>
        simp only [FAct.run, List.length_append] at l1
        simp only [FAct.fn] at q1
        simp only [FAct.box] at q3
        simp only at hT2
        obtain ⟨z, hz⟩ : ∃ z, (inI part 0 m.length).toNat = z := ⟨_, rfl⟩
        rw [hz] at hT2
        have c5 : u.length + m.length ≤ 1000000000000 := by omega
        refine Sim.exec hmix hΓ (n := 0) (by simp (decide := true) [-minA, minA_min, stInl, addS, boxOf, hlast, hiR, q1, q3, q4, p1, hz, c5]; exact ⟨by kernel_rfl, rfl, rfl, rfl⟩) (by simp) ?_
        exact ⟨rfl, by simp [hT2], rfl⟩
      | cut z =>
        simp only [FAct.fn] at q1
        simp only [FAct.box] at q3
        simp only [List.append_nil] at hT2
        have p2 : part < 4611686018427387904 := by omega
        have hz := fits_at hfit ha
        rw [hu] at hz
        refine Sim.exec hmix hΓ (n := 0) (by simp (decide := true) [-minA, minA_min, stInl, cutActS, boxOf, hlast, hiR, q1, q3, q4, p1, p2, hz]; exact ⟨by kernel_rfl, rfl, rfl, rfl⟩) (by simp) ?_
        exact ⟨rfl, by simp [hT2], rfl⟩
    · have ha : f.acts[i]? = none := List.getElem?_eq_none (by omega)
      rw [ha] at hT2
      simp only [List.append_nil] at hT2
      refine Sim.exec hmix hΓ (n := 0) (by simp [hlast]; exact ⟨rfl, rfl, rfl⟩) (by simp) ?_
      exact ⟨rfl, by simp [hT2], rfl⟩
  rintro e F' H' hl ⟨rfl, hF, rfl⟩
  dsimp only
  refine Sim.less hF ?_
  refine Sim.step hmix hΓ (n := 0) (by simp [stInl, Try.f44]; exact ⟨rfl, rfl⟩) (by simp) ?_
  refine Sim.aft (Aft.closeD T 0 rfl (by simp) (Aft.weak (Fn := List.replicate 60 .top) (Hn := [.obj true (⟨T, []⟩ : PF).blks]) (Weak.mk' [0] (by decide) (by decide) (AWs_tops _ _ _ rfl) (AWg_closed (b := 0) (by simp) _ _ rfl fun i c x h1 h2 => ?_)) (by simp) (Aft.done (by simp) ?_)))
  · match i, h1, h2 with
    | 0, h1, h2 => cases h1; cases h2; exact .inl ⟨rfl, rfl⟩
  refine Sim.exec hmix hΓ (n := 0) (by simp; exact ⟨rfl, rfl, rfl⟩) (by simp) ?_
  exact ⟨.inr rfl, _, by simp [Try.f53] <;> rfl, Weak.mk' [0] (by decide) (by decide) (by simp) (by simp [AWb])⟩

end Go.Proofs.Ytjolihoakdifoaa
