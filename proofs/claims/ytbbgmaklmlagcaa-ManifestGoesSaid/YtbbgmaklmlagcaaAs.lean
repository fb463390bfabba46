/- The abstract run of code, and that the code runs so. -/
import Derived.Test.YtbbgmaklmlagcaaAa
namespace Go.Proofs.Ytbbgmaklmlagcaa

def buildA (P : Program) (F : List AV) (t : TypeId) (ps : Array (Nat × Operand)) : Option AV :=
  match P.underlying t, (zeroA P t).bind cellsA with
  | some (.struct fs), some z =>
    if fs.toList.all fun f => (sizeA P f.type).isSome then
      (fillA (fun i => (fs[i]?).map fun f => (f.offset, (sizeA P f.type).getD 0)) z (ps.toList.map fun (i, x) => (i, ev F x))).map .agg
    else none
  | some (.array _ e), some z =>
    match sizeA P e with
    | some sz => (fillA (fun i => some (i * sz, sz)) z (ps.toList.map fun (i, x) => (i, ev F x))).map .agg
    | none => none
  | _, _ => none

theorem parts_ok {j : Inj} {F : List AV} {a : Act} (hF : VRs j F a.tmps.toList) (ps : Array (Nat × Operand)) :
    (ps.toList.map fun (i, x) => (i, ev F x)).length = (ps.map fun (i, x) => (i, a.eval x)).toList.length ∧
    ∀ (k : Nat) p c, (ps.toList.map fun (i, x) => (i, ev F x))[k]? = some p → (ps.map fun (i, x) => (i, a.eval x)).toList[k]? = some c → p.1 = c.1 ∧ VR j p.2 c.2 := by
  refine ⟨by simp, fun k p c hp hc => ?_⟩
  simp only [List.getElem?_map, Array.toList_map] at hp hc
  cases hg : ps.toList[k]? with
  | none => rw [hg] at hp; cases hp
  | some q =>
    rw [hg] at hp hc
    obtain ⟨qi, qx⟩ := q
    cases hp; cases hc
    exact ⟨rfl, ev_ok hF qx⟩

theorem run_places {P : Program} (w : World) : ∀ (fs : List Field), (fs.all fun f => (sizeA P f.type).isSome) = true →
    Sem.run P (fs.mapM fun f => do pure (f.offset, ← sizeOf f.type)) w = .ok (fs.map fun f => (f.offset, (sizeA P f.type).getD 0)) w
  | [], _ => rfl
  | f :: fs, h => by
    simp only [List.all_cons, Bool.and_eq_true] at h
    obtain ⟨i, hi⟩ := Option.isSome_iff_exists.1 h.1
    rw [List.mapM_cons]
    have e : Sem.run P (do pure (f.offset, ← sizeOf f.type)) w = .ok (f.offset, i) w := by
      rw [rb (sizeA_ok hi w)]; rfl
    rw [rb e, rb (run_places w fs h.2)]
    simp [hi]

theorem buildA_ok {P : Program} {j : Inj} {F : List AV} {a : Act} (hF : VRs j F a.tmps.toList) {t : TypeId} {ps : Array (Nat × Operand)} {r : AV} (h : buildA P F t ps = some r) (w : World) :
    ∃ cv, (Instr.build t (ps.map fun (i, x) => (i, a.eval x))).run P w = .ok cv w ∧ VR j r cv := by
  unfold buildA at h
  obtain ⟨hpl, hpp⟩ := parts_ok hF ps
  unfold Instr.build
  split at h
  · rename_i fs z ht hz
    obtain ⟨za, hza, hzc⟩ := Option.bind_eq_some_iff.1 hz
    obtain ⟨i, cz, hi, hiz, hr, hv⟩ := zeroA_ok hza j w
    have hcz := cellsA_ok hzc hv
    split at h
    rotate_left
    · cases h
    rename_i hall
    obtain ⟨l, hl, rfl⟩ := Option.map_eq_some_iff.1 h
    obtain ⟨cr, hf, hcr⟩ := fillA_ok (j := j) _ _ _ _ _ hl hcz hpl hpp
    refine ⟨.agg cr, ?_, cr, rfl, hcr⟩
    rw [rb hr, rb (run_und ht w)]
    dsimp only
    have e : Sem.run P (fs.mapM fun f => do pure (f.offset, ← sizeOf f.type)) w = .ok (fs.map fun f => (f.offset, (sizeA P f.type).getD 0)) w := by
      rw [Array.mapM_eq_mapM_toList]
      show Sem.run P (List.toArray <$> fs.toList.mapM _) w = _
      rw [map_eq_pure_bind, rb (run_places w fs.toList hall)]
      show Result.ok _ w = _
      congr 1
      apply Array.ext'
      simp
    rw [rb e]
    have e2 : (fun x : Nat => (fs.map fun f => (f.offset, (sizeA P f.type).getD 0))[x]?) = (fun i : Nat => (fs[i]?).map fun f : Field => (f.offset, (sizeA P f.type).getD 0)) := by
      funext x; simp
    rw [e2, hf]
    rfl
  · rename_i n e z ht hz
    obtain ⟨za, hza, hzc⟩ := Option.bind_eq_some_iff.1 hz
    obtain ⟨i, cz, hi, hiz, hr, hv⟩ := zeroA_ok hza j w
    have hcz := cellsA_ok hzc hv
    split at h
    rotate_left
    · cases h
    rename_i sz hsz
    obtain ⟨l, hl, rfl⟩ := Option.map_eq_some_iff.1 h
    obtain ⟨cr, hf, hcr⟩ := fillA_ok (j := j) _ _ _ _ _ hl hcz hpl hpp
    refine ⟨.agg cr, ?_, cr, rfl, hcr⟩
    rw [rb hr, rb (run_und ht w)]
    dsimp only
    rw [rb (sizeA_ok hsz w), hf]
    rfl
  · cases h

/-- Operations without memory. -/
def apure (P : Program) (F : List AV) : Op → Option AV
  | .move x | .assign x => some (ev F x)
  | .pick c x y => match ev F c with
    | .bool t => some (pickA t (ev F x) (ev F y))
    | _ => none
  | .nilCheck x => match ev F x with
    | .ptr b off => some (.ptr b off)
    | .func f x y => some (.func f x y)
    | .yld b => some (.yld b)
    | _ => none
  | .binOp op t x y _ => abin P t op (ev F x) (ev F y)
  | .unOp op _ x => unA op (ev F x)
  | .convert s d x => convA P s d (ev F x)
  | .makeFunc (.func f) first cap => some (.func f (first.toList.map (ev F)) (cap.toList.map (ev F)))
  | .slice t x lo hi mx => match ev F x with
    | .ptr .. => none
    | v => sliceA P F t v lo hi mx
  | .fieldAddr t x f => fieldAddrA P t (ev F x) f
  | .field t x f => fieldA P t (ev F x) f
  | .indexAddr t x i => idxA P t (ev F x) (ev F i)
  | .index t x i => elemA P t (ev F x) (ev F i)
  | .extract x i => match ev F x with
    | .tuple l => l[i]?
    | _ => none
  | .build t ps => buildA P F t ps
  | .call ⟨.builtin .len, args, ts⟩ => match ts.toList, args.toList with
    | t :: _, x :: _ => lenA P t (ev F x)
    | _, _ => none
  | .call ⟨.builtin .cap, args, ts⟩ => match ts.toList, args.toList with
    | t :: _, x :: _ => capA P t (ev F x)
    | _, _ => none
  | .call ⟨.builtin .min, args, _⟩ => minsA false (args.toList.map (ev F))
  | .call ⟨.builtin .max, args, _⟩ => minsA true (args.toList.map (ev F))
  | _ => none

theorem evs_ok {j : Inj} {F : List AV} {a : Act} (hF : VRs j F a.tmps.toList) (l : Array Operand) : VRs j (l.toList.map (ev F)) (l.map a.eval).toList := by
  rw [Array.toList_map]
  exact VRs.map l.toList _ _ fun x _ => ev_ok hF x

theorem apure_ok {P : Program} {j : Inj} {F : List AV} {a : Act} (hF : VRs j F a.tmps.toList) {o : Oper} {r : AV} (h : apure P F o.op = some r) (w : World) :
    ∃ cv, (execOp a.eval o).run P w = .ok (.value cv) w ∧ VR j r cv := by
  have lift : ∀ (s : Sem Value), (∃ cv, s.run P w = .ok cv w ∧ VR j r cv) → ∃ cv, Sem.run P (do pure (.value (← s)) : Sem Next) w = .ok (.value cv) w ∧ VR j r cv := by
    rintro s ⟨cv, h1, h2⟩
    exact ⟨cv, by rw [rb h1]; rfl, h2⟩
  unfold apure at h
  unfold execOp
  split at h
  · rename_i x ho
    rw [ho]; cases h
    exact ⟨_, rfl, ev_ok hF x⟩
  · rename_i x ho
    rw [ho]; cases h
    exact ⟨_, rfl, ev_ok hF x⟩
  · rename_i c x y ho
    rw [ho]
    have hc := ev_ok hF c
    split at h <;> cases h
    rename_i t ht
    rw [ht] at hc
    simp only [VR] at hc
    dsimp only
    rw [hc]
    refine ⟨if t then a.eval x else a.eval y, ?_, pickA_ok (fun _ => ev_ok hF x) (fun _ => ev_ok hF y)⟩
    rw [rb (a := t) (w' := w) rfl]
    cases t <;> rfl
  · rename_i x ho
    rw [ho]
    have hx := ev_ok hF x
    dsimp only
    split at h <;> cases h <;> rename_i e <;> rw [e] at hx <;> simp only [VR] at hx
    · obtain ⟨p, hp, hv⟩ := hx
      rw [hv]
      exact ⟨_, rfl, p, hp, rfl⟩
    · obtain ⟨cx, cy, hv, h1, h2⟩ := hx
      rw [hv]
      exact ⟨_, rfl, cx, cy, rfl, h1, h2⟩
    · obtain ⟨p, hp, hv⟩ := hx
      rw [hv]
      exact ⟨_, rfl, p, hp, rfl⟩
  · rename_i op t x y yt ho
    rw [ho]
    exact lift _ (abin_ok h (ev_ok hF x) (ev_ok hF y) w x y)
  · rename_i op t x ho
    rw [ho]
    exact lift _ (unA_ok h (ev_ok hF x) w)
  · rename_i s d x ho
    rw [ho]
    exact lift _ (convA_ok h (ev_ok hF x) w)
  · rename_i f first cap ho
    rw [ho]; cases h
    exact ⟨_, rfl, _, _, rfl, evs_ok hF first, evs_ok hF cap⟩
  · rename_i t x lo hi mx ho
    rw [ho]
    have hx := ev_ok hF x
    split at h
    · cases h
    · rename_i hnp
      exact lift _ (sliceA_ok hF h hx w (fun b off n e sz e1 => absurd e1 (hnp b off)))
  · rename_i t x f ho
    rw [ho]
    exact lift _ (fieldAddrA_ok h (ev_ok hF x) w)
  · rename_i t x f ho
    rw [ho]
    exact lift _ (fieldA_ok h (ev_ok hF x) w)
  · rename_i t x i ho
    rw [ho]
    exact lift _ (idxA_ok h (ev_ok hF x) (ev_ok hF i) w)
  · rename_i t x i ho
    rw [ho]
    exact lift _ (elemA_ok h (ev_ok hF x) (ev_ok hF i) w)
  · rename_i x i ho
    rw [ho]
    have hx := ev_ok hF x
    split at h
    rotate_left
    · cases h
    rename_i l e
    rw [e] at hx
    simp only [VR] at hx
    obtain ⟨cs, hv, hl⟩ := hx
    obtain ⟨v, h1, h2⟩ := hl.at h
    refine lift _ ⟨v, ?_, h2⟩
    rw [hv]
    unfold Instr.extract
    dsimp only
    have : cs[i]? = some v := by simpa using h1
    rw [this]
    rfl
  · rename_i t ps ho
    rw [ho]
    exact lift _ (buildA_ok hF h w)
  · rename_i args ts ho
    rw [ho]
    dsimp only
    split at h
    rotate_left
    · cases h
    rename_i t _ x _ e1 e2
    have e1' : ts[0]? = some t := by rw [← Array.getElem?_toList, e1]; rfl
    have e2' : (args.map a.eval)[0]? = some (a.eval x) := by rw [← Array.getElem?_toList, Array.toList_map, e2]; rfl
    have := lenA_ok (ty := o.type) h (ev_ok hF x) e1' e2' w
    obtain ⟨cv, h1, h2⟩ := lift _ this
    exact ⟨cv, by rw [rb (a := (⟨.builtin .len ts o.type (args.map fun | .const _ => true | _ => false), args.map a.eval⟩ : Deferred)) (w' := w) rfl]; exact h1, h2⟩
  · rename_i args ts ho
    rw [ho]
    dsimp only
    split at h
    rotate_left
    · cases h
    rename_i t _ x _ e1 e2
    have e1' : ts[0]? = some t := by rw [← Array.getElem?_toList, e1]; rfl
    have e2' : (args.map a.eval)[0]? = some (a.eval x) := by rw [← Array.getElem?_toList, Array.toList_map, e2]; rfl
    have := capA_ok (ty := o.type) h (ev_ok hF x) e1' e2' w
    obtain ⟨cv, h1, h2⟩ := lift _ this
    exact ⟨cv, by rw [rb (a := (⟨.builtin .cap ts o.type (args.map fun | .const _ => true | _ => false), args.map a.eval⟩ : Deferred)) (w' := w) rfl]; exact h1, h2⟩
  · rename_i args ts ho
    rw [ho]
    dsimp only
    unfold minsA at h
    split at h
    · cases h
    · rename_i x xs e
      have hargs := evs_ok hF args
      rw [e] at hargs
      simp only [VRs] at hargs
      obtain ⟨v, ws, e3, h1, h2⟩ := hargs
      have := min2_fold (P := P) w xs ws x r v h h1 h2
      obtain ⟨cv, h4, h5⟩ := lift _ this
      refine ⟨cv, ?_, h5⟩
      rw [rb (a := (⟨.builtin .min ts o.type (args.map fun | .const _ => true | _ => false), args.map a.eval⟩ : Deferred)) (w' := w) rfl]
      show Sem.run P (do pure (Next.value (← Builtin.min_ ts o.type (args.map a.eval)))) w = _
      unfold Builtin.min_
      rw [e3]
      exact h4
  · rename_i args ts ho
    rw [ho]
    dsimp only
    unfold minsA at h
    split at h
    · cases h
    · rename_i x xs e
      have hargs := evs_ok hF args
      rw [e] at hargs
      simp only [VRs] at hargs
      obtain ⟨v, ws, e3, h1, h2⟩ := hargs
      have := max2_fold (P := P) w xs ws x r v h h1 h2
      obtain ⟨cv, h4, h5⟩ := lift _ this
      refine ⟨cv, ?_, h5⟩
      rw [rb (a := (⟨.builtin .max ts o.type (args.map fun | .const _ => true | _ => false), args.map a.eval⟩ : Deferred)) (w' := w) rfl]
      show Sem.run P (do pure (Next.value (← Builtin.max_ ts o.type (args.map a.eval)))) w = _
      unfold Builtin.max_
      rw [e3]
      exact h4
  · cases h

end Go.Proofs.Ytbbgmaklmlagcaa
