/- entry.With. -/
import Derived.Test.YtndkhkponamplaaEi
import Derived.Test.YtndkhkponamplaaEb
namespace Go.Proofs.Ytndkhkponamplaa
open Go Go.RowKit Go.Lib
set_option maxRecDepth 100000
attribute [-simp] drawOk_eq adraw qrun acode aops

/-- buildSlice: plain memory. -/
theorem rowA_ok0 {P : Program} {j : Inj} {F : List AV} {a : Act} (hF : VRs j F a.tmps.toList) (w : World) {o : Oper} {n sz : Nat} {l : List AV} (h : rowA P F o.op = some (n, sz, l)) (hbs : ∃ t m ps, o.op = .buildSlice t m ps) :
    ∃ cv cs T w', (execOp a.eval o).run P w = .ok (.value cv) w' ∧ w'.heap = w.heap.push (.cells cs T (0, 0)) ∧ w'.os = w.os ∧ w'.tape = w.tape ∧ w'.output = w.output ∧ l.length ≤ cs.size ∧
      VRs j l (cs.toList.take l.length) ∧ ∀ (j' : Inj) id, j' id = some ⟨w.heap.size, 0, cs.size⟩ → VR j' (.slice id 0 n sz true) cv := by
  have key : ∀ (e : TypeId) (cs : Array Value), VRs j l cs.toList → cs.size = n * sz → n ≤ maxLen → ∃ cv cs' T w', Sem.run P (do pure (Value.slice (some (← newRow e cs)) n n)) w = .ok cv w' ∧ w'.heap = w.heap.push (.cells cs' T (0, 0)) ∧ w'.os = w.os ∧ w'.tape = w.tape ∧ w'.output = w.output ∧ l.length ≤ cs'.size ∧
      VRs j l (cs'.toList.take l.length) ∧ ∀ (j' : Inj) id, j' id = some ⟨w.heap.size, 0, cs'.size⟩ → VR j' (.slice id 0 n sz true) cv := by
    intro e cs hv hs hn
    obtain ⟨p1, p2⟩ := pre_whole hv
    refine ⟨_, cs, e, w.alloc (.cells cs e), rfl, rfl, rfl, rfl, rfl, p1, p2, fun j' id hj => ?_⟩
    exact ⟨_, _, n, hj, rfl, Nat.le_refl _, fun _ => rfl, hn, .inr ⟨rfl, by simp; omega⟩⟩
  unfold rowA at h
  split at h
  · rename_i t m ps ho
    split at h
    rotate_left
    · cases h
    rename_i e ht
    split at h
    rotate_left
    · cases h
    rename_i s z hs hz
    split at h
    rotate_left
    · cases h
    rename_i hc
    obtain ⟨hc1, hc2, hc3⟩ := hc
    obtain ⟨l', hl, e1⟩ := Option.map_eq_some_iff.1 h
    cases e1
    obtain ⟨za, hza, hzc⟩ := Option.bind_eq_some_iff.1 hz
    obtain ⟨i, cz, hi, hiz, hr, hv⟩ := zeroA_ok hza j w
    have hcz := cellsA_ok hzc hv
    have hczl : cz.cells.size = sz := by have := hcz.length; simp at this; omega
    have hzero := zeros_ok hcz n
    obtain ⟨cr, hf, hcr⟩ := fillA_ok (j := j) _ (ps.map fun (i, x) => (i, a.eval x)).toList _ _ _ hl hzero (by simp) (fun k p c hp hc => by
      simp only [List.getElem?_map, Array.toList_map] at hp hc
      cases hg : ps.toList[k]? with
      | none => rw [hg] at hp; cases hp
      | some q =>
        rw [hg] at hp hc
        obtain ⟨qi, qx⟩ := q
        cases hp; cases hc
        exact ⟨rfl, ev_ok hF qx⟩)
    have hcs : cr.size = n * sz := by
      have h1 := hcr.length
      have h2 := fill_size hl
      rw [zerosA_length, hc1] at h2
      simp at h1
      omega
    have hnle : n ≤ maxLen := by
      have : n * 1 ≤ n * sz := Nat.mul_le_mul_left _ hc2
      unfold maxLen; omega
    obtain ⟨cv, cs', T', w', h1, h2⟩ := key e cr hcr hcs hnle
    refine ⟨cv, cs', T', w', ?_, h2⟩
    unfold execOp
    rw [ho]
    dsimp only
    have e2 : Sem.run P (Instr.buildSlice t n (ps.map fun (i, x) => (i, a.eval x))) w = .ok cv w' := by
      unfold Instr.buildSlice
      rw [rb (run_und ht w)]
      dsimp only
      rw [rb (sizeA_ok hs w)]
      rw [if_neg (by omega)]
      by_cases h0 : n * sz = 0
      · rw [if_pos h0, rb (a := #[]) (w' := w) rfl]
        have e4 : ((Array.range (n * sz)).map ((#[] : Array Value)[· % (#[] : Array Value).size]!)) = ((Array.range (n * cz.cells.size)).map (cz.cells[· % cz.cells.size]!)) := by
          rw [hczl]; simp [h0]
        rw [e4, hf]
        exact h1
      · rw [if_neg h0, rb hr, rb (a := cz.cells) (w' := w) rfl]
        rw [hczl] at hf
        rw [hczl, hf]
        exact h1
    rw [rb e2]
    rfl
  · rename_i t lo co ho
    obtain ⟨t', m', ps', e⟩ := hbs
    rw [e] at ho
    cases ho
  · cases h

theorem aops_k {P : Program} {Γ : Gam} (hΓ : GOk P Γ) {ops : Array Oper} (r : Option Nat) (m : Nat) {Q : Exit → Act → World → Prop} (rest : List Oper) : ∀ (l : List Oper) (F F' : List AV) (H H' : AHeap) (j : Inj) (w : World) (a : Act),
    aops P Γ ops l F H = some (F', H') → R j H w → VRs j F a.tmps.toList → ∀ ds, a.defers = ds →
    (∀ j' w' a', VRs j' F' a'.tmps.toList → a'.defers = ds → Step H.length j H w j' H' w' → wpListIn (FW r) m P ops Q rest a' w') → wpListIn (FW r) m P ops Q (l ++ rest) a w
  | [], F, F', H, H', j, w, a, h, hR, hF, ds, hd, hq => by
    cases h
    exact hq j w a hF hd (Step.refl hR (Nat.le_refl _))
  | o :: l, F, F', H, H', j, w, a, h, hR, hF, ds, hd, hq => by
    unfold aops at h
    show wpListIn (FW r) m P ops Q (o :: (l ++ rest)) a w
    unfold wpListIn
    split at h
    · cases h
    · rename_i hw
      rw [wantA_ok hw hF]
      refine ⟨fun _ _ => trivial, ?_⟩
      exact aops_k hΓ r m rest l _ F' H H' j w _ h hR (putA_ok hF o.dst ⟨#[], rfl, rfl⟩) ds (by rw [put_defers]; exact hd) hq
    · rename_i hw
      rw [wantA_ok hw hF]
      simp only [if_true]
      split at h
      · cases h
      · rename_i v H1 ho
        refine opA_ok hΓ ho hF hR r m fun cv j' w' hv hst => ?_
        have hle := hst.jle hR (Nat.le_refl _)
        refine aops_k hΓ r m rest l _ F' H1 H' j' w' _ h hst.rel (putA_ok (VRs.mono hle _ _ hF) o.dst hv) ds (by rw [put_defers]; exact hd) fun j2 w2 a2 h1 h2 h3 => ?_
        exact hq j2 w2 a2 h1 h2 (hst.trans h3 hst.len)

theorem call_nd {P : Program} {o : Oper} {a : Act} {j : Inj} {F : List AV} {H : AHeap} {w : World} {g : Operand} {args : Array Operand} {ts : Array TypeId} {f : FuncId} {first cap : List AV} {S : List (AV × AHeap)}
    (ho : o.op = .call ⟨.value g, args, ts⟩) (hg : ev F g = .func f first cap) (he : ∀ cargs w, (callFunc f cargs).run P w = .ok (.enter f cargs) w)
    (hct : ∀ cargs, VRs j (first ++ args.toList.map (ev F) ++ cap) cargs.toList → Calls P f cargs w fun e w' => ∃ x ∈ S, ∃ cv j', e = .returned cv ∧ VR j' x.1 cv ∧ Step H.length j H w j' x.2 w')
    (hF : VRs j F a.tmps.toList) (r : Option Nat) (n : Nat) {K : Act → World → Prop} {Q : Exit → Act → World → Prop}
    (hk : ∀ x ∈ S, ∀ cv j' w', VR j' x.1 cv → Step H.length j H w j' x.2 w' → K (a.put o.dst cv) w') : o.wpIn (FW r) n P a w K Q := by
  have hgv := ev_ok hF g
  rw [hg] at hgv
  simp only [VR] at hgv
  obtain ⟨cx, cy, hv, h1, h2⟩ := hgv
  have hargs := evs_ok hF args
  refine ⟨fun _ _ => trivial, ?_⟩
  rw [Oper.semAt_eq _ _ _ (by rw [ho]; simp)]
  have e : (execOp a.eval o).run P w = .ok (.enter f (cx ++ args.map a.eval ++ cy)) w := by
    unfold execOp
    rw [ho]
    dsimp only
    have e1 : Sem.run P (resolve a.eval ⟨.value g, args, ts⟩ o.type) w = .ok { target := .fn (.func f) cy, args := cx ++ args.map a.eval } w := by
      unfold resolve
      dsimp only
      rw [hv]
      rfl
    rw [rb e1]
    exact he _ w
  rw [e]
  refine ⟨(fun hh => by simp [FW, Fence.wide] at hh), callsIn_FW ?_⟩
  refine (hct (cx ++ args.map a.eval ++ cy) (by
    rw [Array.toList_append, Array.toList_append]
    exact (h1.append hargs).append h2)).mono ?_
  rintro e w' ⟨x, hx, cv, j', rfl, h3, h4⟩
  exact hk x hx cv j' w' h3 h4


/-- The region that lays an entry in a block of its own and inserts it. -/
theorem insE_sim {Γ : Gam} (hΓ : GOk Try.prog Γ) {r : Option Nat} {id : Nat} {ops : Array Oper} {F F1 F2 F4 : List AV} {H H4 : AHeap} (c : Nat) {o3 o4 : Oper} {rest : List Oper} {own : List En} {e : En} {i bo : Nat} {t : TypeId} {ps : Array (Nat × Operand)} {g : Operand} {args : Array Operand} {ts : Array TypeId}
    (h1 : aops Try.prog Γ ops (ops.toList.take c) F H = some (F1, H)) (hd : ops.toList.drop c = o3 :: o4 :: rest) (hw3 : wantA ops o3 F1 = some true) (h3 : o3.op = .buildSlice t 1 ps) (hrow : rowA Try.prog F1 o3.op = some (1, 3, enA e))
    (hF2 : putA F1 o3.dst (.slice H.length 0 1 3 true) = F2) (hw4 : wantA ops o4 F2 = some true) (ho4 : o4.op = .call ⟨.value g, args, ts⟩) (hg : ev F2 g = .func 40 [] [])
    (hargs : args.toList.map (ev F2) = [.sl bo 0 own.length 3 false, .int .i64 i, .slice H.length 0 1 3 true]) (hbo : H[bo]? = some (.cells true (ensA own))) (hi : i ≤ own.length) (hl : own.length ≤ 1000000)
    (h5 : aops Try.prog Γ ops rest (putA F2 o4.dst (.sl (H.length + 1) 0 (own.length + 1) 3 false)) (H.set bo .dead ++ [.cells true (enA e), .cells true (ensA (own.take i ++ e :: own.drop i))]) = some (F4, H4)) :
    Sim Try.prog r H.length (.region id ops false) F H fun x F' H' => x = .normal ∧ F' = F4 ∧ H' = H4 := by
  intro B j w a m hB hR hF hdf
  have hbol : bo < H.length := (List.getElem?_eq_some_iff.1 hbo).1
  refine wpIn_region_list ?_
  rw [show ops.toList = ops.toList.take c ++ (o3 :: o4 :: rest) by rw [← hd, List.take_append_drop]]
  refine aops_k hΓ r m (o3 :: o4 :: rest) _ F F1 H H j w a h1 hR hF _ rfl fun j1 w1 a1 g1 g2 s1 => ?_
  unfold wpListIn
  rw [wantA_ok hw3 g1]
  simp only [if_true]
  obtain ⟨cv, cs, T, w2, e1, e2, e3, e4, e5, e6, e7, e8⟩ := rowA_ok0 g1 w1 hrow ⟨t, 1, ps, h3⟩
  have s2 := step_newG s1.rel true (enA e) cs T (0, 0) e2 e3 e4 e5 e6 e7 (fun _ i _ hh => by simp at hh)
  have g0 := putA_ok (VRs.mono (s2.jle s1.rel (Nat.le_refl _)) _ _ g1) o3.dst (e8 _ H.length (jput_same _ _ _))
  rw [hF2] at g0
  obtain ⟨j2, hj2⟩ : ∃ j2, j2 = jput j1 H.length ⟨w1.heap.size, 0, cs.size⟩ := ⟨_, rfl⟩
  rw [← hj2] at s2 g0
  have hpv : j2 H.length = some ⟨w1.heap.size, 0, cs.size⟩ := by rw [hj2]; exact jput_same _ _ _
  refine ⟨fun _ _ => trivial, ?_⟩
  rw [Oper.semAt_eq _ _ _ (by rw [h3]; simp), e1]
  show wpListIn _ _ _ _ _ (o4 :: rest) (a1.put o3.dst cv) w2
  unfold wpListIn
  rw [wantA_ok hw4 g0]
  simp only [if_true]
  have hb1 : (H ++ [ABlk.cells true (enA e)])[bo]? = some (.cells true (ensA own)) := by rw [List.getElem?_append_left hbol]; exact hbo
  have hb2 : (H ++ [ABlk.cells true (enA e)])[H.length]? = some (.cells true (enA e)) := by simp
  have hHe : (H ++ [ABlk.cells true (enA e)]).set bo .dead ++ [.cells true (ensA (own.take i ++ e :: own.drop i))] = H.set bo .dead ++ [.cells true (enA e), .cells true (ensA (own.take i ++ e :: own.drop i))] := by
    rw [List.set_append_left _ _ hbol, List.append_assoc]; rfl
  refine call_nd (S := [(.sl (H.length + 1) 0 (own.length + 1) 3 false, H.set bo .dead ++ [.cells true (enA e), .cells true (ensA (own.take i ++ e :: own.drop i))])]) ho4 hg (enter_of Try.func40 rfl (by decide)) (H := H ++ [ABlk.cells true (enA e)]) (w := w2) (fun cargs hc => ?_) g0 r m fun x hx cv2 j3 w3 hv s3 => ?_
  · rw [List.nil_append, List.append_nil, hargs] at hc
    refine (insE_call s2.rel hb1 hb2 (by omega) hi hl (fun pv hpv2 => ?_) hc).mono ?_
    · rw [hpv] at hpv2; cases hpv2
      exact ⟨rfl, cs, T, by rw [e2]; simp⟩
    · rintro x w' ⟨cv, j', rfl, k1, k2⟩
      rw [hHe] at k2
      exact ⟨_, List.mem_singleton.2 rfl, cv, j', rfl, by simpa using k1, k2⟩
  · rw [List.mem_singleton] at hx
    subst hx
    have hle := s3.jle s2.rel (Nat.le_refl _)
    have s12 := s1.trans s2 s1.len
    have s123 := s12.trans s3 (by simp)
    refine aops_ok hΓ r m rest _ F4 _ H4 j3 w3 _ h5 s3.rel (putA_ok (VRs.mono hle _ _ g0) o4.dst hv) a.defers (by rw [put_defers, put_defers]; exact g2) fun j4 w4 a4 k1 k2 s4 => ?_
    have sall := s123.trans s4 (by simp)
    exact ⟨.normal, F4, H4, j4, rfl, ⟨rfl, rfl, rfl⟩, k1, by rw [k2]; exact hdf.step hR sall, sall⟩


/-- A gone one weighs nothing. -/
def bareE (e : En) : En := (e.1, if e.2.2 then 0 else e.2.1, e.2.2)
def insE (own : List En) (e : En) : List En := own.take (posE own e.1) ++ bareE e :: own.drop (posE own e.1 + if hasE own e.1 then 1 else 0)
def withE (own more : List En) : List En := more.foldl insE own

theorem posE_le (l : List En) (w : List UInt8) : posE l w ≤ l.length := List.Sublist.length_le (List.takeWhile_sublist _)
theorem posE_before {w : List UInt8} : ∀ {l : List En} {k : Nat} {x : En}, k < posE l w → l[k]? = some x → Op.bytesLess x.1 w = true
  | [], k, x, _, hx => by simp at hx
  | y :: l, k, x, hk, hx => by
    unfold posE at hk
    rw [List.takeWhile_cons] at hk
    split at hk
    · rename_i hy
      cases k with
      | zero => simp only [List.getElem?_cons_zero, Option.some.injEq] at hx; rw [← hx]; exact hy
      | succ k => exact posE_before (l := l) (k := k) (by unfold posE; simpa using hk) (by simpa using hx)
    · simp at hk
theorem posE_at {w : List UInt8} : ∀ {l : List En} {x : En}, l[posE l w]? = some x → Op.bytesLess x.1 w = false
  | [], x, h => by simp at h
  | y :: l, x, h => by
    unfold posE at h
    rw [List.takeWhile_cons] at h
    split at h
    · exact posE_at (l := l) (by unfold posE; simpa using h)
    · rename_i hy
      simp at h
      subst h
      simpa using hy
theorem hasE_lt {l : List En} {w : List UInt8} (h : hasE l w = true) : posE l w < l.length := by
  unfold hasE at h
  split at h
  · rename_i x hx; exact (List.getElem?_eq_some_iff.1 hx).1
  · cases h

theorem asc_ins {own : List En} (h : asc own) (e : En) : asc (insE own e) := by
  unfold asc insE at *
  have hd : own.take (posE own e.1) ++ own.drop (posE own e.1) = own := List.take_append_drop _ _
  rw [List.pairwise_append]
  have hb : ∀ x ∈ own.take (posE own e.1), x.1 < e.1 := fun x hx => by
    obtain ⟨k, hk⟩ := List.getElem?_of_mem hx
    rw [List.getElem?_take] at hk
    split at hk
    · rename_i hlt
      have := posE_before hlt hk
      rwa [bl_eq, decide_eq_true_eq] at this
    · cases hk
  have ha : ∀ x ∈ own.drop (posE own e.1 + if hasE own e.1 then 1 else 0), e.1 < x.1 := fun x hx => by
    obtain ⟨k, hk⟩ := List.getElem?_of_mem hx
    rw [List.getElem?_drop] at hk
    have hlt : posE own e.1 < own.length := by have := (List.getElem?_eq_some_iff.1 hk).1; omega
    obtain ⟨y, hy⟩ : ∃ y, own[posE own e.1]? = some y := ⟨_, List.getElem?_eq_getElem hlt⟩
    have h1 := posE_at hy
    rw [bl_eq, decide_eq_false_iff_not] at h1
    by_cases hh : hasE own e.1 = true
    · rw [if_pos hh] at hk
      have h2 : y.1 = e.1 := by unfold hasE at hh; rw [hy] at hh; simpa using hh
      have := asc_lt h (show posE own e.1 < posE own e.1 + 1 + k by omega) hy hk
      rwa [h2] at this
    · rw [if_neg hh] at hk
      have h2 : y.1 ≠ e.1 := by intro h3; apply hh; unfold hasE; rw [hy]; simp [h3]
      have h3 : e.1 < y.1 := by
        rcases Decidable.em (e.1 < y.1) with h4 | h4
        · exact h4
        · exact absurd (List.le_antisymm (List.not_lt.1 h4) (List.not_lt.1 h1)) h2
      rcases Nat.eq_zero_or_pos k with rfl | hk0
      · simp only [Nat.add_zero] at hk; rw [hy] at hk; cases hk; exact h3
      · exact List.lt_trans h3 (asc_lt h (show posE own e.1 < posE own e.1 + 0 + k by omega) hy hk)
  refine ⟨h.sublist (List.take_sublist _ _), List.pairwise_cons.2 ⟨fun x hx => ha x hx, h.sublist (List.drop_sublist _ _)⟩, fun x hx y hy => ?_⟩
  rcases List.mem_cons.1 hy with rfl | hy
  · exact hb x hx
  · exact List.lt_trans (hb x hx) (ha y hy)

theorem insE_length (own : List En) (e : En) : (insE own e).length ≤ own.length + 1 := by
  unfold insE
  rw [List.length_append, List.length_take, List.length_cons, List.length_drop]
  have := posE_le own e.1
  omega

theorem withE_snoc (l more : List En) (k : Nat) (e : En) (h : more[k]? = some e) : withE l (more.take (k + 1)) = insE (withE l (more.take k)) e := by
  unfold withE
  rw [List.take_add_one, h, List.foldl_append]
  rfl
theorem withE_asc (more : List En) : ∀ {l : List En}, asc l → asc (withE l more) := by
  unfold withE
  induction more with
  | nil => exact fun h => h
  | cons e more ih => exact fun h => ih (asc_ins h e)
theorem withE_length (more : List En) : ∀ (l : List En), (withE l more).length ≤ l.length + more.length := by
  unfold withE
  induction more with
  | nil => intro l; simp
  | cons e more ih =>
    intro l
    have h1 := ih (insE l e)
    have h2 := insE_length l e
    simp only [List.foldl_cons, List.length_cons]
    omega

end Go.Proofs.Ytndkhkponamplaa
