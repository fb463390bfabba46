/- Parts of the proof of PublishAtomic: lemmas, each with its own conditions. -/
import Derived.Test.YthafeihjlamhhaaGreatDoorY18
set_option maxHeartbeats 64000000
open List renaming length_cons → q7Z, length_nil → q8Z, mem_cons_of_mem → qiZ, mem_append → qxZ, mem_singleton → r1Z, map_cons → s1Z
open Nat renaming le_refl → qnZ
open Bool renaming false_eq_true → qsZ
namespace Go.Proofs.YthafeihjlamhhaaGreatDoor
set_option maxRecDepth 100000
section
open Go Go.Lib
abbrev nMan : List UInt8 := [109, 97, 110, 105, 102, 101, 115, 116]
abbrev nTmp : List UInt8 := [109, 97, 110, 105, 102, 101, 115, 116, 46, 116, 109, 112]
def DS.put (d : DS) (s : List UInt8) : DS × Int := seqE (if nTmp ∈ d.list then d.remove nTmp else (d, 0)) fun d => d.write nTmp s fun d => seqE (d.rename nTmp nMan) DS.syncDir
theorem sum_erase (x : List UInt8) (g : List UInt8 → Nat) : ∀ l : List (List UInt8), ((l.erase x).map g).sum ≤ (l.map g).sum
 | [] => qnZ _
 | y :: l => by
   rw [List.erase_cons]; split
   · simp
   · simp only [s1Z, List.sum_cons]; have := sum_erase x g l; omega
theorem used_del {fs : FS} {l : NM} (h : NM.nd l) (x : List UInt8) : usedF fs (NM.del l x) ≤ usedF fs l := by
 unfold usedF; rw [NM.keys_del]
 have : ((NM.keys l).erase x).map (fun k => (txt fs (NM.del l x) k).length) = ((NM.keys l).erase x).map fun k => (txt fs l k).length := by
   refine List.map_congr_left fun k hk => ?_
   have hne : k ≠ x := fun e => by
     subst e; exact ((List.Nodup.mem_erase_iff h).1 hk).1 rfl
   unfold txt cont; rw [NM.get_del h, if_neg hne]
 rw [this]; exact sum_erase x _ _
theorem sum_le_mul (g : List UInt8 → Nat) (c : Nat) : ∀ l : List (List UInt8), (∀ k ∈ l, g k ≤ c) → (l.map g).sum ≤ l.length * c
 | [], _ => by simp
 | k :: l, h => by
   rw [s1Z, List.sum_cons, q7Z, Nat.succ_mul]
   have := h k (by simp)
   have := sum_le_mul g c l fun k hk => h k (qiZ _ hk)
   omega
theorem used_two {fd : FD} {fs : FS} {a b : List UInt8} {c : Nat} (hc : Core fd fs) (h : twoN a b fd) (ha : (txt fs fd.now a).length ≤ c) (hb : (txt fs fd.now b).length ≤ c) : usedF fs fd.now ≤ 2 * c := by
 unfold usedF; have h2 := two_le (FD.each_now hc.num.2).nd (FD.each_now h)
 have h3 := sum_le_mul (fun k => (txt fs fd.now k).length) c (NM.keys fd.now) fun k hk => by
   rcases FD.each_now h k hk with e | e <;> (rw [e]; assumption)
 exact Nat.le_trans h3 (Nat.mul_le_mul_right c h2)
theorem Core.rem {fd : FD} {fs : FS} (h : Core fd fs) {x : List UInt8} : Core ⟨fd.d, fd.acts ++ [.rem x], fd.last⟩ fs := by
 refine ⟨⟨h.num.1, FD.each_one h.num.2 (fun l a b hab hl => NumOk.mono hl hab) _ rfl rfl (Int.le_refl _) ((FD.each_now h.num.2).del x)⟩, ?_, h.rng⟩
 refine FD.each_one h.has (fun _ _ _ _ h => h) _ rfl rfl (Int.le_refl _) ?_
 intro k n hn; simp only [DAct.run] at hn; rw [NM.get_del (FD.each_now h.num.2).nd] at hn; split at hn
 · cases hn
 · exact FD.each_now h.has k n hn
theorem twoN_rem {a b x : List UInt8} {fd : FD} (h : twoN a b fd) : twoN a b ⟨fd.d, fd.acts ++ [.rem x], fd.last⟩ := by
 refine FD.each_one h (fun _ _ _ _ h => h) _ rfl rfl (Int.le_refl _) ?_
 intro k hk; simp only [DAct.run] at hk; rw [NM.keys_del] at hk; exact FD.each_now h k (List.mem_of_mem_erase hk)
theorem twoN_ren {a b x y : List UInt8} {n : Int} {fd : FD} (h : twoN a b fd) (hy : y = a ∨ y = b) : twoN a b ⟨fd.d, fd.acts ++ [.ren x y n], fd.last⟩ := by
 refine FD.each_one h (fun _ _ _ _ h => h) _ rfl rfl (Int.le_refl _) ?_
 intro k hk; simp only [DAct.run] at hk; rw [NM.keys_put] at hk
 have hd : ∀ k ∈ NM.keys (NM.del fd.now x), k = a ∨ k = b := fun k hk => by
   rw [NM.keys_del] at hk; exact FD.each_now h k (List.mem_of_mem_erase hk)
 split at hk
 · exact hd k hk
 · rcases qxZ.1 hk with hk | hk
   · exact hd k hk
   · rw [r1Z.1 hk]; exact hy
def ManPre (o : Option PF) (s : List UInt8) (fd : FD) (fs : FS) : Prop := always fd fs nTmp (partO s) ∧ always fd fs nMan (· = o) ∧ twoN nTmp nMan fd
def ManBad (o : Option PF) (s : List UInt8) (fd : FD) (fs : FS) : Prop := always fd fs nTmp (partO s) ∧ always fd fs nMan (fun x => x = o ∨ x = some ⟨s, []⟩) ∧ twoN nTmp nMan fd
def ManDone (s : List UInt8) (fd : FD) (fs : FS) : Prop := always fd fs nTmp (· = none) ∧ always fd fs nMan (· = some ⟨s, []⟩) ∧ twoN nTmp nMan fd
theorem ManPre.bad {o : Option PF} {s : List UInt8} {fd : FD} {fs : FS} (h : ManPre o s fd fs) : ManBad o s fd fs := ⟨h.1, always_imp h.2.1 fun _ h => .inl h, h.2.2⟩
theorem ManDone.pre {s : List UInt8} {fd : FD} {fs : FS} (h : ManDone s fd fs) (t : List UInt8) : ManPre (some ⟨s, []⟩) t fd fs := ⟨always_imp h.1 fun o ho => by rw [ho]; exact partO_none t, h.2.1, h.2.2⟩
theorem list_mem {d : DS} (hd : d.down = false) (x : List UInt8) : x ∈ d.list ↔ d.fd.now.get x ≠ none := by
 unfold DS.list; rw [hd]; simp only [qsZ, if_false]; constructor
 · intro h e
   obtain ⟨n, hn⟩ := FD.names_get h; rw [hn] at e; cases e
 · intro h
   cases hg : d.fd.now.get x with
   | none => exact absurd hg h
   | some n => exact FD.names_of hg
theorem put_stage {d : DS} (hd : d.down = false) (hc : Core d.fd d.fs) {s : List UInt8} {o : Option PF} (hroom : s.length ≤ d.room) (h : ManPre o s d.fd d.fs) : Stage (d.put s) d.quota (ManDone s) (ManBad o s) := by
 unfold DS.put
 have first : Stage (if nTmp ∈ d.list then d.remove nTmp else (d, 0)) d.quota (fun fd fs => Core fd fs ∧ ManPre o s fd fs ∧ fd.now.get nTmp = none ∧ usedF fs fd.now ≤ usedF d.fs d.fd.now) (ManBad o s) := by
   split
   · rename_i hm
     rw [list_mem hd] at hm
     cases hg : d.fd.now.get nTmp with
     | none => exact absurd hg hm
     | some n =>
       have hnd := (FD.each_now hc.num.2).nd
       refine stage_remove hd hg h.bad ⟨hc.rem, ⟨always_rem h.1 hc.num fun _ => partO_none s, always_rem h.2.1 hc.num fun e => absurd e (by decide), twoN_rem h.2.2⟩, ?_, ?_⟩
       · rw [now_more]; simp only [DAct.run]; rw [NM.get_del hnd, if_pos rfl]
       · rw [now_more]; exact used_del hnd _
   · rename_i hm
     rw [list_mem hd] at hm; exact ⟨rfl, .inl ⟨rfl, hd, hc, h, Classical.not_not.1 hm, qnZ _⟩⟩
 refine first.seq fun d1 q1 u1 ⟨c1, m1, t1, us1⟩ => ?_
 rw [← q1]
 have hr : s.length ≤ d1.room := by
   unfold DS.room at hroom ⊢; rw [used_F u1, q1]; rw [used_F hd] at hroom; omega
 refine write_stage u1 c1 (by decide) t1 hr m1.bad (fun f hf => ⟨always_new m1.1 c1 f fun _ => partO_new hf, always_imp (always_new m1.2.1 c1 f fun e => absurd e (by decide)) fun _ h => .inl h, twoN_new m1.2.2 (.inl rfl)⟩) fun d2 q2 u2 e1 e2 => ?_
 have g1 := always_new m1.1 c1 (x := nTmp) ⟨s, []⟩ fun _ => partO_new (.inr (.inr rfl))
 have g2 := always_new (k := nMan) m1.2.1 c1 (x := nTmp) ⟨s, []⟩ fun e => absurd e (by decide)
 have g3 := twoN_new (x := nTmp) m1.2.2 (.inl rfl)
 have c2 := c1.new t1 (by decide) ⟨s, []⟩
 have hT : (fdN d1.fd nTmp).now.get nTmp = some (d1.fd.last + 1) := by rw [now_more]; simp only [DAct.run]; rw [NM.get_put, if_pos rfl]
 have hcT : cont (fsN d1.fd d1.fs ⟨s, []⟩) (fdN d1.fd nTmp).now nTmp = some ⟨s, []⟩ := (cont_of hT).trans (FS.get_new c1.fresh)
 have bad2 : ManBad o s d2.fd d2.fs := by rw [e1, e2]; exact ⟨g1, always_imp g2 fun _ h => .inl h, g3⟩
 rw [← q2]
 have r1 : always ⟨(fdN d1.fd nTmp).d, (fdN d1.fd nTmp).acts ++ [.ren nTmp nMan (d1.fd.last + 1)], (fdN d1.fd nTmp).last⟩ (fsN d1.fd d1.fs ⟨s, []⟩) nTmp (partO s) := always_ren g1 c2.num hT (fun e => absurd e (by decide)) fun _ _ => partO_none s
 have r2 : always ⟨(fdN d1.fd nTmp).d, (fdN d1.fd nTmp).acts ++ [.ren nTmp nMan (d1.fd.last + 1)], (fdN d1.fd nTmp).last⟩ (fsN d1.fd d1.fs ⟨s, []⟩) nMan (fun x => x = o ∨ x = some ⟨s, []⟩) :=
   always_ren (always_imp g2 fun _ h => .inl h) c2.num hT (fun _ => .inr hcT) fun h e => absurd e (by decide)
 have hnd := (FD.each_now c2.num.2).nd
 refine (stage_rename u2 (P := fun fd fs => ManBad o s fd fs ∧ cont fs fd.now nTmp = none ∧ cont fs fd.now nMan = some ⟨s, []⟩) (x := nTmp) (y := nMan) (n := d1.fd.last + 1) (by decide) (by rw [e1]; exact hT) bad2 ?_).seq fun d3 q3 u3 ⟨m3, k3, l3⟩ => ?_
 · rw [e1, e2]
   refine ⟨⟨r1, r2, twoN_ren g3 (.inr rfl)⟩, ?_, ?_⟩
   · rw [now_more]
     exact cont_none (by simp only [DAct.run]; rw [NM.get_put, if_neg (by decide), NM.get_del hnd, if_pos rfl])
   · rw [now_more]
     exact (cont_of (n := d1.fd.last + 1) (by simp only [DAct.run]; rw [NM.get_put, if_pos rfl])).trans (FS.get_new c1.fresh)
 · rw [← q3]
   exact stage_syncDir u3 m3 ⟨always_one.2 k3, always_one.2 l3, twoN_one (FD.each_now m3.2.2)⟩
theorem calm_put (s : List UInt8) : calm fun d => d.put s := fun d h1 h2 => by
 have : (if nTmp ∈ d.list then d.remove nTmp else (d, 0)).1.armed = 0 ∧ (if nTmp ∈ d.list then d.remove nTmp else (d, 0)).1.down = false := by
   split
   · exact calm_remove nTmp d h1 h2
   · exact ⟨h1, h2⟩
 dsimp only; unfold DS.put
 obtain ⟨r, hr⟩ : ∃ r, (if nTmp ∈ d.list then d.remove nTmp else (d, 0)) = r := ⟨_, rfl⟩
 rw [hr] at this ⊢; rw [seqE]; split
 · exact calm_write nTmp s (calm_seqE (calm_rename nTmp nMan) calm_syncDir) _ this.1 this.2
 · exact this
theorem ok_put {d : DS} {A B : Nat} (h : d.ok A B) (K : Nat) (hK : 1 ≤ K) (hq : d.quota ≤ K) (s : List UInt8) : (d.put s).1.ok (A + 12) (B + K) := by
 unfold DS.put
 have h1 : (if nTmp ∈ d.list then d.remove nTmp else (d, 0)).1.ok (A + 2) B ∧ (if nTmp ∈ d.list then d.remove nTmp else (d, 0)).1.quota = d.quota := by
   split
   · refine ⟨DS.ok_mono (DS.ok_remove h nTmp) (by omega) (qnZ _), ?_⟩
     unfold DS.remove DS.step
     split <;> simp
   · exact ⟨DS.ok_mono h (by omega) (qnZ _), rfl⟩
 obtain ⟨r, hr⟩ : ∃ r, (if nTmp ∈ d.list then d.remove nTmp else (d, 0)) = r := ⟨_, rfl⟩
 rw [hr] at h1 ⊢; rw [seqE]; split; rotate_left
 · exact DS.ok_mono h1.1 (by omega) (by omega)
 refine DS.ok_mono (ok_write (A := A + 2) h1.1 K hK (by omega) nTmp s _ fun d' _ h' => ?_) (by omega) (qnZ _)
 have h2 := DS.ok_rename h' nTmp nMan; unfold seqE; split
 · exact DS.ok_mono (DS.ok_syncDir h2) (by omega) (qnZ _)
 · exact DS.ok_mono h2 (by omega) (qnZ _)
def pubd (d : DS) (s : List UInt8) : Prop := d.down = false ∧ cont d.fs d.fd.now nMan = some ⟨s, []⟩
theorem pre_room {d : DS} (hd : d.down = false) (hc : Core d.fd d.fs) (hq : d.quota = 1048576) {o : Option PF} {s : List UInt8} (h : ManPre o s d.fd d.fs) (hs : s.length ≤ 100000) (ho : ∀ f, o = some f → f.now.length ≤ 100000) : s.length ≤ d.room := by
 unfold DS.room; rw [used_F hd, hq]
 have h1 : (txt d.fs d.fd.now nTmp).length ≤ 100000 := by
   have := always_now h.1; unfold txt
   cases hx : cont d.fs d.fd.now nTmp with
   | none => simp
   | some f => rw [hx] at this; have := (partO_now this).length_le; simp; omega
 have h2 : (txt d.fs d.fd.now nMan).length ≤ 100000 := by
   have := always_now h.2.1; unfold txt
   cases hx : cont d.fs d.fd.now nMan with
   | none => simp
   | some f => rw [hx] at this; have := ho f this.symm; simpa using this
 have := used_two hc h.2.2 h1 h2; omega
theorem settled_of {o : Option PF} (h : o = none ∨ ∃ s, o = some ⟨s, []⟩) (g : PF) (a b : Int) (hg : (some g : Option PF) = o) : (some ⟨g.stays a b, []⟩ : Option PF) = o := by
 rcases h with rfl | ⟨s, rfl⟩
 · cases hg
 · cases hg; rw [PF.stays_settled]
theorem bad_restart {d : DS} {A B : Nat} (hok : d.ok A B) (l : List Int) {o : Option PF} {s : List UInt8} (ho : o = none ∨ ∃ s, o = some ⟨s, []⟩) (h : ManBad o s d.fd d.fs) : ManPre o s (d.restart l).fd (d.restart l).fs ∨ ManPre (some ⟨s, []⟩) s (d.restart l).fd (d.restart l).fs := by
 have h1 := always_restart hok l h.1 fun g a b hg => partO_stays g a b hg
 have h2 := always_restart hok l h.2.1 fun g a b hg => by
   rcases hg with hg | hg
   · exact .inl (settled_of ho g a b hg)
   · cases hg; rw [PF.stays_settled]; exact .inr rfl
 obtain ⟨i, hi, e1, _⟩ := restart_cont hok l
 have hacts : (d.restart l).fd.acts = [] := by rw [e1]
 have h3 : twoN nTmp nMan (d.restart l).fd := by
   rw [e1]; exact twoN_one (h.2.2 i hi)
 have one : ∀ o', cont (d.restart l).fs (d.restart l).fd.now nMan = o' → always (d.restart l).fd (d.restart l).fs nMan (· = o') := fun o' ho' j hj => by
   rw [hacts] at hj ⊢; simp only [q8Z, Nat.le_zero_eq] at hj; subst hj
   have : (d.restart l).fd.now = druns (d.restart l).fd.d ([].take 0) := by unfold FD.now; rw [hacts]; rfl
   rw [← this]; exact ho'
 rcases always_now h2 with e | e
 · exact .inl ⟨h1, one _ e, h3⟩
 · exact .inr ⟨h1, one _ e, h3⟩
theorem pre_restart {d : DS} {A B : Nat} (hok : d.ok A B) (l : List Int) {s t : List UInt8} (h : ManPre (some ⟨s, []⟩) t d.fd d.fs) : ManPre (some ⟨s, []⟩) t (d.restart l).fd (d.restart l).fs := by
 refine ⟨always_restart hok l h.1 fun g a b hg => partO_stays g a b hg, always_restart hok l h.2.1 fun g a b hg => settled_of (.inr ⟨s, rfl⟩) g a b hg, ?_⟩
 obtain ⟨i, hi, e1, _⟩ := restart_cont hok l; rw [e1]; exact twoN_one (h.2.2 i hi)
theorem pub_new (a : List UInt8) (q : Int) (hq : (a.length : Int) ≤ q) (hq2 : q ≤ 1048576) : ∃ d1 : DS, (DS.new q).put a = (d1, 0) ∧ d1.ok 12 1048576 ∧ d1.quota = q ∧ d1.armed = 0 ∧ d1.down = false ∧ ManDone a d1.fd d1.fs := by
 have hq0 : 0 ≤ q := by omega
 have hok0 := DS.ok_new q hq0 (by omega)
 have hok1 := ok_put hok0 1048576 (by decide) (by show q ≤ _; omega) a
 have none0 : ∀ k, always (DS.new q).fd (DS.new q).fs k (· = none) := fun k i hi => by simp [DS.new, FD.new, druns, cont, NM.get]
 have hpre : ManPre none a (DS.new q).fd (DS.new q).fs := ⟨always_imp (none0 _) fun o ho => by rw [ho]; exact partO_none a, none0 _, fun i hi => by simp [DS.new, FD.new, druns, NM.keys]⟩
 have hu : (DS.new q).used = 0 := rfl
 have s1 := put_stage (d := DS.new q) rfl hok0.core (s := a) (by unfold DS.room; rw [hu]; show a.length ≤ (max 0 (q - ((0 : Nat) : Int))).toNat; omega) hpre
 have c1 := calm_put a (DS.new q) rfl rfl; obtain ⟨d1, e1, hd1⟩ : ∃ d1 e1, (DS.new q).put a = (d1, e1) := ⟨_, _, rfl⟩; dsimp only at c1; rw [hd1] at s1 hok1 c1; obtain ⟨q1, p1⟩ := s1.calm c1.2; dsimp only at q1 p1 hok1 c1; subst q1
 exact ⟨d1, hd1, DS.ok_mono hok1 (by omega) (by omega), s1.1, c1.1, c1.2, p1⟩
theorem atomic_law (a b : List UInt8) (ha : a.length ≤ 100000) (hb : b.length ≤ 100000) (c : Bool) (t : Int) (t0 : 0 ≤ t) (t1 : t ≤ 100) (l l2 : List Int) : ∃ d1 : DS, (DS.new 1048576).put a = (d1, 0) ∧ d1.ok 12 1048576 ∧ d1.quota = 1048576 ∧ ∃ (d4 : DS) (e : Int),
   ((if c then (d1.create nTmp).1 else d1).arm t).put b = (d4, e) ∧ d4.ok 30 3145728 ∧ (e = 0 ∨ e = 13) ∧ (d4.down = false ↔ e = 0) ∧ d4.quota = 1048576 ∧
   (pubd (d4.restart l) b ∨ e ≠ 0 ∧ pubd (d4.restart l) a) ∧ (pubd ((d4.restart l).restart l2) b ∨ e ≠ 0 ∧ pubd ((d4.restart l).restart l2) a) ∧
   ∃ d7 : DS, ((d4.restart l).restart l2).put b = (d7, 0) ∧ d7.ok 50 5242880 ∧ pubd (d7.restart l) b := by
 obtain ⟨d1, hd1, hok1, q1, a1, u1, m1⟩ := pub_new a 1048576 (by omega) (by omega)
 refine ⟨d1, hd1, hok1, q1, ?_⟩
 obtain ⟨d2, hd2⟩ : ∃ d2, (if c then (d1.create nTmp).1 else d1) = d2 := ⟨_, rfl⟩
 have h2 : d2.ok 14 1048576 ∧ d2.quota = 1048576 ∧ d2.armed = 0 ∧ d2.down = false ∧ ManPre (some ⟨a, []⟩) b d2.fd d2.fs := by
   rw [← hd2]
   cases c with
   | false => exact ⟨DS.ok_mono hok1 (by omega) (qnZ _), q1, a1, u1, m1.pre b⟩
   | true =>
     have hc := hok1.core
     have ht : d1.fd.now.get nTmp = none := by
       cases hg : d1.fd.now.get nTmp with
       | none => rfl
       | some n =>
         obtain ⟨f, hf⟩ := FS.get_some.2 (FD.each_now hc.has nTmp n hg); have := always_now m1.1; rw [cont_of hg, hf] at this; cases this
     have hp := m1.pre b
     have s2 := stage_create u1 (P := ManPre (some ⟨a, []⟩) b) (B := fun _ _ => True) (x := nTmp) (by decide) ht trivial ⟨always_new hp.1 hc _ fun _ => partO_new (.inl rfl), always_new hp.2.1 hc _ fun e => absurd e (by decide), twoN_new hp.2.2 (.inl rfl)⟩
     have c2 := calm_create nTmp d1 a1 u1; dsimp only at c2; exact ⟨DS.ok_create hok1 nTmp, (create_quota d1 nTmp).trans q1, c2.1, c2.2, (s2.calm c2.2).2⟩
 rw [hd2]; obtain ⟨hok2, q2, a2, u2, m2⟩ := h2
 have hok3 := DS.ok_arm hok2 t (by omega)
 have s4 := put_stage (d := d2.arm t) u2 (show Core d2.fd d2.fs from hok2.core) (s := b) (o := some ⟨a, []⟩) (pre_room (d := d2.arm t) u2 hok2.core q2 m2 hb fun f hf => by cases hf; simpa [PF.now, runs] using ha) m2
 have hok4 := ok_put hok3 1048576 (by decide) (by show d2.quota ≤ _; rw [q2]; decide) b
 obtain ⟨d4, e, hd4⟩ : ∃ d4 e, (d2.arm t).put b = (d4, e) := ⟨_, _, rfl⟩; rw [hd4] at s4 hok4; dsimp only at hok4; have hq4 : d4.quota = 1048576 := s4.1.trans q2; have sb : (some ⟨b, []⟩ : Option PF) = none ∨ ∃ s, (some ⟨b, []⟩ : Option PF) = some ⟨s, []⟩ := .inr ⟨b, rfl⟩
 have key : (e = 0 ∨ e = 13) ∧ (d4.down = false ↔ e = 0) ∧ (ManPre (some ⟨b, []⟩) b (d4.restart l).fd (d4.restart l).fs ∨ e ≠ 0 ∧ ManPre (some ⟨a, []⟩) b (d4.restart l).fd (d4.restart l).fs) := by
   rcases s4.2 with ⟨g1, g2, g3⟩ | ⟨g1, g2, g3⟩
   · dsimp only at g1 g2 g3
     exact ⟨.inl g1, by rw [g2, g1]; simp, .inl (pre_restart hok4 l (g3.pre b))⟩
   · dsimp only at g1 g2 g3
     refine ⟨.inr g1, by rw [g2, g1]; simp, ?_⟩
     rcases bad_restart hok4 l (.inr ⟨a, rfl⟩) g3 with h | h
     · exact .inr ⟨by omega, h⟩
     · exact .inl h
 obtain ⟨k1, k2, k3⟩ := key; have hok5 := DS.ok_restart hok4 l; have hok6 := DS.ok_restart hok5 l2; have up5 : (d4.restart l).down = false := rfl; have up6 : ((d4.restart l).restart l2).down = false := rfl
 have k6 : ManPre (some ⟨b, []⟩) b ((d4.restart l).restart l2).fd ((d4.restart l).restart l2).fs ∨ e ≠ 0 ∧ ManPre (some ⟨a, []⟩) b ((d4.restart l).restart l2).fd ((d4.restart l).restart l2).fs :=
   k3.imp (fun h => pre_restart hok5 l2 h) fun h => ⟨h.1, pre_restart hok5 l2 h.2⟩
 have m6 : ∃ x : List UInt8, x.length ≤ 100000 ∧ ManPre (some ⟨x, []⟩) b ((d4.restart l).restart l2).fd ((d4.restart l).restart l2).fs := by
   rcases k6 with h | ⟨_, h⟩
   · exact ⟨b, hb, h⟩
   · exact ⟨a, ha, h⟩
 obtain ⟨x, hx, m6⟩ := m6
 refine ⟨d4, e, hd4, DS.ok_mono hok4 (by omega) (by omega), k1, k2, hq4, k3.imp (fun h => ⟨up5, always_now h.2.1⟩) fun h => ⟨h.1, up5, always_now h.2.2.1⟩, k6.imp (fun h => ⟨up6, always_now h.2.1⟩) fun h => ⟨h.1, up6, always_now h.2.2.1⟩, ?_⟩
 have q6 : ((d4.restart l).restart l2).quota = 1048576 := hq4
 have s7 := put_stage up6 hok6.core (s := b) (pre_room up6 hok6.core q6 m6 hb fun f hf => by cases hf; simpa [PF.now, runs] using hx) m6
 have c7 := calm_put b ((d4.restart l).restart l2) rfl up6
 have hok7 := ok_put hok6 1048576 (by decide) (by rw [q6]; decide) b
 obtain ⟨d7, e7, hd7⟩ : ∃ d7 e7, ((d4.restart l).restart l2).put b = (d7, e7) := ⟨_, _, rfl⟩; dsimp only at c7; rw [hd7] at s7 c7 hok7; obtain ⟨g1, g2⟩ := s7.calm c7.2; dsimp only at g1 g2 hok7; subst g1
 exact ⟨d7, hd7, DS.ok_mono hok7 (by omega) (by omega), rfl, always_now (pre_restart hok7 l (g2.pre b)).2.1⟩
end
section
open Go Go.Lib
attribute [-simp] drawOk_eq adraw qrun acode aops
def stD (d : DS) (gs : Nat → DS → DS × Int) : Nat → DS
 | 0 => d
 | i + 1 => (gs i (stD d gs i)).1
def stE (d : DS) (gs : Nat → DS → DS × Int) (i : Nat) : Int := (gs i (stD d gs i)).2
def seqK (gs : Nat → DS → DS × Int) : Nat → Nat → DS → DS × Int
 | 0, _, d => (d, 0)
 | k + 1, i, d => seqE (gs i d) (seqK gs k (i + 1))
theorem seqK_spec (d0 : DS) (gs : Nat → DS → DS × Int) (n : Nat) : ∀ (k i : Nat), i + k = n → (∀ j, j < i → stE d0 gs j = 0) → ∃ S, S ≤ n ∧ (∀ j, j < S → stE d0 gs j = 0) ∧ (S < n → stE d0 gs S ≠ 0) ∧ seqK gs k i (stD d0 gs i) = (stD d0 gs (if S < n then S + 1 else n), if S < n then stE d0 gs S else 0)
 | 0, i, h, hj => ⟨n, qnZ _, fun j hjn => hj j (by omega), fun h => by omega, by
   have : i = n := by omega
   subst this
   simp [seqK]⟩
 | k + 1, i, h, hj => by
   unfold seqK; by_cases h0 : stE d0 gs i = 0
   · rw [seqE, if_pos (show (gs i (stD d0 gs i)).2 = 0 from h0)]
     exact seqK_spec d0 gs n k (i + 1) (by omega) fun j hjn => by
       by_cases e : j = i
       · rw [e]; exact h0
       · exact hj j (by omega)
   · refine ⟨i, by omega, hj, fun _ => h0, ?_⟩
     rw [seqE, if_neg (show ¬ (gs i (stD d0 gs i)).2 = 0 from h0), if_pos (by omega), if_pos (by omega)]
     rfl
theorem seqE_last (r : DS × Int) : seqE r (fun d => (d, 0)) = r := by
 unfold seqE; split
 · rename_i h; exact Prod.ext rfl h.symm
 · rfl
def pt5 (s : List UInt8) : Nat → DS → DS × Int
 | 0 => fun d => d.create nTmp
 | 1 => fun d => d.append nTmp s
 | 2 => fun d => d.sync nTmp
 | 3 => fun d => d.rename nTmp nMan
 | _ => fun d => d.syncDir
def pt6 (s : List UInt8) : Nat → DS → DS × Int
 | 0 => fun d => d.remove nTmp
 | 1 => fun d => d.create nTmp
 | 2 => fun d => d.append nTmp s
 | 3 => fun d => d.sync nTmp
 | 4 => fun d => d.rename nTmp nMan
 | _ => fun d => d.syncDir
theorem put5 (d : DS) (s : List UInt8) (h : nTmp ∉ d.list) : d.put s = seqK (pt5 s) 5 0 d := by
 unfold DS.put DS.write; rw [if_neg h]
 have e : ∀ d, seqK (pt5 s) 1 4 d = d.syncDir := fun d => seqE_last _
 show seqE (d, 0) _ = _; rw [seqE, if_pos rfl]; simp only [seqK, pt5, seqE_last]
theorem put6 (d : DS) (s : List UInt8) (h : nTmp ∈ d.list) : d.put s = seqK (pt6 s) 6 0 d := by
 unfold DS.put DS.write; rw [if_pos h]; simp only [seqK, pt6, seqE_last]
end
end Go.Proofs.YthafeihjlamhhaaGreatDoor
