/- Parts of the proof of PublishFull: lemmas, each with its own conditions. -/
import Derived.Test.YthafeihjlamhhaaGreatDoorY18
namespace Go.Proofs.YthafeihjlamhhaaGreatDoor
open Go Go.Lib
set_option maxRecDepth 100000
abbrev nMan : List UInt8 := [109, 97, 110, 105, 102, 101, 115, 116]
abbrev nTmp : List UInt8 := [109, 97, 110, 105, 102, 101, 115, 116, 46, 116, 109, 112]
def DS.put (d : DS) (s : List UInt8) : DS × Int := seqE (if nTmp ∈ d.list then d.remove nTmp else (d, 0)) fun d => d.write nTmp s fun d => seqE (d.rename nTmp nMan) DS.syncDir
theorem sum_erase (x : List UInt8) (g : List UInt8 → Nat) : ∀ l : List (List UInt8), ((l.erase x).map g).sum ≤ (l.map g).sum
  | [] => Nat.le_refl _
  | y :: l => by
    rw [List.erase_cons]
    split
    · simp
    · simp only [List.map_cons, List.sum_cons]; have := sum_erase x g l; omega
theorem used_del {fs : FS} {l : NM} (h : NM.nd l) (x : List UInt8) : usedF fs (NM.del l x) ≤ usedF fs l := by
  unfold usedF
  rw [NM.keys_del]
  have : ((NM.keys l).erase x).map (fun k => (txt fs (NM.del l x) k).length) = ((NM.keys l).erase x).map fun k => (txt fs l k).length := by
    refine List.map_congr_left fun k hk => ?_
    have hne : k ≠ x := fun e => by
      subst e
      exact ((List.Nodup.mem_erase_iff h).1 hk).1 rfl
    unfold txt cont
    rw [NM.get_del h, if_neg hne]
  rw [this]
  exact sum_erase x _ _
theorem Core.rem {fd : FD} {fs : FS} (h : Core fd fs) {x : List UInt8} : Core ⟨fd.d, fd.acts ++ [.rem x], fd.last⟩ fs := by
  refine ⟨⟨h.num.1, FD.each_one h.num.2 (fun l a b hab hl => NumOk.mono hl hab) _ rfl rfl (Int.le_refl _) ((FD.each_now h.num.2).del x)⟩, ?_, h.rng⟩
  refine FD.each_one h.has (fun _ _ _ _ h => h) _ rfl rfl (Int.le_refl _) ?_
  intro k n hn
  simp only [DAct.run] at hn
  rw [NM.get_del (FD.each_now h.num.2).nd] at hn
  split at hn
  · cases hn
  · exact FD.each_now h.has k n hn
theorem twoN_rem {a b x : List UInt8} {fd : FD} (h : twoN a b fd) : twoN a b ⟨fd.d, fd.acts ++ [.rem x], fd.last⟩ := by
  refine FD.each_one h (fun _ _ _ _ h => h) _ rfl rfl (Int.le_refl _) ?_
  intro k hk
  simp only [DAct.run] at hk
  rw [NM.keys_del] at hk
  exact FD.each_now h k (List.mem_of_mem_erase hk)
theorem twoN_ren {a b x y : List UInt8} {n : Int} {fd : FD} (h : twoN a b fd) (hy : y = a ∨ y = b) : twoN a b ⟨fd.d, fd.acts ++ [.ren x y n], fd.last⟩ := by
  refine FD.each_one h (fun _ _ _ _ h => h) _ rfl rfl (Int.le_refl _) ?_
  intro k hk
  simp only [DAct.run] at hk
  rw [NM.keys_put] at hk
  have hd : ∀ k ∈ NM.keys (NM.del fd.now x), k = a ∨ k = b := fun k hk => by
    rw [NM.keys_del] at hk
    exact FD.each_now h k (List.mem_of_mem_erase hk)
  split at hk
  · exact hd k hk
  · rcases List.mem_append.1 hk with hk | hk
    · exact hd k hk
    · rw [List.mem_singleton.1 hk]; exact hy
def ManPre (o : Option PF) (s : List UInt8) (fd : FD) (fs : FS) : Prop := always fd fs nTmp (partO s) ∧ always fd fs nMan (· = o) ∧ twoN nTmp nMan fd
def ManBad (o : Option PF) (s : List UInt8) (fd : FD) (fs : FS) : Prop := always fd fs nTmp (partO s) ∧ always fd fs nMan (fun x => x = o ∨ x = some ⟨s, []⟩) ∧ twoN nTmp nMan fd
def ManDone (s : List UInt8) (fd : FD) (fs : FS) : Prop := always fd fs nTmp (· = none) ∧ always fd fs nMan (· = some ⟨s, []⟩) ∧ twoN nTmp nMan fd
theorem ManPre.bad {o : Option PF} {s : List UInt8} {fd : FD} {fs : FS} (h : ManPre o s fd fs) : ManBad o s fd fs := ⟨h.1, always_imp h.2.1 fun _ h => .inl h, h.2.2⟩
theorem ManDone.pre {s : List UInt8} {fd : FD} {fs : FS} (h : ManDone s fd fs) (t : List UInt8) : ManPre (some ⟨s, []⟩) t fd fs := ⟨always_imp h.1 fun o ho => by rw [ho]; exact partO_none t, h.2.1, h.2.2⟩
theorem list_mem {d : DS} (hd : d.down = false) (x : List UInt8) : x ∈ d.list ↔ d.fd.now.get x ≠ none := by
  unfold DS.list
  rw [hd]
  simp only [Bool.false_eq_true, if_false]
  constructor
  · intro h e
    obtain ⟨n, hn⟩ := FD.names_get h
    rw [hn] at e
    cases e
  · intro h
    cases hg : d.fd.now.get x with
    | none => exact absurd hg h
    | some n => exact FD.names_of hg
theorem put_stage {d : DS} (hd : d.down = false) (hc : Core d.fd d.fs) {s : List UInt8} {o : Option PF} (hroom : s.length ≤ d.room) (h : ManPre o s d.fd d.fs) : Stage (d.put s) d.quota (ManDone s) (ManBad o s) := by
  unfold DS.put
  have first : Stage (if nTmp ∈ d.list then d.remove nTmp else (d, 0)) d.quota (fun fd fs => Core fd fs ∧ ManPre o s fd fs ∧ fd.now.get nTmp = none ∧ usedF fs fd.now ≤ usedF d.fs d.fd.now) (ManBad o s) := by
    split
    · rename_i hm
      rw [list_mem hd] at hm
      cases hg : d.fd.now.get nTmp with
      | none => exact absurd hg hm
      | some n =>
        have hnd := (FD.each_now hc.num.2).nd
        refine stage_remove hd hg h.bad ⟨hc.rem, ⟨always_rem h.1 hc.num fun _ => partO_none s, always_rem h.2.1 hc.num fun e => absurd e (by decide), twoN_rem h.2.2⟩, ?_, ?_⟩
        · rw [now_more]; simp only [DAct.run]; rw [NM.get_del hnd, if_pos rfl]
        · rw [now_more]; exact used_del hnd _
    · rename_i hm
      rw [list_mem hd] at hm
      exact ⟨rfl, .inl ⟨rfl, hd, hc, h, Classical.not_not.1 hm, Nat.le_refl _⟩⟩
  refine first.seq fun d1 q1 u1 ⟨c1, m1, t1, us1⟩ => ?_
  rw [← q1]
  have hr : s.length ≤ d1.room := by
    unfold DS.room at hroom ⊢
    rw [used_F u1, q1]
    rw [used_F hd] at hroom
    omega
  refine write_stage u1 c1 (by decide) t1 hr m1.bad (fun f hf => ⟨always_new m1.1 c1 f fun _ => partO_new hf, always_imp (always_new m1.2.1 c1 f fun e => absurd e (by decide)) fun _ h => .inl h, twoN_new m1.2.2 (.inl rfl)⟩) fun d2 q2 u2 e1 e2 => ?_
  have g1 := always_new m1.1 c1 (x := nTmp) ⟨s, []⟩ fun _ => partO_new (.inr (.inr rfl))
  have g2 := always_new (k := nMan) m1.2.1 c1 (x := nTmp) ⟨s, []⟩ fun e => absurd e (by decide)
  have g3 := twoN_new (x := nTmp) m1.2.2 (.inl rfl)
  have c2 := c1.new t1 (by decide) ⟨s, []⟩
  have hT : (fdN d1.fd nTmp).now.get nTmp = some (d1.fd.last + 1) := by rw [now_more]; simp only [DAct.run]; rw [NM.get_put, if_pos rfl]
  have hcT : cont (fsN d1.fd d1.fs ⟨s, []⟩) (fdN d1.fd nTmp).now nTmp = some ⟨s, []⟩ := (cont_of hT).trans (FS.get_new c1.fresh)
  have bad2 : ManBad o s d2.fd d2.fs := by rw [e1, e2]; exact ⟨g1, always_imp g2 fun _ h => .inl h, g3⟩
  rw [← q2]
  have r1 : always ⟨(fdN d1.fd nTmp).d, (fdN d1.fd nTmp).acts ++ [.ren nTmp nMan (d1.fd.last + 1)], (fdN d1.fd nTmp).last⟩ (fsN d1.fd d1.fs ⟨s, []⟩) nTmp (partO s) := always_ren g1 c2.num hT (fun e => absurd e (by decide)) fun _ _ => partO_none s
  have r2 : always ⟨(fdN d1.fd nTmp).d, (fdN d1.fd nTmp).acts ++ [.ren nTmp nMan (d1.fd.last + 1)], (fdN d1.fd nTmp).last⟩ (fsN d1.fd d1.fs ⟨s, []⟩) nMan (fun x => x = o ∨ x = some ⟨s, []⟩) :=
    always_ren (always_imp g2 fun _ h => .inl h) c2.num hT (fun _ => .inr hcT) fun h e => absurd e (by decide)
  have hnd := (FD.each_now c2.num.2).nd
  refine (stage_rename u2 (P := fun fd fs => ManBad o s fd fs ∧ cont fs fd.now nTmp = none ∧ cont fs fd.now nMan = some ⟨s, []⟩) (x := nTmp) (y := nMan) (n := d1.fd.last + 1) (by decide) (by rw [e1]; exact hT) bad2 ?_).seq fun d3 q3 u3 ⟨m3, k3, l3⟩ => ?_
  · rw [e1, e2]
    refine ⟨⟨r1, r2, twoN_ren g3 (.inr rfl)⟩, ?_, ?_⟩
    · rw [now_more]
      exact cont_none (by simp only [DAct.run]; rw [NM.get_put, if_neg (by decide), NM.get_del hnd, if_pos rfl])
    · rw [now_more]
      exact (cont_of (n := d1.fd.last + 1) (by simp only [DAct.run]; rw [NM.get_put, if_pos rfl])).trans (FS.get_new c1.fresh)
  · rw [← q3]
    exact stage_syncDir u3 m3 ⟨always_one.2 k3, always_one.2 l3, twoN_one (FD.each_now m3.2.2)⟩
theorem calm_put (s : List UInt8) : calm fun d => d.put s := fun d h1 h2 => by
  have : (if nTmp ∈ d.list then d.remove nTmp else (d, 0)).1.armed = 0 ∧ (if nTmp ∈ d.list then d.remove nTmp else (d, 0)).1.down = false := by
    split
    · exact calm_remove nTmp d h1 h2
    · exact ⟨h1, h2⟩
  dsimp only
  unfold DS.put
  obtain ⟨r, hr⟩ : ∃ r, (if nTmp ∈ d.list then d.remove nTmp else (d, 0)) = r := ⟨_, rfl⟩
  rw [hr] at this ⊢
  rw [seqE]
  split
  · exact calm_write nTmp s (calm_seqE (calm_rename nTmp nMan) calm_syncDir) _ this.1 this.2
  · exact this
theorem ok_put {d : DS} {A B : Nat} (h : d.ok A B) (K : Nat) (hK : 1 ≤ K) (hq : d.quota ≤ K) (s : List UInt8) : (d.put s).1.ok (A + 12) (B + K) := by
  unfold DS.put
  have h1 : (if nTmp ∈ d.list then d.remove nTmp else (d, 0)).1.ok (A + 2) B ∧ (if nTmp ∈ d.list then d.remove nTmp else (d, 0)).1.quota = d.quota := by
    split
    · refine ⟨DS.ok_mono (DS.ok_remove h nTmp) (by omega) (Nat.le_refl _), ?_⟩
      unfold DS.remove DS.step
      split <;> simp
    · exact ⟨DS.ok_mono h (by omega) (Nat.le_refl _), rfl⟩
  obtain ⟨r, hr⟩ : ∃ r, (if nTmp ∈ d.list then d.remove nTmp else (d, 0)) = r := ⟨_, rfl⟩
  rw [hr] at h1 ⊢
  rw [seqE]
  split
  rotate_left
  · exact DS.ok_mono h1.1 (by omega) (by omega)
  refine DS.ok_mono (ok_write (A := A + 2) h1.1 K hK (by omega) nTmp s _ fun d' _ h' => ?_) (by omega) (Nat.le_refl _)
  have h2 := DS.ok_rename h' nTmp nMan
  unfold seqE
  split
  · exact DS.ok_mono (DS.ok_syncDir h2) (by omega) (Nat.le_refl _)
  · exact DS.ok_mono h2 (by omega) (Nat.le_refl _)
def pubd (d : DS) (s : List UInt8) : Prop := d.down = false ∧ cont d.fs d.fd.now nMan = some ⟨s, []⟩
theorem pub_new (a : List UInt8) (q : Int) (hq : (a.length : Int) ≤ q) (hq2 : q ≤ 1048576) : ∃ d1 : DS, (DS.new q).put a = (d1, 0) ∧ d1.ok 12 1048576 ∧ d1.quota = q ∧ d1.armed = 0 ∧ d1.down = false ∧ ManDone a d1.fd d1.fs := by
  have hq0 : 0 ≤ q := by omega
  have hok0 := DS.ok_new q hq0 (by omega)
  have hok1 := ok_put hok0 1048576 (by decide) (by show q ≤ _; omega) a
  have none0 : ∀ k, always (DS.new q).fd (DS.new q).fs k (· = none) := fun k i hi => by simp [DS.new, FD.new, druns, cont, NM.get]
  have hpre : ManPre none a (DS.new q).fd (DS.new q).fs := ⟨always_imp (none0 _) fun o ho => by rw [ho]; exact partO_none a, none0 _, fun i hi => by simp [DS.new, FD.new, druns, NM.keys]⟩
  have hu : (DS.new q).used = 0 := rfl
  have s1 := put_stage (d := DS.new q) rfl hok0.core (s := a) (by unfold DS.room; rw [hu]; show a.length ≤ (max 0 (q - ((0 : Nat) : Int))).toNat; omega) hpre
  have c1 := calm_put a (DS.new q) rfl rfl
  obtain ⟨d1, e1, hd1⟩ : ∃ d1 e1, (DS.new q).put a = (d1, e1) := ⟨_, _, rfl⟩
  dsimp only at c1
  rw [hd1] at s1 hok1 c1
  obtain ⟨q1, p1⟩ := s1.calm c1.2
  dsimp only at q1 p1 hok1 c1
  subst q1
  exact ⟨d1, hd1, DS.ok_mono hok1 (by omega) (by omega), s1.1, c1.1, c1.2, p1⟩
theorem full_law (a b : List UInt8) (n : Nat) (hn : a.length ≤ n) (hn2 : n ≤ 1000000) : ∃ d1 : DS, (DS.new n).put a = (d1, 0) ∧ d1.ok 12 1048576 ∧ d1.quota = n ∧ ∃ (d2 : DS) (e : Int), d1.put b = (d2, e) ∧ d2.ok 24 2097152 ∧
    (a.length + b.length ≤ n → e = 0 ∧ pubd d2 b) ∧ (n < a.length + b.length → e = 10 ∧ pubd d2 a ∧ d2.used = n) := by
  obtain ⟨d1, hd1, hok1, q1, a1, u1, m1⟩ := pub_new a n (by omega) (by omega)
  refine ⟨d1, hd1, hok1, q1, ?_⟩
  have hok2 := ok_put hok1 1048576 (by decide) (by omega) b
  have c2 := calm_put b d1 a1 u1
  dsimp only at c2
  have hc := hok1.core
  have hT : d1.fd.now.get nTmp = none := by
    cases hg : d1.fd.now.get nTmp with
    | none => rfl
    | some n =>
      obtain ⟨f, hf⟩ := FS.get_some.2 (FD.each_now hc.has nTmp n hg)
      have := always_now m1.1
      rw [cont_of hg, hf] at this
      cases this
  have hM := always_now m1.2.1
  have hused : usedF d1.fs d1.fd.now = a.length := by
    have hnd := (FD.each_now hc.num.2).nd
    have hk : ∀ k ∈ NM.keys d1.fd.now, k = nMan := fun k hk => by
      rcases FD.each_now m1.2.2 k hk with e | e
      · subst e; exact absurd hT (by obtain ⟨v, hv⟩ := NM.get_some.2 hk; rw [hv]; simp)
      · exact e
    have hin : nMan ∈ NM.keys d1.fd.now := by
      obtain ⟨v, hv, _⟩ := cont_get hM
      exact NM.get_some.1 ⟨v, hv⟩
    have : NM.keys d1.fd.now = [nMan] := by
      match hks : NM.keys d1.fd.now, hin, hk, hnd with
      | [x], _, hk, _ => rw [hk x (by simp)]
      | x :: y :: r, _, hk, hnd =>
        unfold NM.nd at hnd
        rw [hks] at hnd
        have h1 := hk x (by simp)
        have h2 := hk y (by simp)
        rw [h1, h2] at hnd
        simp at hnd
    unfold usedF
    rw [this]
    simp [txt, hM, PF.now, runs]
  have hroom : d1.room = n - a.length := by
    unfold DS.room
    rw [used_F u1, hused, q1]
    omega
  obtain ⟨d2, e, hd2⟩ : ∃ d2 e, d1.put b = (d2, e) := ⟨_, _, rfl⟩
  rw [hd2] at hok2
  refine ⟨d2, e, hd2, DS.ok_mono hok2 (by omega) (by omega), fun h => ?_, fun h => ?_⟩
  · have s2 := put_stage u1 hc (s := b) (by omega) (m1.pre b)
    rw [hd2] at s2 c2
    obtain ⟨g1, g2⟩ := s2.calm c2.2
    exact ⟨g1, c2.2, always_now g2.2.1⟩
  · have hl : nTmp ∉ d1.list := by rw [list_mem u1]; exact fun h => h hT
    have c3 := calm_create nTmp d1 a1 u1
    have s3 := stage_create u1 (P := fun fd fs => fd = fdN d1.fd nTmp ∧ fs = fsN d1.fd d1.fs ⟨[], []⟩) (B := fun _ _ => True) (x := nTmp) (by decide) hT trivial ⟨rfl, rfl⟩
    have q3 := create_quota d1 nTmp
    obtain ⟨d3, e3, hd3⟩ : ∃ d3 e3, d1.create nTmp = (d3, e3) := ⟨_, _, rfl⟩
    dsimp only at c3
    rw [hd3] at s3 c3 q3
    dsimp only at c3 q3
    obtain ⟨g1, g2, g3⟩ := s3.calm c3.2
    dsimp only at g1 g2 g3
    subst g1
    have hnow : d3.fd.now.get nTmp = some (d1.fd.last + 1) := by rw [g2, now_more]; simp only [DAct.run]; rw [NM.get_put, if_pos rfl]
    have hget : FS.get d3.fs (d1.fd.last + 1) = some ⟨[], []⟩ := by rw [g3]; exact FS.get_new hc.fresh
    have hr3 : d3.room = n - a.length := by
      unfold DS.room
      rw [used_F c3.2, g2, g3, used_new hc hT, hused, q3, q1]
      simp [PF.now, runs]
      omega
    have happ : d3.append nTmp b = (⟨d3.fd, fsN d1.fd d1.fs ((⟨[], []⟩ : PF).add (b.take (n - a.length))), d3.quota, d3.steps + 1, d3.armed, d3.down⟩, 10) := by
      unfold DS.append DS.of
      rw [DS.step_up c3.1 c3.2]
      dsimp only
      rw [hnow]
      dsimp only
      rw [hget]
      dsimp only
      have : (⟨d3.fd, d3.fs, d3.quota, d3.steps + 1, d3.armed, d3.down⟩ : DS).room = d3.room := rfl
      rw [this, hr3, if_pos (by omega), g3]
      simp only
      rw [FS.upd_app hc.fresh]
    have hput : d1.put b = (⟨d3.fd, fsN d1.fd d1.fs ((⟨[], []⟩ : PF).add (b.take (n - a.length))), d3.quota, d3.steps + 1, d3.armed, d3.down⟩, 10) := by
      unfold DS.put DS.write seqE
      rw [if_neg hl]
      dsimp only
      rw [if_pos rfl, hd3]
      dsimp only
      rw [if_pos rfl, happ]
      rfl
    rw [hput] at hd2
    cases hd2
    refine ⟨rfl, ⟨c3.2, ?_⟩, ?_⟩
    · dsimp only
      rw [g2]
      exact always_now (always_new (k := nMan) m1.2.1 hc _ fun e => absurd e (by decide))
    · refine (used_F (d := ⟨d3.fd, fsN d1.fd d1.fs ((⟨[], []⟩ : PF).add (b.take (n - a.length))), d3.quota, d3.steps + 1, d3.armed, d3.down⟩) c3.2).trans ?_
      dsimp only
      rw [g2, used_new hc hT, hused, PF.now_add]
      simp [PF.now, runs]
      omega
end Go.Proofs.YthafeihjlamhhaaGreatDoor
namespace Go.Proofs.YthafeihjlamhhaaGreatDoor
open Go Go.Lib
set_option maxRecDepth 100000
attribute [-simp] drawOk_eq adraw qrun acode aops
def stD (d : DS) (gs : Nat → DS → DS × Int) : Nat → DS
  | 0 => d
  | i + 1 => (gs i (stD d gs i)).1
def stE (d : DS) (gs : Nat → DS → DS × Int) (i : Nat) : Int := (gs i (stD d gs i)).2
def seqK (gs : Nat → DS → DS × Int) : Nat → Nat → DS → DS × Int
  | 0, _, d => (d, 0)
  | k + 1, i, d => seqE (gs i d) (seqK gs k (i + 1))
theorem seqK_spec (d0 : DS) (gs : Nat → DS → DS × Int) (n : Nat) : ∀ (k i : Nat), i + k = n → (∀ j, j < i → stE d0 gs j = 0) → ∃ S, S ≤ n ∧ (∀ j, j < S → stE d0 gs j = 0) ∧ (S < n → stE d0 gs S ≠ 0) ∧ seqK gs k i (stD d0 gs i) = (stD d0 gs (if S < n then S + 1 else n), if S < n then stE d0 gs S else 0)
  | 0, i, h, hj => ⟨n, Nat.le_refl _, fun j hjn => hj j (by omega), fun h => by omega, by
    have : i = n := by omega
    subst this
    simp [seqK]⟩
  | k + 1, i, h, hj => by
    unfold seqK
    by_cases h0 : stE d0 gs i = 0
    · rw [seqE, if_pos (show (gs i (stD d0 gs i)).2 = 0 from h0)]
      exact seqK_spec d0 gs n k (i + 1) (by omega) fun j hjn => by
        by_cases e : j = i
        · rw [e]; exact h0
        · exact hj j (by omega)
    · refine ⟨i, by omega, hj, fun _ => h0, ?_⟩
      rw [seqE, if_neg (show ¬ (gs i (stD d0 gs i)).2 = 0 from h0), if_pos (by omega), if_pos (by omega)]
      rfl
theorem seqE_last (r : DS × Int) : seqE r (fun d => (d, 0)) = r := by
  unfold seqE
  split
  · rename_i h; exact Prod.ext rfl h.symm
  · rfl
def pt5 (s : List UInt8) : Nat → DS → DS × Int
  | 0 => fun d => d.create nTmp
  | 1 => fun d => d.append nTmp s
  | 2 => fun d => d.sync nTmp
  | 3 => fun d => d.rename nTmp nMan
  | _ => fun d => d.syncDir
def pt6 (s : List UInt8) : Nat → DS → DS × Int
  | 0 => fun d => d.remove nTmp
  | 1 => fun d => d.create nTmp
  | 2 => fun d => d.append nTmp s
  | 3 => fun d => d.sync nTmp
  | 4 => fun d => d.rename nTmp nMan
  | _ => fun d => d.syncDir
theorem put5 (d : DS) (s : List UInt8) (h : nTmp ∉ d.list) : d.put s = seqK (pt5 s) 5 0 d := by
  unfold DS.put DS.write
  rw [if_neg h]
  have e : ∀ d, seqK (pt5 s) 1 4 d = d.syncDir := fun d => seqE_last _
  show seqE (d, 0) _ = _
  rw [seqE, if_pos rfl]
  simp only [seqK, pt5, seqE_last]
theorem put6 (d : DS) (s : List UInt8) (h : nTmp ∈ d.list) : d.put s = seqK (pt6 s) 6 0 d := by
  unfold DS.put DS.write
  rw [if_pos h]
  simp only [seqK, pt6, seqE_last]
end Go.Proofs.YthafeihjlamhhaaGreatDoor
