/- Parts of the proof of PublishWhole: lemmas, each with its own conditions. -/
import Derived.Test.YthafeihjlamhhaaGreatDoorY16
import Derived.Test.YthafeihjlamhhaaGreatDoorY4
import Derived.Test.YthafeihjlamhhaaGreatDoorY13
import Derived.Test.YthafeihjlamhhaaGreatDoorY17
import Derived.Test.YthafeihjlamhhaaGreatDoorY11
namespace Go.Proofs.YthafeihjlamhhaaGreatDoor
open Go Go.Lib
set_option maxRecDepth 100000
attribute [-simp] drawOk_eq adraw qrun acode aops
structure DA where
  w : Nat
  a : Nat
  b : Nat
  s : List UInt8
  n : Int
  l : List Int
def DA.ok (x : DA) : Prop := x.w ≤ 255 ∧ x.a ≤ 255 ∧ x.b ≤ 255 ∧ x.s.length ≤ 9223372036854775807 ∧ (-32768 ≤ x.n ∧ x.n ≤ 32767) ∧ x.l.length ≤ 9223372036854775807 ∧ ∀ c ∈ x.l, 0 ≤ c ∧ c ≤ 65535
end Go.Proofs.YthafeihjlamhhaaGreatDoor
namespace Go.Proofs.YthafeihjlamhhaaGreatDoor
open Go Go.Lib
set_option maxRecDepth 100000
attribute [-simp] drawOk_eq adraw qrun acode aops
end Go.Proofs.YthafeihjlamhhaaGreatDoor
namespace Go.Proofs.YthafeihjlamhhaaGreatDoor
open Go Go.Lib
set_option maxRecDepth 100000
attribute [-simp] drawOk_eq adraw qrun acode aops
structure Ar (a : Int) (d f : DS) : Prop where
  fd : d.fd = f.fd
  fs : d.fs = f.fs
  q1 : d.quota = 200
  q2 : f.quota = 200
  fa : f.armed = 0
  fw : f.down = false
  da : d.armed = a
  dw : d.down = decide (a = 0)
structure StepG (g : DS → DS × Int) : Prop where
  same : ∀ d f, d.fd = f.fd → d.fs = f.fs → d.quota = f.quota → d.down = f.down → (g d).2 = (g f).2 ∧ (g d).1.fd = (g f).1.fd ∧ (g d).1.fs = (g f).1.fs
  rest : ∀ d, (g d).1.quota = d.quota ∧ (g d).1.armed = d.armed ∧ (g d).1.down = d.down
theorem Ar.zero {d f : DS} (h : Ar 0 d f) (g : DS → DS × Int) : d.step g = (d.count, 13) ∧ Ar 0 d.count f := by
  have hdw : d.down = true := by rw [h.dw]; rfl
  have hc : d.count = ⟨d.fd, d.fs, d.quota, d.steps + 1, d.armed, d.down⟩ := by unfold DS.count; rw [if_neg (by rw [hdw]; simp)]
  refine ⟨?_, ?_⟩
  · unfold DS.step
    rw [hc, if_pos (by exact hdw)]
  · rw [hc]
    exact ⟨h.fd, h.fs, h.q1, h.q2, h.fa, h.fw, h.da, h.dw⟩
theorem Ar.one {d f : DS} (h : Ar 1 d f) (g : DS → DS × Int) : d.step g = (d.count, 13) ∧ Ar 0 d.count f := by
  have hdw : d.down = false := by rw [h.dw]; rfl
  have hc : d.count = ⟨d.fd, d.fs, d.quota, d.steps + 1, d.armed - 1, decide (d.armed - 1 = 0)⟩ := by unfold DS.count; rw [if_pos ⟨by rw [h.da]; decide, hdw⟩]
  refine ⟨?_, ?_⟩
  · unfold DS.step
    rw [hc, if_pos (by simp [h.da])]
  · rw [hc]
    exact ⟨h.fd, h.fs, h.q1, h.q2, h.fa, h.fw, by simp [h.da], by simp [h.da]⟩
theorem Ar.more {a : Int} {d f : DS} (h : Ar a d f) (ha : 1 < a) {g : DS → DS × Int} (hg : StepG g) : (d.step g).2 = (f.step g).2 ∧ Ar (a - 1) (d.step g).1 (f.step g).1 := by
  have hdw : d.down = false := by rw [h.dw]; simp; omega
  have hc : d.count = ⟨d.fd, d.fs, d.quota, d.steps + 1, d.armed - 1, decide (d.armed - 1 = 0)⟩ := by unfold DS.count; rw [if_pos ⟨by rw [h.da]; omega, hdw⟩]
  have hcf : f.count = ⟨f.fd, f.fs, f.quota, f.steps + 1, f.armed, f.down⟩ := by unfold DS.count; rw [if_neg (by rw [h.fa]; simp)]
  have hcd : d.count.down = false := by rw [hc]; simp [h.da]; omega
  have hcd2 : f.count.down = false := by rw [hcf]; exact h.fw
  have e1 : d.step g = g d.count := by unfold DS.step; rw [if_neg (by rw [hcd]; decide)]
  have e2 : f.step g = g f.count := by unfold DS.step; rw [if_neg (by rw [hcd2]; decide)]
  rw [e1, e2]
  obtain ⟨h1, h2, h3⟩ := hg.same d.count f.count (by rw [DS.count_fd, DS.count_fd]; exact h.fd) (by rw [DS.count_fs, DS.count_fs]; exact h.fs) (by rw [DS.count_quota, DS.count_quota, h.q1, h.q2]) (by rw [hcd, hcd2])
  obtain ⟨r1, r2, r3⟩ := hg.rest d.count
  obtain ⟨s1, s2, s3⟩ := hg.rest f.count
  refine ⟨h1, h2, h3, by rw [r1, DS.count_quota]; exact h.q1, by rw [s1, DS.count_quota]; exact h.q2, by rw [s2, hcf]; exact h.fa, by rw [s3, hcd2], by rw [r2, hc]; show d.armed - 1 = _; rw [h.da], ?_⟩
  rw [r3, hcd]
  simp; omega
theorem list_eq {d f : DS} (h1 : d.fd = f.fd) (h4 : d.down = f.down) : d.list = f.list := by unfold DS.list; rw [h1, h4]
theorem text_eq {d f : DS} (h1 : d.fd = f.fd) (h2 : d.fs = f.fs) (k : List UInt8) : d.text k = f.text k := by unfold DS.text DS.file; rw [h1, h2]
theorem files_eq {d f : DS} (h1 : d.fd = f.fd) (h2 : d.fs = f.fs) (h4 : d.down = f.down) : d.files = f.files := by
  unfold DS.files
  rw [list_eq h1 h4]
  exact List.map_congr_left fun k _ => by rw [text_eq h1 h2]
theorem used_eq {d f : DS} (h1 : d.fd = f.fd) (h2 : d.fs = f.fs) (h4 : d.down = f.down) : d.used = f.used := by rw [DS.used_sum, DS.used_sum, files_eq h1 h2 h4]
theorem Ar.files {a : Int} {d f : DS} (h : Ar a d f) (ha : 0 < a) : d.files = f.files := files_eq h.fd h.fs (by rw [h.dw, h.fw]; simp; omega)
end Go.Proofs.YthafeihjlamhhaaGreatDoor
namespace Go.Proofs.YthafeihjlamhhaaGreatDoor
open Go Go.Lib
set_option maxRecDepth 100000
attribute [-simp] drawOk_eq adraw qrun acode aops
abbrev KM := List (List UInt8 × List UInt8 × Bool)
def KM.get : KM → List UInt8 → Option (List UInt8 × Bool)
  | [], _ => none
  | e :: l, k => if e.1 = k then some e.2 else KM.get l k
def KM.put : KM → List UInt8 → List UInt8 × Bool → KM
  | [], k, v => [(k, v)]
  | e :: l, k, v => if e.1 = k then (k, v) :: l else e :: KM.put l k v
def KM.keys (l : KM) : List (List UInt8) := l.map (·.1)
theorem KM.get_put (l : KM) (k k' : List UInt8) (v : List UInt8 × Bool) : KM.get (KM.put l k v) k' = if k' = k then some v else KM.get l k' := by
  induction l with
  | nil => simp only [KM.put, KM.get, eq_comm]
  | cons e l ih =>
    unfold KM.put
    split
    · rename_i h
      subst h
      unfold KM.get
      by_cases hk : k' = e.1
      · simp [hk]
      · simp only [Ne.symm hk, hk, if_false]
    · rename_i h
      unfold KM.get
      rw [ih]
      by_cases hk : e.1 = k'
      · rw [if_pos hk, if_pos hk, if_neg (by rintro rfl; exact h hk)]
      · rw [if_neg hk, if_neg hk]
theorem KM.keys_put (l : KM) (k : List UInt8) (v : List UInt8 × Bool) : KM.keys (KM.put l k v) = if k ∈ KM.keys l then KM.keys l else KM.keys l ++ [k] := by
  induction l with
  | nil => simp [KM.put, KM.keys]
  | cons e l ih =>
    unfold KM.put
    simp only [KM.keys, List.map_cons, List.mem_cons] at ih ⊢
    split
    · rename_i h; simp [h]
    · rename_i h
      rw [List.map_cons, ih]
      by_cases hk : k ∈ l.map (·.1)
      · simp [hk]
      · simp [hk, Ne.symm h]
theorem KM.nd_put {l : KM} (h : (KM.keys l).Nodup) (k : List UInt8) (v : List UInt8 × Bool) : (KM.keys (KM.put l k v)).Nodup := by
  rw [KM.keys_put]
  split
  · exact h
  · rename_i hk
    rw [List.nodup_append]
    exact ⟨h, by simp, fun a ha b hb => by simp at hb; subst hb; rintro rfl; exact hk ha⟩
def keepsF (s : List UInt8) (f : PF) : Prop := ∀ i, s <+: (runs f.d (f.acts.take i)).take 10000
theorem keepsF_new (s : List UInt8) : keepsF (s.take 10000) ⟨s, []⟩ := fun i => by simp [runs]
theorem pre_more {s a : List UInt8} (x : List UInt8) (h : s <+: a.take 10000) : s <+: (a ++ x).take 10000 := h.trans (by rw [List.take_append]; exact List.prefix_append _ _)
theorem keepsF_add {s : List UInt8} {f : PF} (h : keepsF s f) (m : List UInt8) : keepsF s (f.add m) := by
  unfold PF.add
  split
  · exact h
  · intro i
    dsimp only
    rcases Nat.lt_or_ge f.acts.length i with h1 | h1
    · have e : (f.acts ++ [FAct.add m]).take i = f.acts ++ [FAct.add m] := List.take_of_length_le (by simp; omega)
      rw [e, runs_append]
      have h2 := h f.acts.length
      rw [List.take_length] at h2
      exact pre_more m h2
    · rw [List.take_append_of_le_length h1]
      exact h i
theorem keepsF_stays {s : List UInt8} {f : PF} (h : keepsF s f) (a b : Int) : keepsF s ⟨f.stays a b, []⟩ := by
  intro i
  rw [List.take_nil]
  show s <+: (f.stays a b).take 10000
  unfold PF.stays
  exact pre_more _ (h _)
def Kept (fd : FD) (fs : FS) (k s : List UInt8) : Prop := ∃ n f, fd.each (fun l _ => NM.get l k = some n) ∧ FS.get fs n = some f ∧ keepsF s f
theorem each_num (k : List UInt8) (n : Int) : ∀ (l : NM) (a b : Int), a ≤ b → NM.get l k = some n → NM.get l k = some n := fun _ _ _ _ h => h
theorem Kept.create {fd : FD} {fs : FS} {k s : List UInt8} (h : Kept fd fs k s) (x : List UInt8) (g : PF) : Kept (fd.create x).1 (fs ++ [((fd.create x).2.1, g)]) k s := by
  obtain ⟨n, f, h1, h2, h3⟩ := h
  refine ⟨n, f, ?_, by rw [FS.get_app, h2], h3⟩
  unfold FD.create
  split
  · split
    · exact h1
    · rename_i hno
      refine FD.each_one h1 (each_num k n) _ rfl rfl (by dsimp only; omega) ?_
      have := FD.each_now h1
      simp only [DAct.run]
      rw [NM.get_put, if_neg (by rintro rfl; rw [hno] at this; cases this)]
      exact this
  · exact h1
theorem FD.create_err {fd : FD} {x : List UInt8} (h : (fd.create x).2.2 ≠ 0) : (fd.create x).1 = fd := by
  unfold FD.create at h ⊢
  split
  · split
    · rfl
    · rename_i h1 _ h2; rw [if_pos h1, h2] at h; exact absurd rfl h
  · rfl
theorem Kept.upd {fd : FD} {fs : FS} {k s s' x : List UInt8} {n : Int} {g : PF → PF} (h : Kept fd fs k s) (hnum : fd.numOk) (hx : fd.now.get x = some n)
    (hg : k = x → ∀ f, FS.get fs n = some f → keepsF s f → keepsF s' (g f)) (hs : k ≠ x → s' = s) : Kept fd (FS.upd fs n g) k s' := by
  obtain ⟨m, f, h1, h2, h3⟩ := h
  have hk := FD.each_now h1
  by_cases e : k = x
  · subst e
    rw [hx] at hk
    cases hk
    exact ⟨n, g f, h1, by rw [FS.get_upd, if_pos rfl, h2]; rfl, hg rfl f h2 h3⟩
  · have hne : m ≠ n := by
      rintro rfl
      exact e ((FD.each_now hnum.2).inj k x m hk hx)
    rw [hs e]
    exact ⟨m, f, h1, by rw [FS.get_upd, if_neg hne]; exact h2, h3⟩
theorem Kept.sync {fd : FD} {fs : FS} {k s : List UInt8} (h : Kept fd fs k s) (i : Int) : Kept (fd.survive i) fs k s := by
  obtain ⟨m, f, h1, h2, h3⟩ := h
  exact ⟨m, f, FD.each_survive h1 i, h2, h3⟩
structure KInv (q A B : Nat) (d : DS) (m : KM) : Prop where
  ok : d.ok A B
  up : d.down = false
  arm : d.armed = 0
  quota : d.quota = q
  nd : (KM.keys m).Nodup
  kept : ∀ k s, KM.get m k = some (s, false) → Kept d.fd d.fs k s
theorem DS.count_up {d : DS} (h : d.armed = 0) : d.count = ⟨d.fd, d.fs, d.quota, d.steps + 1, d.armed, d.down⟩ := by unfold DS.count; rw [if_neg (by rw [h]; simp)]
theorem DS.step_up {d : DS} (h : d.armed = 0) (hd : d.down = false) (g : DS → DS × Int) : d.step g = g ⟨d.fd, d.fs, d.quota, d.steps + 1, d.armed, d.down⟩ := by
  unfold DS.step
  rw [DS.count_up h, if_neg (by dsimp only; rw [hd]; decide)]
theorem KInv.new (q : Nat) (hq : q ≤ 1000000) : KInv q 0 0 (DS.new q) [] := ⟨DS.ok_new _ (by omega) (by omega), rfl, rfl, rfl, List.nodup_nil, fun k s h => by cases h⟩
theorem KInv.mono {q A B A' B' : Nat} {d : DS} {m : KM} (h : KInv q A B d m) (ha : A ≤ A') (hb : B ≤ B') : KInv q A' B' d m := ⟨DS.ok_mono h.ok ha hb, h.up, h.arm, h.quota, h.nd, h.kept⟩
theorem KInv.create {q A B : Nat} {d : DS} {m : KM} (h : KInv q A B d m) (x : List UInt8) : KInv q (A + 2) B (d.create x).1 m := by
  have hok := DS.ok_create h.ok x
  unfold DS.create at hok ⊢
  rw [DS.step_up h.arm h.up] at hok ⊢
  dsimp only at hok ⊢
  split
  · rename_i he
    rw [if_pos he] at hok
    exact ⟨hok, h.up, h.arm, h.quota, h.nd, fun k s hk => (h.kept k s hk).create x _⟩
  · rename_i he
    rw [if_neg he] at hok
    exact ⟨hok, h.up, h.arm, h.quota, h.nd, fun k s hk => by dsimp only; rw [FD.create_err he]; exact h.kept k s hk⟩
theorem KInv.syncDir {q A B : Nat} {d : DS} {m : KM} (h : KInv q A B d m) : KInv q (A + 2) B d.syncDir.1 m := by
  have hok := DS.ok_syncDir h.ok
  unfold DS.syncDir at hok ⊢
  rw [DS.step_up h.arm h.up] at hok ⊢
  exact ⟨hok, h.up, h.arm, h.quota, h.nd, fun k s hk => (h.kept k s hk).sync _⟩
theorem DS.of_up {d : DS} (h : d.armed = 0) (hd : d.down = false) (x : List UInt8) (g : DS → PF → PF × Int) : (d.of x g).1.down = false ∧ (d.of x g).1.armed = 0 ∧ (d.of x g).1.quota = d.quota ∧ (d.of x g).1.fd = d.fd ∧
    ((d.of x g).1.fs = d.fs ∧ ((d.of x g).2 ≠ 0 ∧ (d.of x g).2 ≠ 10) ∨ ∃ n f, d.fd.now.get x = some n ∧ FS.get d.fs n = some f ∧ (d.of x g).1.fs = FS.upd d.fs n (fun _ => (g ⟨d.fd, d.fs, d.quota, d.steps + 1, d.armed, d.down⟩ f).1) ∧ (d.of x g).2 = (g ⟨d.fd, d.fs, d.quota, d.steps + 1, d.armed, d.down⟩ f).2) := by
  unfold DS.of
  rw [DS.step_up h hd]
  dsimp only
  cases hn : d.fd.now.get x with
  | none => exact ⟨hd, h, rfl, rfl, .inl ⟨rfl, by simp, by simp⟩⟩
  | some n =>
    dsimp only
    cases hf : FS.get d.fs n with
    | none => exact ⟨hd, h, rfl, rfl, .inl ⟨rfl, by simp, by simp⟩⟩
    | some f => exact ⟨hd, h, rfl, rfl, .inr ⟨n, f, rfl, hf, rfl, rfl⟩⟩
theorem KInv.append {q A B : Nat} {d : DS} {m : KM} (h : KInv q A B d m) (x s : List UInt8) (K : Nat) (hK : 1 ≤ K) (hq : q ≤ K) : KInv q (A + 1) (B + K) (d.append x s).1 m := by
  have hok := DS.ok_append h.ok x s K hK (by rw [h.quota]; omega)
  unfold DS.append at hok ⊢
  obtain ⟨h1, h2, h3, h4, h5⟩ := DS.of_up h.arm h.up x fun d f => if d.room < s.length then (f.add (s.take d.room), 10) else (f.add s, 0)
  refine ⟨hok, h1, h2, h3.trans h.quota, h.nd, fun k s' hk => ?_⟩
  rw [h4]
  rcases h5 with ⟨e1, _⟩ | ⟨n, f, e1, e2, e3, _⟩
  · rw [e1]; exact h.kept k s' hk
  · rw [e3]
    refine (h.kept k s' hk).upd h.ok.num e1 (fun _ f' hf' hkf => ?_) fun _ => rfl
    rw [e2] at hf'
    cases hf'
    split <;> exact keepsF_add hkf _
theorem DS.readAt_all {d : DS} (hd : d.down = false) {k : List UInt8} {n : Int} {f : PF} (h1 : d.fd.now.get k = some n) (h2 : FS.get d.fs n = some f) : d.readAt k 0 10000 = (f.now.take 10000, 0) := by
  unfold DS.readAt
  rw [hd, h1]
  simp only [Bool.false_eq_true, if_false]
  rw [h2]
  unfold PF.readAt
  dsimp only
  rw [if_neg (by omega)]
  simp
theorem KInv.sync {q A B : Nat} {d : DS} {m : KM} (h : KInv q A B d m) (x : List UInt8) :
    KInv q (A + 1) B (d.sync x).1 (if (d.sync x).2 = 0 then (match KM.get m x with | some k => KM.put m x (((d.sync x).1.readAt x 0 10000).1, k.2) | none => m) else m) := by
  have hok := DS.ok_sync h.ok x
  obtain ⟨h1, h2, h3, h4, h5⟩ : (d.sync x).1.down = false ∧ (d.sync x).1.armed = 0 ∧ (d.sync x).1.quota = d.quota ∧ (d.sync x).1.fd = d.fd ∧ _ := DS.of_up h.arm h.up x fun _ f => (⟨f.now, []⟩, 0)
  have h5' : (d.sync x).1.fs = d.fs ∧ ((d.sync x).2 ≠ 0 ∧ (d.sync x).2 ≠ 10) ∨ ∃ n f, d.fd.now.get x = some n ∧ FS.get d.fs n = some f ∧ (d.sync x).1.fs = FS.upd d.fs n (fun _ => ⟨f.now, []⟩) ∧ (d.sync x).2 = 0 := h5
  clear h5
  obtain ⟨d', hd'⟩ : ∃ d', (d.sync x).1 = d' := ⟨_, rfl⟩
  rw [hd'] at h1 h2 h3 h4 h5' hok ⊢
  split
  · rename_i he
    rcases h5' with ⟨_, e2⟩ | ⟨n, f, e1, e2, e3, _⟩
    · exact absurd he e2.1
    have hr : d'.readAt x 0 10000 = (f.now.take 10000, 0) := by
      rw [DS.readAt_all h1 (n := n) (f := ⟨f.now, []⟩) (by rw [h4]; exact e1) (by rw [e3, FS.get_upd, if_pos rfl, e2]; rfl)]
      rfl
    refine ⟨hok, h1, h2, h3.trans h.quota, ?_, fun k s hk => ?_⟩
    · split
      · exact KM.nd_put h.nd _ _
      · exact h.nd
    · rw [h4, e3]
      cases hx : KM.get m x with
      | none =>
        rw [hx] at hk
        dsimp only at hk
        refine (h.kept k s hk).upd h.ok.num e1 (fun e => ?_) fun _ => rfl
        subst e
        rw [hx] at hk
        cases hk
      | some v =>
        rw [hx] at hk
        dsimp only at hk
        rw [KM.get_put, hr] at hk
        split at hk
        · rename_i e
          subst e
          obtain ⟨rfl, hv2⟩ := Prod.mk.inj (Option.some.inj hk)
          refine (h.kept k v.1 ?_).upd h.ok.num e1 (fun _ f' _ _ => keepsF_new _) fun hne => absurd rfl hne
          rw [hx, ← hv2]
        · rename_i e
          exact (h.kept k s hk).upd h.ok.num e1 (fun e' => absurd e' e) fun _ => rfl
  · rename_i he
    rcases h5' with ⟨e1, _⟩ | ⟨n, f, e1, e2, e3, e4⟩
    · exact ⟨hok, h1, h2, h3.trans h.quota, h.nd, fun k s hk => by rw [h4, e1]; exact h.kept k s hk⟩
    · exact absurd e4 he
theorem PF.now_add (f : PF) (m : List UInt8) : (f.add m).now = f.now ++ m := by
  unfold PF.add
  split
  · rename_i h; simp [h]
  · simp [PF.now, runs_append, runs, FAct.run]
theorem FD.names_nd {fd : FD} (h : fd.numOk) : fd.names.Nodup := (sortU_perm _).symm.nodup (FD.each_now h.2).nd
theorem stay_keeps (fd : FD) (s : List UInt8) : ∀ (ks : List (List UInt8)) (st : List Int × FS × List Int) (n : Int) (f : PF), FS.get st.2.1 n = some f → keepsF s f → ∃ f', FS.get (ks.foldl (stay1 fd) st).2.1 n = some f' ∧ keepsF s f'
  | [], st, n, f, h, hk => ⟨f, h, hk⟩
  | k :: ks, st, n, f, h, hk => by
    rw [List.foldl_cons]
    have h4 : ∃ f', FS.get (stay1 fd st k).2.1 n = some f' ∧ keepsF s f' := by
      simp only [stay1]
      rw [FS.get_upd]
      split
      · rename_i e
        rw [← e, h]
        exact ⟨_, rfl, keepsF_stays hk _ _⟩
      · exact ⟨f, h, hk⟩
    obtain ⟨f1, g1, g2⟩ := h4
    exact stay_keeps fd s ks _ n f1 g1 g2
theorem KInv.restart {q A B : Nat} {d : DS} {m : KM} (h : KInv q A B d m) (l : List Int) {k s : List UInt8} (hk : KM.get m k = some (s, false)) :
    ((d.restart l).readAt k 0 10000).2 = 0 ∧ s <+: ((d.restart l).readAt k 0 10000).1 := by
  obtain ⟨n, f, h1, h2, h3⟩ := h.kept k s hk
  obtain ⟨fd, hfd⟩ : ∃ fd, d.fd.survive (l.headD 0) = fd := ⟨_, rfl⟩
  have hnow : fd.now.get k = some n := by
    have := FD.each_now (FD.each_survive h1 (l.headD 0))
    rw [hfd] at this
    exact this
  obtain ⟨r, hr⟩ : ∃ r, stayAll fd l.tail d.fs fd.names = r := ⟨_, rfl⟩
  obtain ⟨f', g1, g2⟩ := stay_keeps fd s fd.names (l.tail, d.fs, []) n f h2 h3
  have g1' : FS.get r.2.1 n = some f' := by rw [← hr]; exact g1
  have hmem : n ∈ r.2.2 := by
    rw [← hr]
    unfold stayAll
    rw [stayAll_mem]
    exact .inr ⟨k, FD.names_of hnow, by rw [FD.find_get hnow]⟩
  have hd : d.restart l = ⟨fd, thereF r.2.1 r.2.2, d.quota, d.steps, 0, false⟩ := by
    unfold DS.restart
    rw [hfd, hr]
  have := DS.readAt_all (d := d.restart l) (by rw [hd]) (k := k) (n := n) (f := f') (by rw [hd]; exact hnow) (by rw [hd]; dsimp only; rw [get_there _ _ _ hmem, g1']; rfl)
  rw [this]
  have h5 := g2 f'.acts.length
  rw [List.take_length] at h5
  exact ⟨rfl, h5⟩
end Go.Proofs.YthafeihjlamhhaaGreatDoor
namespace Go.Proofs.YthafeihjlamhhaaGreatDoor
open Go Go.Lib
set_option maxRecDepth 100000
def cont (fs : FS) (l : NM) (k : List UInt8) : Option PF := (NM.get l k).bind (FS.get fs)
def always (fd : FD) (fs : FS) (k : List UInt8) (p : Option PF → Prop) : Prop := fd.each fun l _ => p (cont fs l k)
theorem always_now {fd : FD} {fs : FS} {k : List UInt8} {p : Option PF → Prop} (h : always fd fs k p) : p (cont fs fd.now k) := FD.each_now h
theorem always_imp {fd : FD} {fs : FS} {k : List UInt8} {p q : Option PF → Prop} (h : always fd fs k p) (hpq : ∀ x, p x → q x) : always fd fs k q := each_imp h fun _ _ hp => hpq _ hp
theorem always_more {fd : FD} {fs : FS} {k : List UInt8} {p : Option PF → Prop} (h : always fd fs k p) (x : DAct) (n : Int) (hn : fd.last ≤ n) (hx : p (cont fs (x.run fd.now) k)) : always ⟨fd.d, fd.acts ++ [x], n⟩ fs k p :=
  FD.each_one h (fun _ _ _ _ h => h) x rfl rfl hn hx
theorem always_app {fd : FD} {fs : FS} {k : List UInt8} {p : Option PF → Prop} (h : always fd fs k p) (has : fd.each (hasP fs)) (m : Int) (g : PF) : always fd (fs ++ [(m, g)]) k p := fun i hi => by
  have h1 := h i hi
  have h2 := has i hi k
  dsimp only at h1 ⊢
  unfold cont at h1 ⊢
  cases hg : NM.get (druns fd.d (fd.acts.take i)) k with
  | none => rw [hg] at h1; exact h1
  | some n =>
    rw [hg] at h1
    obtain ⟨f, hf⟩ := FS.get_some.2 (h2 n hg)
    simp only [Option.bind_some] at h1 ⊢
    rw [FS.get_app, hf]
    rw [hf] at h1
    exact h1
theorem cont_get {fs : FS} {l : NM} {k : List UInt8} {f : PF} (h : cont fs l k = some f) : ∃ n, NM.get l k = some n ∧ FS.get fs n = some f := by
  unfold cont at h
  cases hg : NM.get l k with
  | none => rw [hg] at h; cases h
  | some n => rw [hg] at h; exact ⟨n, rfl, h⟩
theorem cont_of {fs : FS} {l : NM} {k : List UInt8} {n : Int} (h : NM.get l k = some n) : cont fs l k = FS.get fs n := by unfold cont; rw [h]; rfl
theorem cont_none {fs : FS} {l : NM} {k : List UInt8} (h : NM.get l k = none) : cont fs l k = none := by unfold cont; rw [h]; rfl
theorem DS.step_cases {d : DS} (_hd : d.down = false) (g : DS → DS × Int) :
    (∃ d0 : DS, d.step g = (d0, 13) ∧ d0.fd = d.fd ∧ d0.fs = d.fs ∧ d0.quota = d.quota ∧ d0.down = true) ∨ (∃ d0 : DS, d.step g = g d0 ∧ d0.fd = d.fd ∧ d0.fs = d.fs ∧ d0.quota = d.quota ∧ d0.down = false) := by
  unfold DS.step
  cases h : d.count.down with
  | true => exact .inl ⟨d.count, by simp, by simp, by simp, by simp, h⟩
  | false => exact .inr ⟨d.count, by simp, by simp, by simp, by simp, h⟩
def Stage (r : DS × Int) (q : Int) (P B : FD → FS → Prop) : Prop := r.1.quota = q ∧ ((r.2 = 0 ∧ r.1.down = false ∧ P r.1.fd r.1.fs) ∨ (r.2 = 13 ∧ r.1.down = true ∧ B r.1.fd r.1.fs))
def seqE (r : DS × Int) (k : DS → DS × Int) : DS × Int := if r.2 = 0 then k r.1 else r
theorem Stage.seq {r : DS × Int} {q : Int} {P Q B : FD → FS → Prop} {k : DS → DS × Int} (h : Stage r q P B) (hk : ∀ d : DS, d.quota = q → d.down = false → P d.fd d.fs → Stage (k d) q Q B) : Stage (seqE r k) q Q B := by
  unfold seqE
  obtain ⟨h0, ⟨h1, h2, h3⟩ | ⟨h1, h2, h3⟩⟩ := h
  · rw [if_pos h1]; exact hk _ h0 h2 h3
  · rw [if_neg (by omega)]; exact ⟨h0, .inr ⟨h1, h2, h3⟩⟩
theorem Stage.imp {r : DS × Int} {q : Int} {P Q B C : FD → FS → Prop} (h : Stage r q P B) (h1 : ∀ fd fs, P fd fs → Q fd fs) (h2 : ∀ fd fs, B fd fs → C fd fs) : Stage r q Q C :=
  ⟨h.1, h.2.imp (fun h => ⟨h.1, h.2.1, h1 _ _ h.2.2⟩) (fun h => ⟨h.1, h.2.1, h2 _ _ h.2.2⟩)⟩
theorem stage_step {d : DS} (hd : d.down = false) {P B : FD → FS → Prop} {g : DS → DS × Int} (hB : B d.fd d.fs)
    (hg : ∀ d0 : DS, d0.fd = d.fd → d0.fs = d.fs → d0.quota = d.quota → d0.down = false → ∃ fd fs, g d0 = (⟨fd, fs, d0.quota, d0.steps, d0.armed, d0.down⟩, 0) ∧ P fd fs) : Stage (d.step g) d.quota P B := by
  rcases DS.step_cases hd g with ⟨d0, h1, h2, h3, h4, h5⟩ | ⟨d0, h1, h2, h3, h4, h5⟩
  · rw [h1]
    exact ⟨h4, .inr ⟨rfl, h5, by dsimp only; rw [h2, h3]; exact hB⟩⟩
  · rw [h1]
    obtain ⟨fd, fs, h6, h7⟩ := hg d0 h2 h3 h4 h5
    rw [h6]
    exact ⟨h4, .inl ⟨rfl, h5, h7⟩⟩
theorem stage_create {d : DS} (hd : d.down = false) {P B : FD → FS → Prop} {x : List UInt8} (hm : mayF x) (hx : d.fd.now.get x = none) (hB : B d.fd d.fs)
    (hP : P ⟨d.fd.d, d.fd.acts ++ [.cre x (d.fd.last + 1)], d.fd.last + 1⟩ (d.fs ++ [(d.fd.last + 1, ⟨[], []⟩)])) : Stage (d.create x) d.quota P B := by
  refine stage_step hd hB fun d0 h1 h2 h3 h4 => ⟨_, _, ?_, hP⟩
  rw [h1, h2]
  unfold FD.create
  rw [if_pos hm, hx]
  rfl
theorem stage_of {d : DS} (hd : d.down = false) {P B : FD → FS → Prop} {x : List UInt8} {n : Int} {f f' : PF} (hx : d.fd.now.get x = some n) (hf : FS.get d.fs n = some f) {g : DS → PF → PF × Int} (hB : B d.fd d.fs)
    (hg : ∀ d0 : DS, d0.fd = d.fd → d0.fs = d.fs → d0.quota = d.quota → d0.down = false → g d0 f = (f', 0)) (hP : P d.fd (FS.upd d.fs n fun _ => f')) : Stage (d.of x g) d.quota P B := by
  refine stage_step hd hB fun d0 h1 h2 h3 h4 => ⟨_, _, ?_, hP⟩
  rw [h1, hx, h2]
  dsimp only
  rw [hf]
  dsimp only
  rw [hg d0 h1 h2 h3 h4]
theorem room_same {d d0 : DS} (h1 : d0.fd = d.fd) (h2 : d0.fs = d.fs) (h3 : d0.quota = d.quota) (h4 : d0.down = d.down) : d0.room = d.room := by
  unfold DS.room
  rw [h3, used_eq h1 h2 h4]
theorem stage_append {d : DS} (hd : d.down = false) {P B : FD → FS → Prop} {x : List UInt8} {n : Int} {f : PF} (hx : d.fd.now.get x = some n) (hf : FS.get d.fs n = some f) {s : List UInt8} (hs : s.length ≤ d.room) (hB : B d.fd d.fs)
    (hP : P d.fd (FS.upd d.fs n fun _ => f.add s)) : Stage (d.append x s) d.quota P B := by
  refine stage_of hd hx hf hB (fun d0 h1 h2 h3 h4 => ?_) hP
  rw [if_neg]
  rw [room_same h1 h2 h3 (h4.trans hd.symm)]
  omega
theorem stage_sync {d : DS} (hd : d.down = false) {P B : FD → FS → Prop} {x : List UInt8} {n : Int} {f : PF} (hx : d.fd.now.get x = some n) (hf : FS.get d.fs n = some f) (hB : B d.fd d.fs)
    (hP : P d.fd (FS.upd d.fs n fun _ => ⟨f.now, []⟩)) : Stage (d.sync x) d.quota P B := stage_of hd hx hf hB (fun _ _ _ _ _ => rfl) hP
theorem stage_syncDir {d : DS} (hd : d.down = false) {P B : FD → FS → Prop} (hB : B d.fd d.fs) (hP : P ⟨d.fd.now, [], d.fd.last⟩ d.fs) : Stage d.syncDir d.quota P B := by
  refine stage_step hd hB fun d0 h1 h2 h3 h4 => ⟨_, _, rfl, ?_⟩
  rw [h1, h2]
  have : d.fd.survive d.fd.acts.length = ⟨d.fd.now, [], d.fd.last⟩ := by
    unfold FD.survive FD.now
    have : d.fd.clamp d.fd.acts.length = d.fd.acts.length := by unfold FD.clamp; omega
    rw [this, List.take_length]
  rw [this]
  exact hP
theorem stay_each (fd : FD) : ∀ (ks : List (List UInt8)) (st : List Int × FS × List Int) (n : Int) (f : PF), FS.get st.2.1 n = some f → ∃ f', FS.get (ks.foldl (stay1 fd) st).2.1 n = some f' ∧ ∀ p : PF → Prop, p f → (∀ g a b, p g → p ⟨g.stays a b, []⟩) → p f'
  | [], st, n, f, h => ⟨f, h, fun p hp _ => hp⟩
  | k :: ks, st, n, f, h => by
    rw [List.foldl_cons]
    have h4 : ∃ f', FS.get (stay1 fd st k).2.1 n = some f' ∧ ∀ p : PF → Prop, p f → (∀ g a b, p g → p ⟨g.stays a b, []⟩) → p f' := by
      simp only [stay1]
      rw [FS.get_upd]
      split
      · rename_i e
        rw [← e, h]
        exact ⟨_, rfl, fun p hp hq => hq _ _ _ hp⟩
      · exact ⟨f, h, fun p hp _ => hp⟩
    obtain ⟨f1, g1, g2⟩ := h4
    obtain ⟨f2, g3, g4⟩ := stay_each fd ks _ n f1 g1
    exact ⟨f2, g3, fun p hp hq => g4 p (g2 p hp hq) hq⟩
theorem restart_cont {d : DS} {A B : Nat} (hok : d.ok A B) (l : List Int) : ∃ i, i ≤ d.fd.acts.length ∧ (d.restart l).fd = ⟨druns d.fd.d (d.fd.acts.take i), [], d.fd.last⟩ ∧ (d.restart l).down = false ∧ (d.restart l).quota = d.quota ∧ (d.restart l).armed = 0 ∧
    ∀ k, (cont d.fs (druns d.fd.d (d.fd.acts.take i)) k = none ∧ cont (d.restart l).fs (d.restart l).fd.now k = none) ∨
      ∃ f f', cont d.fs (druns d.fd.d (d.fd.acts.take i)) k = some f ∧ cont (d.restart l).fs (d.restart l).fd.now k = some f' ∧ ∀ p : PF → Prop, p f → (∀ g a b, p g → p ⟨g.stays a b, []⟩) → p f' := by
  have hc : d.fd.clamp (l.headD 0) ≤ d.fd.acts.length := by unfold FD.clamp; omega
  refine ⟨d.fd.clamp (l.headD 0), hc, rfl, rfl, rfl, rfl, fun k => ?_⟩
  obtain ⟨fd, hfd⟩ : ∃ fd, d.fd.survive (l.headD 0) = fd := ⟨_, rfl⟩
  have hnow : druns d.fd.d (d.fd.acts.take (d.fd.clamp (l.headD 0))) = fd.now := by rw [← hfd]; rfl
  obtain ⟨r, hr⟩ : ∃ r, stayAll fd l.tail d.fs fd.names = r := ⟨_, rfl⟩
  have hd : d.restart l = ⟨fd, thereF r.2.1 r.2.2, d.quota, d.steps, 0, false⟩ := by
    unfold DS.restart
    rw [hfd, hr]
  rw [hnow, hd]
  have hhas := hok.has _ hc
  rw [hnow] at hhas
  cases hg : NM.get fd.now k with
  | none => exact .inl ⟨cont_none hg, cont_none hg⟩
  | some n =>
    obtain ⟨f, hf⟩ := FS.get_some.2 (hhas k n hg)
    obtain ⟨f', g1, g2⟩ := stay_each fd fd.names (l.tail, d.fs, []) n f hf
    have g1' : FS.get r.2.1 n = some f' := by rw [← hr]; exact g1
    have hmem : n ∈ r.2.2 := by
      rw [← hr]
      unfold stayAll
      rw [stayAll_mem]
      exact .inr ⟨k, FD.names_of hg, by rw [FD.find_get hg]⟩
    exact .inr ⟨f, f', by rw [cont_of hg, hf], by rw [cont_of hg, get_there _ _ _ hmem, g1']; rfl, g2⟩
theorem always_restart {d : DS} {A B : Nat} (hok : d.ok A B) (l : List Int) {k : List UInt8} {p : Option PF → Prop} (h : always d.fd d.fs k p) (hp : ∀ g a b, p (some g) → p (some ⟨g.stays a b, []⟩)) : always (d.restart l).fd (d.restart l).fs k p := by
  obtain ⟨i, hi, h1, _, _, _, h5⟩ := restart_cont hok l
  intro j hj
  rw [h1] at hj
  have : druns (d.restart l).fd.d ((d.restart l).fd.acts.take j) = (d.restart l).fd.now := by rw [h1]; simp [FD.now, druns]
  show p (cont (d.restart l).fs (druns (d.restart l).fd.d ((d.restart l).fd.acts.take j)) k)
  rw [this]
  have h0 := h i hi
  dsimp only at h0
  rcases h5 k with ⟨e1, e2⟩ | ⟨f, f', e1, e2, e3⟩
  · rw [e2, ← e1]; exact h0
  · rw [e2]
    rw [e1] at h0
    exact e3 (fun g => p (some g)) h0 hp
theorem PF.stays_settled (s : List UInt8) (a b : Int) : (⟨s, []⟩ : PF).stays a b = s := by
  simp [PF.stays, runs]
theorem readAt_cont {d : DS} (hd : d.down = false) {k : List UInt8} {f : PF} {m : Nat} (h : cont d.fs d.fd.now k = some f) (hm : f.now.length ≤ m) : d.readAt k 0 m = (f.now, 0) := by
  obtain ⟨n, h1, h2⟩ := cont_get h
  unfold DS.readAt
  rw [hd, h1]
  simp only [Bool.false_eq_true, if_false]
  rw [h2]
  unfold PF.readAt
  dsimp only
  rw [if_neg (by omega)]
  simp only [Int.toNat_zero, List.drop_zero, Int.toNat_natCast]
  rw [List.take_of_length_le hm]
theorem readAt_none {d : DS} {A B : Nat} (hok : d.ok A B) (hd : d.down = false) {k : List UInt8} (a m : Int) (h : cont d.fs d.fd.now k = none) : d.readAt k a m = ([], 9) := by
  unfold DS.readAt
  rw [hd]
  simp only [Bool.false_eq_true, if_false]
  cases hg : d.fd.now.get k with
  | none => rfl
  | some n =>
    obtain ⟨f, hf, _⟩ := DS.has_file hok hg
    rw [cont_of hg, hf] at h
    cases h
end Go.Proofs.YthafeihjlamhhaaGreatDoor
namespace Go.Proofs.YthafeihjlamhhaaGreatDoor
open Go Go.Lib
set_option maxRecDepth 100000
theorem FS.upd_app {l : FS} {m : Int} {f : PF} (h : m ∉ FS.keys l) (g : PF → PF) : FS.upd (l ++ [(m, f)]) m g = l ++ [(m, g f)] := by
  induction l with
  | nil => simp [FS.upd]
  | cons e l ih =>
    simp only [FS.keys, List.map_cons, List.mem_cons, not_or] at h
    rw [List.cons_append]
    unfold FS.upd
    rw [if_neg (fun e => h.1 e.symm), ih h.2]
    rfl
theorem FS.get_new {l : FS} {m : Int} {f : PF} (h : m ∉ FS.keys l) : FS.get (l ++ [(m, f)]) m = some f := by
  rw [FS.get_app, FS.get_none.2 h]
  exact if_pos rfl
structure Core (fd : FD) (fs : FS) : Prop where
  num : fd.numOk
  has : fd.each (hasP fs)
  rng : ∀ n ∈ FS.keys fs, n ≤ fd.last
theorem DS.ok.core {d : DS} {A B : Nat} (h : d.ok A B) : Core d.fd d.fs := ⟨h.num, h.has, fun n hn => (h.rng n hn).2⟩
theorem Core.fresh {fd : FD} {fs : FS} (h : Core fd fs) : fd.last + 1 ∉ FS.keys fs := fun hn => by have := h.rng _ hn; omega
abbrev fdN (fd : FD) (x : List UInt8) : FD := ⟨fd.d, fd.acts ++ [.cre x (fd.last + 1)], fd.last + 1⟩
abbrev fsN (fd : FD) (fs : FS) (f : PF) : FS := fs ++ [(fd.last + 1, f)]
theorem now_more (fd : FD) (x : DAct) (n : Int) : (⟨fd.d, fd.acts ++ [x], n⟩ : FD).now = x.run fd.now := by
  unfold FD.now
  rw [druns_append]
  rfl
theorem always_new {fd : FD} {fs : FS} {k x : List UInt8} {p : Option PF → Prop} (h : always fd fs k p) (hc : Core fd fs) (f : PF) (hk : k = x → p (some f)) : always (fdN fd x) (fsN fd fs f) k p := by
  refine always_more (always_app h hc.has _ _) _ _ (by omega) ?_
  by_cases e : k = x
  · rw [cont_of (n := fd.last + 1) (by simp only [DAct.run]; rw [NM.get_put, if_pos e]), FS.get_new hc.fresh]
    exact hk e
  · have h1 := always_now (always_app h hc.has (fd.last + 1) f)
    have : cont (fsN fd fs f) (DAct.run (.cre x (fd.last + 1)) fd.now) k = cont (fsN fd fs f) fd.now k := by
      unfold cont
      simp only [DAct.run]
      rw [NM.get_put, if_neg e]
    rw [this]
    exact h1
theorem always_one {l : NM} {fs : FS} {k : List UInt8} {n : Int} {p : Option PF → Prop} : always ⟨l, [], n⟩ fs k p ↔ p (cont fs l k) := by
  constructor
  · intro h; exact h 0 (by simp)
  · intro h i hi
    simp only [List.length_nil, Nat.le_zero_eq] at hi
    subst hi
    exact h
theorem Core.new {fd : FD} {fs : FS} (h : Core fd fs) {x : List UInt8} (hx : fd.now.get x = none) (hm : mayF x) (f : PF) : Core (fdN fd x) (fsN fd fs f) := by
  refine ⟨?_, ?_, ?_⟩
  · have := FD.numOk_create h.num x
    unfold FD.create at this
    rw [if_pos hm, hx] at this
    exact this
  · have hk : ∀ n ∈ FS.keys fs, n ∈ FS.keys (fsN fd fs f) := fun n hn => by simp only [FS.keys, List.map_append, List.mem_append] at hn ⊢; exact .inl hn
    refine FD.each_one (each_imp h.has (hasP_mono hk)) (fun _ _ _ _ h => h) _ rfl rfl (by dsimp only; omega) ?_
    intro k n hn
    simp only [DAct.run] at hn
    rw [NM.get_put] at hn
    split at hn
    · cases hn; simp [FS.keys]
    · exact hk n (FD.each_now h.has k n hn)
  · intro n hn
    simp only [FS.keys, List.map_append, List.mem_append, List.map_cons, List.map_nil, List.mem_singleton] at hn
    rcases hn with hn | hn
    · have := h.rng n hn; dsimp only; omega
    · dsimp only; omega
theorem Core.files {fd : FD} {fs gs : FS} (h : Core fd fs) (hk : FS.keys gs = FS.keys fs) : Core fd gs := ⟨h.num, each_imp h.has (hasP_mono fun n hn => by rw [hk]; exact hn), fun n hn => h.rng n (by rw [← hk]; exact hn)⟩
def txt (fs : FS) (l : NM) (k : List UInt8) : List UInt8 := ((cont fs l k).map PF.now).getD []
def usedF (fs : FS) (l : NM) : Nat := (l.keys.map fun k => (txt fs l k).length).sum
theorem used_F {d : DS} (hd : d.down = false) : d.used = usedF d.fs d.fd.now := by
  have ht : ∀ k, d.text k = txt d.fs d.fd.now k := fun k => by
    unfold DS.text DS.file txt cont
    cases d.fd.now.get k with
    | none => rfl
    | some n =>
      dsimp only [Option.bind_some]
      cases FS.get d.fs n <;> rfl
  unfold DS.used usedF DS.list
  rw [hd]
  simp only [Bool.false_eq_true, if_false]
  rw [List.map_congr_left (fun k _ => by rw [ht k])]
  unfold FD.names
  exact ((sortU_perm _).map _).sum_nat
theorem used_new {fd : FD} {fs : FS} (h : Core fd fs) {x : List UInt8} (hx : fd.now.get x = none) (f : PF) : usedF (fsN fd fs f) (fdN fd x).now = usedF fs fd.now + f.now.length := by
  unfold usedF
  rw [now_more]
  simp only [DAct.run]
  have hxk : x ∉ NM.keys fd.now := NM.get_none.1 hx
  rw [NM.keys_put, if_neg hxk, List.map_append, List.sum_append]
  congr 1
  · congr 1
    refine List.map_congr_left fun k hk => ?_
    have e : k ≠ x := by rintro rfl; exact hxk hk
    obtain ⟨n, hn⟩ := NM.get_some.2 hk
    obtain ⟨g, hg⟩ := FS.get_some.2 (FD.each_now h.has k n hn)
    have e1 : cont (fsN fd fs f) (NM.put fd.now x (fd.last + 1)) k = some g := by
      rw [cont_of (n := n) (by rw [NM.get_put, if_neg e]; exact hn), FS.get_app, hg]
    have e2 : cont fs fd.now k = some g := by rw [cont_of hn, hg]
    unfold txt
    rw [e1, e2]
  · have e1 : cont (fsN fd fs f) (NM.put fd.now x (fd.last + 1)) x = some f := by
      rw [cont_of (n := fd.last + 1) (by rw [NM.get_put, if_pos rfl]), FS.get_new h.fresh]
    simp [txt, e1]
def DS.write (d : DS) (x s : List UInt8) (k : DS → DS × Int) : DS × Int := seqE (d.create x) fun d => seqE (d.append x s) fun d => seqE (d.sync x) k
theorem write_stage {d : DS} (hd : d.down = false) (hc : Core d.fd d.fs) {x s : List UInt8} (hm : mayF x) (hx : d.fd.now.get x = none) (hroom : s.length ≤ d.room) {P B : FD → FS → Prop} {k : DS → DS × Int}
    (b0 : B d.fd d.fs) (b1 : ∀ f : PF, f = ⟨[], []⟩ ∨ f = (⟨[], []⟩ : PF).add s ∨ f = ⟨s, []⟩ → B (fdN d.fd x) (fsN d.fd d.fs f))
    (hk : ∀ d' : DS, d'.quota = d.quota → d'.down = false → d'.fd = fdN d.fd x → d'.fs = fsN d.fd d.fs ⟨s, []⟩ → Stage (k d') d.quota P B) : Stage (d.write x s k) d.quota P B := by
  have hnow : (fdN d.fd x).now.get x = some (d.fd.last + 1) := by rw [now_more]; simp only [DAct.run]; rw [NM.get_put, if_pos rfl]
  refine (stage_create hd (P := fun fd fs => fd = fdN d.fd x ∧ fs = fsN d.fd d.fs ⟨[], []⟩) hm hx b0 ⟨rfl, rfl⟩).seq fun d1 q1 u1 ⟨e1, e2⟩ => ?_
  have hr1 : s.length ≤ d1.room := by
    unfold DS.room at hroom ⊢
    rw [used_F u1, e1, e2, used_new hc hx, q1]
    rw [used_F hd] at hroom
    simpa [PF.now, runs] using hroom
  rw [← q1]
  refine (stage_append u1 (P := fun fd fs => fd = fdN d.fd x ∧ fs = fsN d.fd d.fs ((⟨[], []⟩ : PF).add s)) (n := d.fd.last + 1) (f := ⟨[], []⟩) (by rw [e1]; exact hnow) (by rw [e2]; exact FS.get_new hc.fresh) hr1 (by rw [e1, e2]; exact b1 _ (.inl rfl)) ⟨e1, by rw [e2]; exact FS.upd_app hc.fresh _⟩).seq fun d2 q2 u2 ⟨e3, e4⟩ => ?_
  have hn2 : ((⟨[], []⟩ : PF).add s).now = s := by rw [PF.now_add]; rfl
  rw [← q2]
  refine (stage_sync u2 (P := fun fd fs => fd = fdN d.fd x ∧ fs = fsN d.fd d.fs ⟨s, []⟩) (n := d.fd.last + 1) (f := (⟨[], []⟩ : PF).add s) (by rw [e3]; exact hnow) (by rw [e4]; exact FS.get_new hc.fresh) (by rw [e3, e4]; exact b1 _ (.inr (.inl rfl))) ⟨e3, by rw [e4, hn2]; exact FS.upd_app hc.fresh _⟩).seq fun d3 q3 u3 ⟨e5, e6⟩ => ?_
  rw [q2, q1]
  exact hk d3 (q3.trans (q2.trans q1)) u3 e5 e6
end Go.Proofs.YthafeihjlamhhaaGreatDoor
namespace Go.Proofs.YthafeihjlamhhaaGreatDoor
open Go Go.Lib
set_option maxRecDepth 100000
def calm (g : DS → DS × Int) : Prop := ∀ d : DS, d.armed = 0 → d.down = false → (g d).1.armed = 0 ∧ (g d).1.down = false
theorem calm_step {g : DS → DS × Int} (hg : ∀ d, (g d).1.armed = d.armed ∧ (g d).1.down = d.down) : calm fun d => d.step g := fun d h1 h2 => by
  dsimp only
  rw [DS.step_up h1 h2]
  have := hg ⟨d.fd, d.fs, d.quota, d.steps + 1, d.armed, d.down⟩
  exact ⟨this.1.trans h1, this.2.trans h2⟩
theorem calm_create (x : List UInt8) : calm fun d => d.create x := calm_step fun d => by split <;> exact ⟨rfl, rfl⟩
theorem calm_of (x : List UInt8) (g : DS → PF → PF × Int) : calm fun d => d.of x g := calm_step fun d => by
  split
  · exact ⟨rfl, rfl⟩
  · split <;> exact ⟨rfl, rfl⟩
theorem calm_append (x s : List UInt8) : calm fun d => d.append x s := calm_of x _
theorem calm_sync (x : List UInt8) : calm fun d => d.sync x := calm_of x _
theorem calm_syncDir : calm DS.syncDir := calm_step fun _ => ⟨rfl, rfl⟩
theorem calm_seqE {g k : DS → DS × Int} (hg : calm g) (hk : calm k) : calm fun d => seqE (g d) k := fun d h1 h2 => by
  obtain ⟨h3, h4⟩ := hg d h1 h2
  dsimp only
  unfold seqE
  split
  · exact hk _ h3 h4
  · exact ⟨h3, h4⟩
theorem calm_write (x s : List UInt8) {k : DS → DS × Int} (hk : calm k) : calm fun d => d.write x s k :=
  calm_seqE (calm_create x) (calm_seqE (calm_append x s) (calm_seqE (calm_sync x) hk))
theorem Stage.calm {r : DS × Int} {q : Int} {P B : FD → FS → Prop} (h : Stage r q P B) (hu : r.1.down = false) : r.2 = 0 ∧ P r.1.fd r.1.fs := by
  rcases h.2 with h | h
  · exact ⟨h.1, h.2.2⟩
  · rw [hu] at h; exact absurd h.2.1 (by decide)
theorem of_quota (d : DS) (x : List UInt8) (g : DS → PF → PF × Int) : (d.of x g).1.quota = d.quota := by
  unfold DS.of DS.step
  split
  · simp
  · dsimp only
    split
    · simp
    · split <;> simp
theorem create_quota (d : DS) (x : List UInt8) : (d.create x).1.quota = d.quota := by
  unfold DS.create DS.step
  split
  · simp
  · dsimp only
    split <;> simp
theorem ok_write {d : DS} {A B : Nat} (h : d.ok A B) (K : Nat) (hK : 1 ≤ K) (hq : d.quota ≤ K) (x s : List UInt8) (k : DS → DS × Int) (hk : ∀ d' : DS, d'.quota = d.quota → d'.ok (A + 4) (B + K) → (k d').1.ok (A + 8) (B + K)) : (d.write x s k).1.ok (A + 8) (B + K) := by
  unfold DS.write seqE
  have h1 := DS.ok_create h x
  have q1 := create_quota d x
  split
  rotate_left
  · exact DS.ok_mono h1 (by omega) (by omega)
  have h2 := DS.ok_append h1 x s K hK (by omega)
  have q2 : ((d.create x).1.append x s).1.quota = (d.create x).1.quota := of_quota _ _ _
  dsimp only
  split
  rotate_left
  · exact DS.ok_mono h2 (by omega) (by omega)
  have h3 := DS.ok_sync h2 x
  have q3 : (((d.create x).1.append x s).1.sync x).1.quota = ((d.create x).1.append x s).1.quota := of_quota _ _ _
  split
  rotate_left
  · exact DS.ok_mono h3 (by omega) (by omega)
  exact hk _ (by rw [q3, q2, q1]) (DS.ok_mono h3 (by omega) (by omega))
def DS.pfile (d : DS) (x s : List UInt8) : DS × Int := d.write x s DS.syncDir
theorem ok_pfile {d : DS} {A B : Nat} (h : d.ok A B) (K : Nat) (hK : 1 ≤ K) (hq : d.quota ≤ K) (x s : List UInt8) : (d.pfile x s).1.ok (A + 8) (B + K) :=
  ok_write h K hK hq x s _ fun _ _ h => DS.ok_mono (DS.ok_syncDir h) (by omega) (Nat.le_refl _)
def partO (s : List UInt8) (o : Option PF) : Prop := o = none ∨ ∃ f, o = some f ∧ ∀ i, runs f.d (f.acts.take i) <+: s
theorem partO_none (s : List UInt8) : partO s none := .inl rfl
theorem partO_new {s : List UInt8} {f : PF} (h : f = ⟨[], []⟩ ∨ f = (⟨[], []⟩ : PF).add s ∨ f = ⟨s, []⟩) : partO s (some f) := by
  refine .inr ⟨f, rfl, fun i => ?_⟩
  rcases h with rfl | rfl | rfl
  · simp [runs]
  · unfold PF.add
    split
    · simp [runs]
    · match i with
      | 0 => simp [runs]
      | i + 1 => simp [runs, FAct.run]
  · simp [runs]
theorem partO_stays {s : List UInt8} (g : PF) (a b : Int) (h : partO s (some g)) : partO s (some ⟨g.stays a b, []⟩) := by
  rcases h with h | ⟨f, e, h⟩
  · cases h
  cases e
  refine .inr ⟨_, rfl, fun i => ?_⟩
  have key : g.stays a b <+: s := by
    unfold PF.stays
    dsimp only
    obtain ⟨n, hn⟩ : ∃ n, (inI a 0 g.acts.length).toNat = n := ⟨_, rfl⟩
    rw [hn]
    cases hg : g.acts[n]? with
    | none => simpa using h n
    | some y =>
      cases y with
      | cut m => simpa using h n
      | add m =>
        dsimp only
        have hlt : n < g.acts.length := (List.getElem?_eq_some_iff.1 hg).1
        have h2 := h (n + 1)
        rw [runs_take _ _ _ hlt] at h2
        have e : g.acts[n] = .add m := by rw [List.getElem?_eq_getElem hlt] at hg; exact Option.some.inj hg
        rw [e] at h2
        simp only [FAct.run] at h2
        refine List.IsPrefix.trans ?_ h2
        exact (List.prefix_append_right_inj _).2 (List.take_prefix _ _)
  simpa [runs] using key
theorem partO_now {s : List UInt8} {f : PF} (h : partO s (some f)) : f.now <+: s := by
  rcases h with h | ⟨g, e, h⟩
  · cases h
  cases e
  have := h f.acts.length
  rw [List.take_length] at this
  exact this
def twoN (a b : List UInt8) (fd : FD) : Prop := fd.each fun l _ => ∀ k ∈ NM.keys l, k = a ∨ k = b
theorem twoN_new {a b x : List UInt8} {fd : FD} (h : twoN a b fd) (hx : x = a ∨ x = b) : twoN a b (fdN fd x) := by
  refine FD.each_one h (fun _ _ _ _ h => h) _ rfl rfl (by dsimp only; omega) ?_
  intro k hk
  simp only [DAct.run] at hk
  rw [NM.keys_put] at hk
  split at hk
  · exact FD.each_now h k hk
  · rcases List.mem_append.1 hk with hk | hk
    · exact FD.each_now h k hk
    · rw [List.mem_singleton.1 hk]; exact hx
theorem twoN_one {a b : List UInt8} {l : NM} {n : Int} (h : ∀ k ∈ NM.keys l, k = a ∨ k = b) : twoN a b ⟨l, [], n⟩ := fun i hi => by
  simp only [List.length_nil, Nat.le_zero_eq] at hi
  subst hi
  exact h
theorem two_le {a b : List UInt8} : ∀ {l : List (List UInt8)}, l.Nodup → (∀ k ∈ l, k = a ∨ k = b) → l.length ≤ 2
  | [], _, _ => by simp
  | [_], _, _ => by simp
  | [_, _], _, _ => by simp
  | x :: y :: z :: l, hn, h => by
    simp only [List.nodup_cons, List.mem_cons, not_or] at hn
    obtain ⟨⟨h1, h2, _⟩, ⟨h3, _⟩, _⟩ := hn
    have a1 := h x (by simp)
    have a2 := h y (by simp)
    have a3 := h z (by simp)
    rcases a1 with rfl | rfl <;> rcases a2 with rfl | rfl <;> rcases a3 with rfl | rfl <;> simp_all
theorem pfile_stage {d : DS} (hd : d.down = false) (hc : Core d.fd d.fs) {a x s : List UInt8} {o : Option PF} (hm : mayF x) (hax : a ≠ x) (hroom : s.length ≤ d.room) (h1 : always d.fd d.fs a (· = o)) (h2 : always d.fd d.fs x (· = none)) (h3 : twoN a x d.fd) :
    Stage (d.pfile x s) d.quota (fun fd fs => always fd fs a (· = o) ∧ always fd fs x (· = some ⟨s, []⟩) ∧ twoN a x fd) (fun fd fs => always fd fs a (· = o) ∧ always fd fs x (partO s) ∧ twoN a x fd) := by
  have hx : d.fd.now.get x = none := by
    cases hg : d.fd.now.get x with
    | none => rfl
    | some n =>
      obtain ⟨f, hf⟩ := FS.get_some.2 (FD.each_now hc.has x n hg)
      have := always_now h2
      rw [cont_of hg, hf] at this
      cases this
  have h4 : always d.fd d.fs x (partO s) := always_imp h2 fun o ho => by rw [ho]; exact partO_none s
  refine write_stage hd hc hm hx hroom ⟨h1, h4, h3⟩ (fun f hf => ⟨always_new h1 hc f fun e => absurd e hax, always_new h4 hc f fun _ => partO_new hf, twoN_new h3 (.inr rfl)⟩) fun d' q' u' e1 e2 => ?_
  have g1 := always_new (k := a) h1 hc ⟨s, []⟩ (x := x) fun e => absurd e hax
  have g3 := twoN_new h3 (.inr rfl)
  rw [← q']
  refine stage_syncDir u' ⟨by rw [e1, e2]; exact g1, by rw [e1, e2]; exact always_new h4 hc _ fun _ => partO_new (.inr (.inr rfl)), by rw [e1]; exact g3⟩ ⟨?_, ?_, ?_⟩
  · rw [e1, e2, always_one]; exact always_now g1
  · rw [e1, e2, always_one, now_more]
    exact cont_of (n := d.fd.last + 1) (by simp only [DAct.run]; rw [NM.get_put, if_pos rfl]) |>.trans (FS.get_new hc.fresh)
  · rw [e1]; exact twoN_one (FD.each_now g3)
abbrev firstB : List UInt8 := [102, 105, 114, 115, 116]
theorem whole_law (s : List UInt8) (hs : s.length ≤ 200) (t : Int) (l : List Int) : ∃ d1 : DS, (DS.new 1048576).pfile [97] firstB = (d1, 0) ∧ d1.ok 8 1048576 ∧ d1.quota = 1048576 ∧ ∃ (d3 : DS) (e : Int), (d1.arm t).pfile [98] s = (d3, e) ∧ (0 ≤ t → t ≤ 100 → d3.ok 16 2097152) ∧
    (d3.down = false ↔ e = 0) ∧ (0 ≤ t → t ≤ 100 → ((d3.restart l).readAt [97] 0 1048576 = (firstB, 0) ∧ (e = 0 → (d3.restart l).readAt [98] 0 1048576 = (s, 0)) ∧
      (((d3.restart l).readAt [98] 0 1048576).2 = 0 → ((d3.restart l).readAt [98] 0 1048576).1 <+: s) ∧ (d3.restart l).list.length ≤ 2)) := by
  have hok0 := DS.ok_new 1048576 (by decide) (by decide)
  have hok1 := ok_pfile hok0 1048576 (by decide) (by decide) [97] firstB
  have hc0 := hok0.core
  have none0 : ∀ k, always (DS.new 1048576).fd (DS.new 1048576).fs k (· = none) := fun k i hi => by simp [DS.new, FD.new, druns, cont, NM.get]
  have two0 : twoN [98] [97] (DS.new 1048576).fd := fun i hi => by simp [DS.new, FD.new, druns, NM.keys]
  have s1 := pfile_stage (d := DS.new 1048576) rfl hc0 (a := [98]) (x := [97]) (s := firstB) (o := none) (by decide) (by decide) (by decide) (none0 _) (none0 _) two0
  have c1 := calm_write [97] firstB calm_syncDir (DS.new 1048576) rfl rfl
  obtain ⟨d1, e1, hd1⟩ : ∃ d1 e1, (DS.new 1048576).pfile [97] firstB = (d1, e1) := ⟨_, _, rfl⟩
  have hd1' : (DS.new 1048576).write [97] firstB DS.syncDir = (d1, e1) := hd1
  have c1 : d1.armed = 0 ∧ d1.down = false := by
    have := c1
    dsimp only at this
    rw [hd1'] at this
    exact this
  rw [hd1] at s1 hok1
  dsimp only at hok1
  obtain ⟨q1, p1, p2, p3⟩ := s1.calm c1.2
  dsimp only at q1 p1 p2 p3
  subst q1
  have qq1 : d1.quota = 1048576 := s1.1
  refine ⟨d1, hd1, DS.ok_mono hok1 (by omega) (by omega), qq1, ?_⟩
  have two1 : twoN [97] [98] (d1.arm t).fd := fun i hi k hk => (p3 i hi k hk).symm
  have hroom : s.length ≤ (d1.arm t).room := by
    have hu : d1.used = usedF d1.fs d1.fd.now := used_F c1.2
    have : usedF d1.fs d1.fd.now ≤ 5 := by
      unfold usedF
      have hnd := (FD.each_now hok1.num.2).nd
      have hk := FD.each_now p3
      have hb := always_now p1
      have ha := always_now p2
      have hall : ∀ (ks : List (List UInt8)), ks.Nodup → (∀ k ∈ ks, k = [98] ∨ k = [97]) → (ks.map fun k => (txt d1.fs d1.fd.now k).length).sum ≤ 5 := by
        intro ks
        have tb : (txt d1.fs d1.fd.now [98]).length = 0 := by unfold txt; rw [hb]; rfl
        have ta : (txt d1.fs d1.fd.now [97]).length = 5 := by unfold txt; rw [ha]; rfl
        have zero : ∀ ks : List (List UInt8), [97] ∉ ks → (∀ k ∈ ks, k = [98] ∨ k = [97]) → (ks.map fun k => (txt d1.fs d1.fd.now k).length).sum = 0 := by
          intro ks
          induction ks with
          | nil => intros; rfl
          | cons k ks ih =>
            intro h1 h2
            have : k = [98] := by
              rcases h2 k (by simp) with e | e
              · exact e
              · exact absurd (by rw [e]; simp) h1
            rw [List.map_cons, List.sum_cons, this, tb, ih (fun h => h1 (List.mem_cons_of_mem _ h)) fun k hk => h2 k (List.mem_cons_of_mem _ hk)]
        induction ks with
        | nil => intros; simp
        | cons k ks ih =>
          intro h1 h2
          obtain ⟨n1, n2⟩ := List.nodup_cons.1 h1
          rw [List.map_cons, List.sum_cons]
          rcases h2 k (by simp) with e | e
          · rw [e, tb, Nat.zero_add]; exact ih n2 fun k hk => h2 k (List.mem_cons_of_mem _ hk)
          · rw [e, ta, zero ks (by rw [← e]; exact n1) fun k hk => h2 k (List.mem_cons_of_mem _ hk)]; omega
      exact hall _ hnd hk
    have : (d1.arm t).room = d1.room := rfl
    rw [this]
    unfold DS.room
    omega
  have s2 := pfile_stage (d := d1.arm t) c1.2 (show Core d1.fd d1.fs from hok1.core) (a := [97]) (x := [98]) (s := s) (o := some ⟨firstB, []⟩) (by decide) (by decide) hroom p2 p1 two1
  obtain ⟨d3, e3, hd3⟩ : ∃ d3 e3, (d1.arm t).pfile [98] s = (d3, e3) := ⟨_, _, rfl⟩
  have hok3 : 0 ≤ t → t ≤ 100 → d3.ok 16 2097152 := fun h1 h2 => by
    have := ok_pfile (DS.ok_arm (DS.ok_mono hok1 (Nat.le_refl 8) (Nat.le_refl _)) t (by omega)) 1048576 (by decide) (by show d1.quota ≤ _; rw [qq1]; decide) [98] s
    rw [hd3] at this
    exact DS.ok_mono this (by omega) (by omega)
  rw [hd3] at s2
  have weak : always d3.fd d3.fs [97] (· = some ⟨firstB, []⟩) ∧ always d3.fd d3.fs [98] (partO s) ∧ twoN [97] [98] d3.fd ∧ (e3 = 0 → always d3.fd d3.fs [98] (· = some ⟨s, []⟩)) ∧ (d3.down = false ↔ e3 = 0) := by
    rcases s2.2 with ⟨h1, h2, h3, h4, h5⟩ | ⟨h1, h2, h3, h4, h5⟩
    · exact ⟨h3, always_imp h4 fun o ho => by rw [ho]; exact partO_new (.inr (.inr rfl)), h5, fun _ => h4, by dsimp only at h1 h2; rw [h2, h1]; simp⟩
    · exact ⟨h3, h4, h5, fun h => by dsimp only at h1; omega, by dsimp only at h1 h2; rw [h2, h1]; simp⟩
  obtain ⟨w1, w2, w3, w4, w5⟩ := weak
  refine ⟨d3, e3, hd3, hok3, w5, fun t0 t1 => ?_⟩
  have hok := hok3 t0 t1
  have hup : (d3.restart l).down = false := rfl
  have hokr := DS.ok_restart hok l
  have v1 := always_now (always_restart hok l w1 fun g a b hg => by cases hg; rw [PF.stays_settled])
  have v2 := always_now (always_restart hok l w2 fun g a b hg => partO_stays g a b hg)
  refine ⟨readAt_cont (m := 1048576) hup v1 (by decide), fun h => ?_, fun h => ?_, ?_⟩
  · have v4 := always_now (always_restart hok l (w4 h) fun g a b hg => by cases hg; rw [PF.stays_settled])
    exact readAt_cont (m := 1048576) hup v4 (by simp [PF.now, runs]; omega)
  · rcases hv : cont (d3.restart l).fs (d3.restart l).fd.now [98] with _ | f
    · rw [readAt_none hokr hup 0 1048576 hv] at h
      exact absurd h (by decide)
    · rw [hv] at v2
      have hp := partO_now v2
      have := hp.length_le
      have := readAt_cont (m := 1048576) hup hv (by omega)
      rw [show ((1048576 : Nat) : Int) = 1048576 from rfl] at this
      rw [this]
      exact hp
  · have hl : (d3.restart l).list = (d3.restart l).fd.names := by unfold DS.list; rw [hup]; rfl
    rw [hl]
    have hnd := FD.names_nd hokr.num
    refine two_le (a := [97]) (b := [98]) hnd fun k hk => ?_
    obtain ⟨i, hi, h1, _⟩ := restart_cont hok l
    obtain ⟨n, hn⟩ := FD.names_get hk
    have hk2 : k ∈ NM.keys (d3.restart l).fd.now := NM.get_some.1 ⟨n, hn⟩
    rw [h1] at hk2
    exact w3 i hi k hk2
end Go.Proofs.YthafeihjlamhhaaGreatDoor
namespace Go.Proofs.YthafeihjlamhhaaGreatDoor
open Go Go.Lib
set_option maxRecDepth 100000
attribute [-simp] drawOk_eq adraw qrun acode aops
def pofS : Summ := fun args H => match args with
  | [.func f [.ptr q 0] [], .str k] => if q < H.length then some (.func 181 [] [.ptr H.length 0, .ptr (H.length + 1) 0], H ++ [.cells true [.func f [.ptr q 0] []], .cells true [.str k]], []) else none
  | _ => none
theorem pof_sound : Sound Tryz.prog 114 pofS := by
  refine ⟨enter_of Tryz.func114 rfl (by decide), fun args H v H' W hs => ?_, fun args H v H' W hs => ?_⟩ <;> (unfold pofS at hs; split at hs <;> try cases hs) <;> (rename_i f q k; split at hs <;> cases hs; rename_i hq)
  · refine ct_of_simE Tryz.func114 rfl ?_
    simp only [Tryz.ntmps114, List.length_cons, List.length_nil, Nat.reduceAdd, Nat.reduceSub, List.replicate, List.cons_append, List.nil_append]
    refine Sim.exec hmix goks_nil (n := 0) (by simp; exact ⟨rfl, rfl, rfl⟩) (by simp) ?_
    exact ⟨.inr rfl, by simp [Tryz.f114], rfl⟩
  · exact ⟨by simp, fun c hc _ => by rw [List.getElem?_append_left hc]⟩
def pbInl : List FuncId := [116]
theorem belows_flats (m : Nat) : ∀ l : List AV, flatsA l = true → belows m l = true
  | [], _ => rfl
  | x :: l, h => by
    simp only [flatsA, List.all_cons, Bool.and_eq_true] at h
    have := belows_flats m l h.2
    cases x <;> simp_all [flatA, belows, below]
def wrD (d : DS) (k s : List UInt8) : Nat → DS
  | 0 => d
  | 1 => (d.create k).1
  | 2 => ((d.create k).1.append k s).1
  | 3 => (((d.create k).1.append k s).1.sync k).1
  | _ => (((d.create k).1.append k s).1.sync k).1.syncDir.1
def wrE (d : DS) (k s : List UInt8) : Nat → Int
  | 0 => (d.create k).2
  | 1 => ((d.create k).1.append k s).2
  | 2 => (((d.create k).1.append k s).1.sync k).2
  | _ => (((d.create k).1.append k s).1.sync k).1.syncDir.2
theorem pfile_wr (d : DS) (k s : List UInt8) : ∃ S, S ≤ 4 ∧ (∀ i, i < S → wrE d k s i = 0) ∧ (S < 4 → wrE d k s S ≠ 0) ∧ d.pfile k s = (wrD d k s (if S < 4 then S + 1 else 4), if S < 4 then wrE d k s S else 0) := by
  unfold DS.pfile DS.write
  by_cases h0 : wrE d k s 0 = 0
  rotate_left
  · refine ⟨0, by omega, fun i hi => by omega, fun _ => h0, ?_⟩
    rw [seqE]
    exact if_neg h0
  rw [seqE, if_pos (show (d.create k).2 = 0 from h0)]
  by_cases h1 : wrE d k s 1 = 0
  rotate_left
  · refine ⟨1, by omega, fun i hi => by (have : i = 0 := by omega); subst this; exact h0, fun _ => h1, ?_⟩
    rw [seqE]
    exact if_neg h1
  rw [seqE, if_pos (show ((d.create k).1.append k s).2 = 0 from h1)]
  by_cases h2 : wrE d k s 2 = 0
  rotate_left
  · refine ⟨2, by omega, fun i hi => by (have : i = 0 ∨ i = 1 := by omega); rcases this with rfl | rfl <;> assumption, fun _ => h2, ?_⟩
    rw [seqE]
    exact if_neg h2
  rw [seqE, if_pos (show (((d.create k).1.append k s).1.sync k).2 = 0 from h2)]
  by_cases h3 : wrE d k s 3 = 0
  · refine ⟨4, by omega, fun i hi => by (have : i = 0 ∨ i = 1 ∨ i = 2 ∨ i = 3 := by omega); rcases this with rfl | rfl | rfl | rfl <;> assumption, fun h => by omega, ?_⟩
    exact Prod.ext rfl h3
  · exact ⟨3, by omega, fun i hi => by (have : i = 0 ∨ i = 1 ∨ i = 2 := by omega); rcases this with rfl | rfl | rfl <;> assumption, fun _ => h3, rfl⟩
def rwInl : List FuncId := [181, 184]
noncomputable def rwΓ0 : Gam := gams [(54, dcreS), (75, dappS), (144, dsyncS), (99, dsyncDS)]
theorem rwΓ_ok : GOk Tryz.prog (runG Tryz.prog rwΓ0 0 rwInl 2) := gok_run hmix (goks_cons dcre_sound (goks_cons dapp_sound (goks_cons dsync_sound (goks_cons dsyncD_sound goks_nil)))) 0 rwInl 2
abbrev rwC : List AV := [.func 181 [] [.ptr 5 0, .ptr 6 0], .func 184 [] [.ptr 2 0, .ptr 3 0, .ptr 4 0], .func 181 [] [.ptr 7 0, .ptr 8 0], .func 99 [.ptr 0 0] []]
abbrev rwH (l : List AV) (n : Nat) (c : Bool) (k : List UInt8) (d : DS) : AHeap := [.obj true d.blks, .cells true l, .cells true [.ptr 0 0], .cells true [.str k], .cells true [.slice 1 0 n 1 c], .cells true [.func 54 [.ptr 0 0] []], .cells true [.str k], .cells true [.func 144 [.ptr 0 0] []], .cells true [.str k],
  .cells true [.func 181 [] [.ptr 5 0, .ptr 6 0], .func 184 [] [.ptr 2 0, .ptr 3 0, .ptr 4 0], .func 181 [] [.ptr 7 0, .ptr 8 0]], .cells true [.func 99 [.ptr 0 0] []], .cells true rwC]
def rwFn : Nat → FuncId
  | 0 => 181 | 1 => 184 | 2 => 181 | _ => 99
def rwFirst : Nat → List AV
  | 0 => [] | 1 => [] | 2 => [] | _ => [.ptr 0 0]
def rwCap : Nat → List AV
  | 0 => [.ptr 5 0, .ptr 6 0] | 1 => [.ptr 2 0, .ptr 3 0, .ptr 4 0] | 2 => [.ptr 7 0, .ptr 8 0] | _ => []
set_option maxHeartbeats 16000000 in
theorem row_file (d : DS) (l : List AV) (hl : flatsA l = true) (a : List (List UInt8)) (n : Nat) (hn : n ≤ l.length) (ha : strsOf (l.take n) = some a) (ha1 : a.flatten.length ≤ 140737488355328) (ha2 : a.length ≤ 140737488355328) (c : Bool) (k : List UInt8) (hk : k.length ≤ 9223372036854775807)
    (hds : ∀ i, i ≤ 4 → (wrD d k a.flatten i).small) (hq : (d.create k).1.quota ≤ 1000000000000) :
    Ct Tryz.prog 119 [.slice 11 0 4 1 false] (rwH l n c k d) (.int .i64 (d.pfile k a.flatten).2) (rwH l n c k (d.pfile k a.flatten).1) := by
  obtain ⟨S, h1, h2, h3, h4⟩ := pfile_wr d k a.flatten
  rw [h4]
  have hAl : ∀ rn : List Nat, AWs rn l l := fun rn => AWs_flat l hl
  have e0 : d.small := hds 0 (by decide)
  have e1 : (d.create k).1.small := hds 1 (by decide)
  have e2 : ((d.create k).1.append k a.flatten).1.small := hds 2 (by decide)
  have e3 : (((d.create k).1.append k a.flatten).1.sync k).1.small := hds 3 (by decide)
  have ha3 : (a.map List.length).sum ≤ 140737488355328 := by rw [← List.length_flatten]; exact ha1
  have c0 : ∀ X, ∃ W, runG Tryz.prog rwΓ0 0 rwInl 2 181 ([] ++ [.ptr 5 0, .ptr 6 0]) (rwH l n c k d ++ X) = some (.int .i64 (d.create k).2, rwH l n c k (d.create k).1 ++ X, W) := fun X => by
    simp [rwInl, rwΓ0, dcreS, e0, hk, Tryz.f181]
  have c1 : ∀ X, ∃ W, runG Tryz.prog rwΓ0 0 rwInl 2 184 ([] ++ [.ptr 2 0, .ptr 3 0, .ptr 4 0]) (rwH l n c k (d.create k).1 ++ X) = some (.int .i64 ((d.create k).1.append k a.flatten).2, rwH l n c k ((d.create k).1.append k a.flatten).1 ++ X, W) := fun X => by
    simp [rwInl, rwΓ0, dappS, e1, hq, hl, hn, ha, ha3, ha2, Tryz.f184]
  have c2 : ∀ X, ∃ W, runG Tryz.prog rwΓ0 0 rwInl 2 181 ([] ++ [.ptr 7 0, .ptr 8 0]) (rwH l n c k ((d.create k).1.append k a.flatten).1 ++ X) = some (.int .i64 (((d.create k).1.append k a.flatten).1.sync k).2, rwH l n c k (((d.create k).1.append k a.flatten).1.sync k).1 ++ X, W) := fun X => by
    simp [rwInl, rwΓ0, dsyncS, e2, Tryz.f181]
  have c3 : ∀ X, ∃ W, runG Tryz.prog rwΓ0 0 rwInl 2 99 ([.ptr 0 0] ++ []) (rwH l n c k (((d.create k).1.append k a.flatten).1.sync k).1 ++ X) = some (.int .i64 ((((d.create k).1.append k a.flatten).1.sync k).1.syncDir).2, rwH l n c k ((((d.create k).1.append k a.flatten).1.sync k).1.syncDir).1 ++ X, W) := fun X => by
    simp [rwInl, rwΓ0, dsyncDS, e3]
  refine row_ct rwΓ_ok 12 11 4 (by decide) (fun i => rwH l n c k (wrD d k a.flatten i)) rwC rwFn rwFirst rwCap (wrE d k a.flatten) S h1 (fun i _ => rfl) (fun i _ => rfl) rfl (fun i hi => ?_) (fun i hi => ?_) (fun i hi rn hr B hB => ?_) h2 h3 fun i hi hi4 X => ?_
  · match i, hi with
    | 0, _ => exact rfl
    | 1, _ => exact rfl
    | 2, _ => exact rfl
    | 3, _ => exact rfl
  · match i, hi with
    | 0, _ => exact (by decide)
    | 1, _ => exact (by decide)
    | 2, _ => exact (by decide)
    | 3, _ => exact (by decide)
  · simp only [rwH, List.mem_cons, List.not_mem_nil, or_false] at hB
    have q : ∀ j, j < 12 → rn[j]? = some j := hr
    rcases hB with rfl | rfl | rfl | rfl | rfl | rfl | rfl | rfl | rfl | rfl | rfl | rfl <;> simp [AWb, AW, q, hAl]
  · match i, hi4 with
    | 0, _ => exact c0 X
    | 1, _ => exact c1 X
    | 2, _ => exact c2 X
    | 3, _ => exact c3 X
theorem wr_small {d : DS} {A B : Nat} (hok : d.ok A B) (K : Nat) (hK : 1 ≤ K) (hq : d.quota ≤ K) (hA : A + 8 ≤ 900000) (hB : B + K ≤ 1000000000000) (k s : List UInt8) : ∀ i, i ≤ 4 → (wrD d k s i).small := by
  intro i hi
  have h1 := DS.ok_create hok k
  have h2 := DS.ok_append h1 k s K hK (by rw [create_quota]; exact hq)
  have h3 := DS.ok_sync h2 k
  have h4 := DS.ok_syncDir h3
  match i, hi with
  | 0, _ => exact DS.ok_mono hok (by omega) (by omega)
  | 1, _ => exact DS.ok_mono h1 (by omega) (by omega)
  | 2, _ => exact DS.ok_mono h2 (by omega) (by omega)
  | 3, _ => exact DS.ok_mono h3 (by omega) (by omega)
  | 4, _ => exact DS.ok_mono h4 (by omega) (by omega)
set_option maxHeartbeats 16000000 in
theorem file_ct (d : DS) (l : List AV) (hl : flatsA l = true) (a : List (List UInt8)) (n : Nat) (hn : n ≤ l.length) (ha : strsOf (l.take n) = some a) (ha1 : a.flatten.length ≤ 140737488355328) (ha2 : a.length ≤ 140737488355328) (c : Bool) (k : List UInt8) (hk : k.length ≤ 9223372036854775807)
    (hds : ∀ i, i ≤ 4 → (wrD d k a.flatten i).small) (hq : (d.create k).1.quota ≤ 1000000000000) :
    Ct Tryz.prog 55 [.ptr 0 0, .str k, .slice 1 0 n 1 c] [.obj true d.blks, .cells true l] (.int .i64 (d.pfile k a.flatten).2) [.obj true (d.pfile k a.flatten).1.blks, .cells true l] := by
  have hrow := row_file d l hl a n hn ha ha1 ha2 c k hk hds hq
  have hΓ : GOk Tryz.prog (runG Tryz.prog (gams [(114, pofS), (119, oneAt [.slice 11 0 4 1 false] (rwH l n c k d) (.int .i64 (d.pfile k a.flatten).2) (rwH l n c k (d.pfile k a.flatten).1))]) 0 pbInl 4) :=
    gok_run hmix (goks_cons pof_sound (goks_cons (oneAt_sound (enter_of Tryz.func119 rfl (by decide)) hrow (Nat.le_refl _)) goks_nil)) 0 pbInl 4
  have hbl : ∀ m, belows m l = true := fun m => belows_flats m l hl
  obtain ⟨d', hd'⟩ : ∃ d', (d.pfile k a.flatten).1 = d' := ⟨_, rfl⟩
  obtain ⟨e', he'⟩ : ∃ e', (d.pfile k a.flatten).2 = e' := ⟨_, rfl⟩
  rw [hd', he'] at hΓ ⊢
  simp only [rwH, rwC] at hΓ
  refine ct_of_sim Tryz.func55 rfl ?_
  simp only [Tryz.ntmps55, List.length_cons, List.length_nil, Nat.reduceAdd, Nat.reduceSub, List.replicate, List.cons_append, List.nil_append]
  refine Sim.step hmix hΓ (n := 0) (by simp; exact ⟨rfl, rfl⟩) (by simp) ?_
  refine Sim.seq (Sim.plain (by simp) ?_)
  refine SimP.many hΓ 8 rfl rfl (by simp (decide := true) [pbInl, pofS, hbl, Tryz.f116]; exact ⟨rfl, rfl⟩) ?_
  refine SimP.many hΓ 2 rfl rfl (by simp (decide := true) [pbInl]; exact ⟨rfl, rfl⟩) ?_
  refine SimP.done ?_
  dsimp only
  refine Sim.exec hmix hΓ (n := 0) (by simp; exact ⟨rfl, rfl, rfl⟩) (by simp) ?_
  exact ⟨.inr rfl, _, by simp [Tryz.f55] <;> rfl, Weak.mk' [0, 1] (by decide) (by decide) (by simp) (by simp [AWb, AWs_flat l hl])⟩
end Go.Proofs.YthafeihjlamhhaaGreatDoor
