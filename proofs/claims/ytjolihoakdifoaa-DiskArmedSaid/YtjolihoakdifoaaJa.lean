/- Disks: the plain model, and its bounds. -/
import Derived.Test.YtjolihoakdifoaaFu
import Derived.Test.YtjolihoakdifoaaHb
import Derived.Test.YtjolihoakdifoaaHi
namespace Go.Proofs.Ytjolihoakdifoaa
open Go Go.Lib
set_option maxRecDepth 100000

/-- Files by their numbers, in the order in which they came. -/
abbrev FS := List (Int × PF)
def FS.keys (l : FS) : List Int := l.map (·.1)
def FS.get : FS → Int → Option PF
  | [], _ => none
  | e :: l, n => if e.1 = n then some e.2 else FS.get l n
def FS.upd : FS → Int → (PF → PF) → FS
  | [], _, _ => []
  | e :: l, n, g => if e.1 = n then (n, g e.2) :: l else e :: FS.upd l n g
def FS.at (l : FS) (n : Int) : Nat := (FS.keys l).idxOf n

theorem FS.get_none {l : FS} {n : Int} : FS.get l n = none ↔ n ∉ FS.keys l := by
  induction l with
  | nil => simp [FS.get, FS.keys]
  | cons e l ih =>
    unfold FS.get
    simp only [FS.keys, List.map_cons, List.mem_cons, not_or] at ih ⊢
    split
    · rename_i h; simp [h]
    · rename_i h; rw [ih]; simp [Ne.symm h]
theorem FS.get_some {l : FS} {n : Int} : (∃ f, FS.get l n = some f) ↔ n ∈ FS.keys l := by
  cases h : FS.get l n with
  | none => simp [FS.get_none.1 h]
  | some v =>
    have : n ∈ FS.keys l := by
      apply Classical.byContradiction
      intro hn
      rw [FS.get_none.2 hn] at h; cases h
    simp [this]
theorem FS.get_mem : ∀ {l : FS} {n : Int} {f : PF}, FS.get l n = some f → (n, f) ∈ l
  | e :: l, n, f, h => by
    unfold FS.get at h
    split at h
    · rename_i hk
      cases h
      subst hk
      exact List.mem_cons_self ..
    · exact List.mem_cons_of_mem _ (FS.get_mem h)
theorem FS.keys_upd (l : FS) (n : Int) (g : PF → PF) : FS.keys (FS.upd l n g) = FS.keys l := by
  induction l with
  | nil => rfl
  | cons e l ih =>
    unfold FS.upd
    split
    · rename_i h; simp [FS.keys, h]
    · simp only [FS.keys, List.map_cons] at ih ⊢; rw [ih]
theorem FS.get_upd (l : FS) (n m : Int) (g : PF → PF) : FS.get (FS.upd l n g) m = if m = n then (FS.get l n).map g else FS.get l m := by
  induction l with
  | nil => simp [FS.upd, FS.get]
  | cons e l ih =>
    unfold FS.upd
    split
    · rename_i h
      subst h
      unfold FS.get
      by_cases hk : m = e.1
      · simp [hk]
      · rw [if_neg hk, if_neg (Ne.symm hk), if_neg (Ne.symm hk)]
    · rename_i h
      unfold FS.get
      rw [ih]
      by_cases hk : e.1 = m
      · rw [if_pos hk, if_pos hk, if_neg (by rintro rfl; exact h hk)]
      · rw [if_neg hk, if_neg hk, if_neg h]
theorem FS.mem_upd {l : FS} {n : Int} {g : PF → PF} {e : Int × PF} (h : e ∈ FS.upd l n g) : e ∈ l ∨ ∃ f, (n, f) ∈ l ∧ e = (n, g f) := by
  induction l with
  | nil => cases h
  | cons x l ih =>
    unfold FS.upd at h
    split at h
    · rename_i hk
      rcases List.mem_cons.1 h with rfl | h
      · exact .inr ⟨x.2, by rw [← hk]; exact List.mem_cons_self .., rfl⟩
      · exact .inl (List.mem_cons_of_mem _ h)
    · rcases List.mem_cons.1 h with rfl | h
      · exact .inl (List.mem_cons_self ..)
      · rcases ih h with h | ⟨f, h1, h2⟩
        · exact .inl (List.mem_cons_of_mem _ h)
        · exact .inr ⟨f, List.mem_cons_of_mem _ h1, h2⟩
theorem FS.get_app (l : FS) (n m : Int) (f : PF) : FS.get (l ++ [(n, f)]) m = match FS.get l m with | some x => some x | none => if n = m then some f else none := by
  induction l with
  | nil => rfl
  | cons e l ih =>
    rw [List.cons_append]
    unfold FS.get
    split
    · rfl
    · exact ih
theorem FS.upd_none {l : FS} {n : Int} {g : PF → PF} (h : FS.get l n = none) : FS.upd l n g = l := by
  induction l with
  | nil => rfl
  | cons e l ih =>
    unfold FS.get at h
    unfold FS.upd
    split at h
    · cases h
    · rename_i hk
      rw [if_neg hk, ih h]
theorem FS.at_lt {l : FS} {n : Int} {f : PF} (h : FS.get l n = some f) : FS.at l n < l.length := by
  have : n ∈ FS.keys l := FS.get_some.1 ⟨f, h⟩
  have := List.idxOf_lt_length_of_mem this
  simpa [FS.at, FS.keys] using this
theorem FS.at_get : ∀ {l : FS} {n : Int} {f : PF}, FS.get l n = some f → l[FS.at l n]? = some (n, f)
  | e :: l, n, f, h => by
    unfold FS.get at h
    split at h
    · rename_i hk; subst hk; cases h; simp [FS.at, FS.keys]
    · rename_i hk
      have ih := FS.at_get h
      have h3 : (e.1 == n) = false := by simpa using hk
      simp only [FS.at, FS.keys, List.map_cons] at ih ⊢
      rw [List.idxOf_cons, h3]
      simpa using ih
theorem FS.upd_set : ∀ {l : FS} {n : Int} {f : PF} (g : PF → PF), FS.get l n = some f → FS.upd l n g = l.set (FS.at l n) (n, g f)
  | e :: l, n, f, g, h => by
    unfold FS.get at h
    unfold FS.upd
    split at h
    · rename_i hk; subst hk; cases h; simp [FS.at, FS.keys]
    · rename_i hk
      have ih := FS.upd_set g h
      have h3 : (e.1 == n) = false := by simpa using hk
      simp only [FS.at, FS.keys, List.map_cons] at ih ⊢
      rw [if_neg hk, List.idxOf_cons, h3]
      simp only [cond_false, List.set_cons_succ, ih]

structure DS where
  fd : FD
  fs : FS
  quota : Int
  steps : Int
  armed : Int
  down : Bool

def DS.new (q : Int) : DS := ⟨FD.new, [], q, 0, 0, false⟩

/-- A step is counted. -/
def DS.count (d : DS) : DS :=
  if 0 < d.armed ∧ d.down = false then ⟨d.fd, d.fs, d.quota, d.steps + 1, d.armed - 1, decide (d.armed - 1 = 0)⟩
  else ⟨d.fd, d.fs, d.quota, d.steps + 1, d.armed, d.down⟩
/-- A step is done, if it may be done. -/
def DS.step (d : DS) (g : DS → DS × Int) : DS × Int := if d.count.down then (d.count, 13) else g d.count
/-- A name's file. -/
def DS.file (d : DS) (k : List UInt8) : Option PF := match d.fd.now.get k with
  | some n => FS.get d.fs n
  | none => none
def DS.text (d : DS) (k : List UInt8) : List UInt8 := match d.file k with
  | some f => f.now
  | none => []
def DS.list (d : DS) : List (List UInt8) := if d.down then [] else d.fd.names
def DS.files (d : DS) : List (List UInt8 × List UInt8) := d.list.map fun k => (k, d.text k)
def DS.used (d : DS) : Nat := (d.list.map fun k => (d.text k).length).sum

def DS.create (d : DS) (k : List UInt8) : DS × Int := d.step fun d =>
  if (d.fd.create k).2.2 = 0 then (⟨(d.fd.create k).1, d.fs ++ [((d.fd.create k).2.1, ⟨[], []⟩)], d.quota, d.steps, d.armed, d.down⟩, 0)
  else (⟨(d.fd.create k).1, d.fs, d.quota, d.steps, d.armed, d.down⟩, (d.fd.create k).2.2)
/-- A step of a file. -/
def DS.of (d : DS) (k : List UInt8) (g : DS → PF → PF × Int) : DS × Int := d.step fun d =>
  match d.fd.now.get k with
  | none => (d, 9)
  | some n => match FS.get d.fs n with
    | none => (d, 1)
    | some f => (⟨d.fd, FS.upd d.fs n fun _ => (g d f).1, d.quota, d.steps, d.armed, d.down⟩, (g d f).2)
def DS.room (d : DS) : Nat := (max 0 (d.quota - d.used)).toNat
def DS.append (d : DS) (k : List UInt8) (s : List UInt8) : DS × Int := d.of k fun d f => if d.room < s.length then (f.add (s.take d.room), 10) else (f.add s, 0)
def DS.truncate (d : DS) (k : List UInt8) (n : Int) : DS × Int := d.of k fun _ f => f.cut n
def DS.sync (d : DS) (k : List UInt8) : DS × Int := d.of k fun _ f => (⟨f.now, []⟩, 0)
def DS.syncDir (d : DS) : DS × Int := d.step fun d => (⟨d.fd.survive d.fd.acts.length, d.fs, d.quota, d.steps, d.armed, d.down⟩, 0)
def DS.rename (d : DS) (a b : List UInt8) : DS × Int := d.step fun d => (⟨(d.fd.rename a b).1, d.fs, d.quota, d.steps, d.armed, d.down⟩, (d.fd.rename a b).2)
def DS.remove (d : DS) (a : List UInt8) : DS × Int := d.step fun d => (⟨(d.fd.remove a).1, d.fs, d.quota, d.steps, d.armed, d.down⟩, (d.fd.remove a).2)
def DS.arm (d : DS) (n : Int) : DS := ⟨d.fd, d.fs, d.quota, d.steps, max 0 n, d.down⟩
/-- A name's file that may be read, and the error. -/
def DS.err (d : DS) (k : List UInt8) : Int := if d.down then 13 else match d.fd.now.get k with | none => 9 | some _ => 0
def DS.readAt (d : DS) (k : List UInt8) (a n : Int) : List UInt8 × Int := if d.down then ([], 13) else match d.fd.now.get k with
  | none => ([], 9)
  | some m => match FS.get d.fs m with
    | none => ([], 1)
    | some f => f.readAt a n
def DS.size (d : DS) (k : List UInt8) : Int × Int := if d.down then (0, 13) else match d.fd.now.get k with
  | none => (0, 9)
  | some m => match FS.get d.fs m with
    | none => (0, 0)
    | some f => (f.now.length, 0)

/-- A restart, name by name: the numbers that are left, the files, and the numbers of those that are there. -/
def stay1 (fd : FD) (s : List Int × FS × List Int) (k : List UInt8) : List Int × FS × List Int :=
  (s.1.tail.tail, FS.upd s.2.1 (fd.find k).1 (fun f => ⟨f.stays (s.1.headD 0) (s.1.tail.headD 0), []⟩), if (fd.find k).1 ∈ s.2.2 then s.2.2 else s.2.2 ++ [(fd.find k).1])
def thereF (fs : FS) (th : List Int) : FS := th.map fun n => (n, (FS.get fs n).getD ⟨[], []⟩)
def stayAll (fd : FD) (l : List Int) (fs : FS) (ks : List (List UInt8)) : List Int × FS × List Int := ks.foldl (stay1 fd) (l, fs, [])
def DS.restart (d : DS) (l : List Int) : DS :=
  ⟨d.fd.survive (l.headD 0), thereF (stayAll (d.fd.survive (l.headD 0)) l.tail d.fs (d.fd.survive (l.headD 0)).names).2.1 (stayAll (d.fd.survive (l.headD 0)) l.tail d.fs (d.fd.survive (l.headD 0)).names).2.2, d.quota, d.steps, 0, false⟩

def hasP (fs : FS) (l : NM) (_ : Int) : Prop := ∀ k n, NM.get l k = some n → n ∈ FS.keys fs
/-- A disk within bounds. -/
structure DS.ok (d : DS) (A B : Nat) : Prop where
  fd : d.fd.ok A
  num : d.fd.numOk
  has : d.fd.each (hasP d.fs)
  rng : ∀ n ∈ FS.keys d.fs, n ≤ d.fd.last
  nd : (FS.keys d.fs).Nodup
  fine : ∀ e ∈ d.fs, e.2.ok B
  len : d.fs.length ≤ A
  q0 : 0 ≤ d.quota
  q1 : d.quota ≤ 4611686018427387903
  s0 : 0 ≤ d.steps
  s1 : d.steps ≤ A
  a0 : 0 ≤ d.armed
  a1 : d.armed ≤ 4611686018427387903

theorem DS.ok_new (q : Int) (h0 : 0 ≤ q) (h1 : q ≤ 4611686018427387903) : (DS.new q).ok 0 0 :=
  ⟨FD.ok_new, FD.numOk_new, fun i _ k n h => by simp [DS.new, FD.new, druns, NM.get] at h, (fun n h => by simp [DS.new, FS.keys] at h), List.nodup_nil, (fun e h => by simp [DS.new] at h), Nat.le_refl _, h0, h1, Int.le_refl _, Int.le_refl _, Int.le_refl _, by simp [DS.new]⟩
theorem DS.ok_mono {d : DS} {A B A' B' : Nat} (h : d.ok A B) (ha : A ≤ A') (hb : B ≤ B') : d.ok A' B' :=
  ⟨FD.ok_mono h.fd ha, h.num, h.has, h.rng, h.nd, fun e he => PF.ok_mono (h.fine e he) hb, by have := h.len; omega, h.q0, h.q1, h.s0, by have := h.s1; omega, h.a0, h.a1⟩
theorem DS.ok_count {d : DS} {A B : Nat} (h : d.ok A B) : d.count.ok (A + 1) B := by
  have h1 := h.s0
  have h2 := h.s1
  have h3 := h.a0
  have h4 := h.a1
  have h5 := h.len
  unfold DS.count
  split
  · exact ⟨FD.ok_mono h.fd (by omega), h.num, h.has, h.rng, h.nd, h.fine, by dsimp only; omega, h.q0, h.q1, by dsimp only; omega, by dsimp only; omega, by dsimp only; omega, by dsimp only; omega⟩
  · exact ⟨FD.ok_mono h.fd (by omega), h.num, h.has, h.rng, h.nd, h.fine, by dsimp only; omega, h.q0, h.q1, by dsimp only; omega, by dsimp only; omega, h3, h4⟩
theorem DS.has_file {d : DS} {A B : Nat} (h : d.ok A B) {k : List UInt8} {n : Int} (hk : d.fd.now.get k = some n) : ∃ f, FS.get d.fs n = some f ∧ f.ok B := by
  obtain ⟨f, hf⟩ := FS.get_some.2 (FD.each_now h.has k n hk)
  exact ⟨f, hf, h.fine _ (FS.get_mem hf)⟩
@[simp] theorem DS.count_fd (d : DS) : d.count.fd = d.fd := by unfold DS.count; split <;> rfl
@[simp] theorem DS.count_fs (d : DS) : d.count.fs = d.fs := by unfold DS.count; split <;> rfl
@[simp] theorem DS.count_quota (d : DS) : d.count.quota = d.quota := by unfold DS.count; split <;> rfl
@[simp] theorem DS.count_steps (d : DS) : d.count.steps = d.steps + 1 := by unfold DS.count; split <;> rfl

theorem each_imp {f : FD} {p q : NM → Int → Prop} (h : f.each p) (hpq : ∀ l n, p l n → q l n) : f.each q := fun i hi => hpq _ _ (h i hi)
theorem hasP_mono {fs gs : FS} (h : ∀ n ∈ FS.keys fs, n ∈ FS.keys gs) : ∀ l n, hasP fs l n → hasP gs l n := fun _ _ hp k n hk => h n (hp k n hk)

/-- What is done to names alone. -/
theorem DS.ok_fd {d : DS} {A B : Nat} (h : d.ok A B) {f : FD} (h1 : f.ok (A + 1)) (h2 : f.numOk) (h3 : f.each (hasP d.fs)) (h4 : d.fd.last ≤ f.last) : (⟨f, d.fs, d.quota, d.steps, d.armed, d.down⟩ : DS).ok (A + 1) B :=
  ⟨h1, h2, h3, fun n hn => by have := h.rng n hn; dsimp only; omega, h.nd, h.fine, by have := h.len; dsimp only; omega, h.q0, h.q1, h.s0, by have := h.s1; dsimp only; omega, h.a0, h.a1⟩
theorem DS.ok_fs {d : DS} {A B C : Nat} (h : d.ok A B) (n : Int) (g : PF → PF) (hg : ∀ f, (n, f) ∈ d.fs → (g f).ok C) (hBC : B ≤ C) : (⟨d.fd, FS.upd d.fs n g, d.quota, d.steps, d.armed, d.down⟩ : DS).ok A C := by
  refine ⟨h.fd, h.num, each_imp h.has (hasP_mono fun m hm => by dsimp only; rw [FS.keys_upd]; exact hm), (fun m hm => h.rng m (by dsimp only at hm; rw [FS.keys_upd] at hm; exact hm)), (by dsimp only; rw [FS.keys_upd]; exact h.nd), fun e he => ?_, ?_, h.q0, h.q1, h.s0, h.s1, h.a0, h.a1⟩
  · rcases FS.mem_upd he with he | ⟨f, h1, rfl⟩
    · exact PF.ok_mono (h.fine e he) hBC
    · exact hg f h1
  · have := congrArg List.length (FS.keys_upd d.fs n g)
    simp only [FS.keys, List.length_map] at this
    have := h.len
    dsimp only; omega

theorem DS.ok_create {d : DS} {A B : Nat} (h : d.ok A B) (k : List UInt8) : (d.create k).1.ok (A + 2) B := by
  have hc := DS.ok_count h
  unfold DS.create DS.step
  split
  · exact DS.ok_mono hc (by omega) (Nat.le_refl _)
  · generalize d.count = d at hc
    have h1 := FD.ok_create hc.fd k
    have h2 := FD.numOk_create hc.num k
    dsimp only
    unfold FD.create at h1 h2 ⊢
    split
    · rename_i hm
      cases hg : d.fd.now.get k with
      | some n =>
        simp only
        rw [if_neg (by decide)]
        exact DS.ok_mono hc (by omega) (Nat.le_refl _)
      | none =>
        simp only [hg, if_pos hm] at h1 h2 ⊢
        rw [if_pos trivial]
        refine ⟨h1, h2, ?_, ?_, ?_, fun e he => ?_, ?_, hc.q0, hc.q1, hc.s0, ?_, hc.a0, hc.a1⟩
        · have hk : ∀ n ∈ FS.keys d.fs, n ∈ FS.keys (d.fs ++ [(d.fd.last + 1, (⟨[], []⟩ : PF))]) := fun n hn => by simp only [FS.keys, List.map_append, List.mem_append] at hn ⊢; exact .inl hn
          refine FD.each_one (f := d.fd) (each_imp hc.has (hasP_mono hk)) (fun l a b _ hl => hl) _ rfl rfl (by dsimp only; omega) ?_
          intro k' n hn
          simp only [DAct.run] at hn
          rw [NM.get_put] at hn
          split at hn
          · cases hn; simp [FS.keys]
          · exact hk n (FD.each_now hc.has k' n hn)
        · intro n hn
          simp only [FS.keys, List.map_append, List.mem_append, List.map_cons, List.map_nil, List.mem_singleton] at hn
          rcases hn with hn | hn
          · have := hc.rng n hn; dsimp only; omega
          · dsimp only; omega
        · simp only [FS.keys, List.map_append, List.map_cons, List.map_nil]
          rw [List.nodup_append]
          refine ⟨hc.nd, by simp, fun a ha b hb => ?_⟩
          simp at hb
          have := hc.rng a ha
          omega
        · rcases List.mem_append.1 he with he | he
          · exact hc.fine e he
          · simp at he; subst he; exact PF.ok_new _ _ (by simp)
        · have := hc.len; simp; omega
        · have := hc.s1; dsimp only; omega
    · rw [if_neg (by dsimp only; omega)]
      exact DS.ok_mono hc (by omega) (Nat.le_refl _)
theorem DS.ok_of {d : DS} {A B C : Nat} (h : d.ok A B) (k : List UInt8) (g : DS → PF → PF × Int) (hg : ∀ f, f.ok B → (g d.count f).1.ok C) (hBC : B ≤ C) : (d.of k g).1.ok (A + 1) C := by
  have hc := DS.ok_count h
  unfold DS.of DS.step
  split
  · exact DS.ok_mono hc (Nat.le_refl _) hBC
  · generalize d.count = d at hc hg
    dsimp only
    split
    · exact DS.ok_mono hc (Nat.le_refl _) hBC
    split
    · exact DS.ok_mono hc (Nat.le_refl _) hBC
    · rename_i n _ _ f hf
      exact DS.ok_fs hc n _ (fun f' _ => hg f (hc.fine _ (FS.get_mem hf))) hBC
theorem DS.room_le (d : DS) (h : 0 ≤ d.quota) : (d.room : Int) ≤ d.quota := by unfold DS.room; omega
theorem DS.ok_append {d : DS} {A B : Nat} (h : d.ok A B) (k s : List UInt8) (K : Nat) (hK : 1 ≤ K) (hq : d.quota ≤ K) : (d.append k s).1.ok (A + 1) (B + K) := by
  have hr := d.count.room_le (by rw [DS.count_quota]; exact h.q0)
  rw [DS.count_quota] at hr
  refine DS.ok_of h k _ (fun f hf => ?_) (by omega)
  split
  · exact PF.ok_add hf _ (by rw [List.length_take]; omega) hK
  · exact PF.ok_add hf _ (by omega) hK
theorem DS.ok_truncate {d : DS} {A B : Nat} (h : d.ok A B) (k : List UInt8) (n : Int) : (d.truncate k n).1.ok (A + 1) (B + 1) :=
  DS.ok_of h k _ (fun _ hf => PF.ok_cut hf n) (by omega)
theorem DS.ok_sync {d : DS} {A B : Nat} (h : d.ok A B) (k : List UInt8) : (d.sync k).1.ok (A + 1) B :=
  DS.ok_of h k _ (fun _ hf => PF.ok_new _ _ (PF.ok_now hf)) (Nat.le_refl _)
theorem DS.ok_syncDir {d : DS} {A B : Nat} (h : d.ok A B) : d.syncDir.1.ok (A + 2) B := by
  have hc := DS.ok_count h
  unfold DS.syncDir DS.step
  split
  · exact DS.ok_mono hc (by omega) (Nat.le_refl _)
  · exact DS.ok_fd hc (FD.ok_mono (FD.ok_survive hc.fd _) (by omega)) (FD.numOk_survive hc.num _) (FD.each_survive hc.has _) (Int.le_refl _)
theorem DS.ok_rename {d : DS} {A B : Nat} (h : d.ok A B) (a b : List UInt8) : (d.rename a b).1.ok (A + 2) B := by
  have hc := DS.ok_count h
  unfold DS.rename DS.step
  split
  · exact DS.ok_mono hc (by omega) (Nat.le_refl _)
  · generalize d.count = d at hc
    refine DS.ok_fd hc (FD.ok_rename hc.fd a b) (FD.numOk_rename hc.num a b) ?_ ?_
    · unfold FD.rename
      split
      · split
        · rename_i n hn
          refine FD.each_one hc.has (fun l a b _ hl => hl) _ rfl rfl (Int.le_refl _) ?_
          intro k' m hm
          simp only [DAct.run] at hm
          rw [NM.get_put] at hm
          split at hm
          · cases hm; exact FD.each_now hc.has _ _ hn
          · rw [NM.get_del (FD.each_now hc.num.2).nd] at hm
            split at hm
            · cases hm
            · exact FD.each_now hc.has _ _ hm
        · exact hc.has
      · exact hc.has
    · unfold FD.rename
      split
      · split <;> exact Int.le_refl _
      · exact Int.le_refl _
theorem DS.ok_remove {d : DS} {A B : Nat} (h : d.ok A B) (a : List UInt8) : (d.remove a).1.ok (A + 2) B := by
  have hc := DS.ok_count h
  unfold DS.remove DS.step
  split
  · exact DS.ok_mono hc (by omega) (Nat.le_refl _)
  · generalize d.count = d at hc
    refine DS.ok_fd hc (FD.ok_remove hc.fd a) (FD.numOk_remove hc.num a) ?_ ?_
    · unfold FD.remove
      split
      · refine FD.each_one hc.has (fun l a b _ hl => hl) _ rfl rfl (Int.le_refl _) ?_
        intro k' m hm
        simp only [DAct.run] at hm
        rw [NM.get_del (FD.each_now hc.num.2).nd] at hm
        split at hm
        · cases hm
        · exact FD.each_now hc.has _ _ hm
      · exact hc.has
    · unfold FD.remove
      split <;> exact Int.le_refl _
theorem DS.ok_arm {d : DS} {A B : Nat} (h : d.ok A B) (n : Int) (hn : n ≤ 4611686018427387903) : (d.arm n).ok A B :=
  ⟨h.fd, h.num, h.has, h.rng, h.nd, h.fine, h.len, h.q0, h.q1, h.s0, h.s1, by simp only [DS.arm]; omega, by simp only [DS.arm]; omega⟩

/-- A restart keeps the bounds. -/
structure StOk (fd : FD) (B : Nat) (s : List Int × FS × List Int) (fs : FS) : Prop where
  keys : FS.keys s.2.1 = FS.keys fs
  fine : ∀ e ∈ s.2.1, e.2.ok B
  nd : s.2.2.Nodup
  sub : ∀ n ∈ s.2.2, n ∈ FS.keys fs

theorem stay1_ok {fd : FD} {B : Nat} {s : List Int × FS × List Int} {fs : FS} (h : StOk fd B s fs) (k : List UInt8) (hk : (fd.find k).1 ∈ FS.keys fs) : StOk fd B (stay1 fd s k) fs := by
  refine ⟨?_, fun e he => ?_, ?_, fun n hn => ?_⟩
  · simp only [stay1]; rw [FS.keys_upd]; exact h.keys
  · simp only [stay1] at he
    rcases FS.mem_upd he with he | ⟨f, h1, rfl⟩
    · exact h.fine e he
    · exact PF.ok_new _ _ (PF.ok_stays (h.fine _ h1) _ _)
  · simp only [stay1]
    split
    · exact h.nd
    · rename_i hn
      rw [List.nodup_append]
      exact ⟨h.nd, by simp, fun a ha b hb => by simp at hb; subst hb; rintro rfl; exact hn ha⟩
  · simp only [stay1] at hn
    split at hn
    · exact h.sub n hn
    · rcases List.mem_append.1 hn with hn | hn
      · exact h.sub n hn
      · simp at hn; subst hn; exact hk
theorem stayAll_mem (fd : FD) : ∀ (ks : List (List UInt8)) (s : List Int × FS × List Int) (n : Int), n ∈ (ks.foldl (stay1 fd) s).2.2 ↔ n ∈ s.2.2 ∨ ∃ k ∈ ks, (fd.find k).1 = n
  | [], s, n => by simp
  | k :: ks, s, n => by
    rw [List.foldl_cons, stayAll_mem fd ks]
    have : n ∈ (stay1 fd s k).2.2 ↔ n ∈ s.2.2 ∨ (fd.find k).1 = n := by
      simp only [stay1]
      split
      · rename_i h
        constructor
        · exact .inl
        · rintro (h1 | rfl)
          · exact h1
          · exact h
      · simp [eq_comm]
    rw [this]
    simp only [List.mem_cons, exists_eq_or_imp, or_assoc]
theorem stayAll_ok {fd : FD} {B : Nat} {fs : FS} : ∀ (ks : List (List UInt8)) {s : List Int × FS × List Int}, StOk fd B s fs → (∀ k ∈ ks, (fd.find k).1 ∈ FS.keys fs) → StOk fd B (ks.foldl (stay1 fd) s) fs
  | [], _, h, _ => h
  | k :: ks, _s, h, hk => stayAll_ok ks (stay1_ok h k (hk k (List.mem_cons_self ..))) fun k' h' => hk k' (List.mem_cons_of_mem _ h')
theorem FD.names_get {f : FD} {k : List UInt8} (h : k ∈ f.names) : ∃ n, f.now.get k = some n := NM.get_some.2 ((sortU_perm _).subset h)
theorem FD.names_of {f : FD} {k : List UInt8} {n : Int} (h : f.now.get k = some n) : k ∈ f.names := (sortU_perm _).symm.subset (NM.get_some.1 ⟨n, h⟩)
theorem FD.find_get {f : FD} {k : List UInt8} {n : Int} (h : f.now.get k = some n) : f.find k = (n, true) := by unfold FD.find; rw [h]
theorem keys_there (fs : FS) (th : List Int) : FS.keys (thereF fs th) = th := by simp [FS.keys, thereF, Function.comp_def]
theorem get_there (fs : FS) : ∀ (th : List Int) (n : Int), n ∈ th → FS.get (thereF fs th) n = some ((FS.get fs n).getD ⟨[], []⟩)
  | a :: th, n, h => by
    simp only [thereF, List.map_cons, FS.get]
    split
    · rename_i e; subst e; rfl
    · rename_i e
      rcases List.mem_cons.1 h with h | h
      · exact absurd h.symm e
      · exact get_there fs th n h
theorem nodup_sub_len {l m : List Int} (h : l.Nodup) (hs : ∀ n ∈ l, n ∈ m) : l.length ≤ m.length := h.length_le_of_subset hs
theorem DS.ok_restart {d : DS} {A B : Nat} (h : d.ok A B) (l : List Int) : (d.restart l).ok A B := by
  obtain ⟨fd, hfd⟩ : ∃ fd, d.fd.survive (l.headD 0) = fd := ⟨_, rfl⟩
  obtain ⟨r, hr⟩ : ∃ r, stayAll fd l.tail d.fs fd.names = r := ⟨_, rfl⟩
  have h1 : fd.ok A := by rw [← hfd]; exact FD.ok_survive h.fd _
  have h2 : fd.numOk := by rw [← hfd]; exact FD.numOk_survive h.num _
  have h3 : fd.each (hasP d.fs) := by rw [← hfd]; exact FD.each_survive h.has _
  have h4 : fd.last = d.fd.last := by rw [← hfd]; rfl
  have h5 : fd.acts = [] := by rw [← hfd]; rfl
  have hk : ∀ k ∈ fd.names, (fd.find k).1 ∈ FS.keys d.fs := fun k hk => by
    obtain ⟨n, hn⟩ := FD.names_get hk
    rw [FD.find_get hn]
    exact FD.each_now h3 k n hn
  have hs : StOk fd B r d.fs := by rw [← hr]; exact stayAll_ok _ ⟨rfl, h.fine, List.nodup_nil, fun n hn => by cases hn⟩ hk
  have hm := stayAll_mem fd fd.names (l.tail, d.fs, [])
  unfold DS.restart
  rw [hfd, hr]
  have hmm : ∀ n, n ∈ r.2.2 ↔ ∃ k ∈ fd.names, (fd.find k).1 = n := fun n => by rw [← hr]; unfold stayAll; rw [hm]; simp
  refine ⟨h1, h2, fun i hi => ?_, fun n hn => ?_, by dsimp only; rw [keys_there]; exact hs.nd, fun e he => ?_, ?_, h.q0, h.q1, h.s0, h.s1, Int.le_refl _, by dsimp only; omega⟩
  · dsimp only at hi ⊢
    intro k n hn
    have : druns fd.d (fd.acts.take i) = fd.now := by unfold FD.now; rw [h5, List.take_nil]
    rw [this] at hn
    rw [keys_there, hmm]
    exact ⟨k, FD.names_of hn, by rw [FD.find_get hn]⟩
  · dsimp only at hn ⊢
    rw [keys_there] at hn
    rw [h4]
    exact h.rng n (hs.sub n hn)
  · obtain ⟨n, hn, rfl⟩ := List.mem_map.1 he
    obtain ⟨f, hf⟩ := FS.get_some.2 (by rw [hs.keys]; exact hs.sub n hn : n ∈ FS.keys r.2.1)
    dsimp only
    rw [hf]
    exact hs.fine _ (FS.get_mem hf)
  · have := nodup_sub_len hs.nd hs.sub
    have h6 := h.len
    simp only [thereF, List.length_map, FS.keys] at this ⊢
    omega

end Go.Proofs.Ytjolihoakdifoaa
