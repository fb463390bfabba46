/- DiskArmed: Size of a disk that is down; the plain law. -/
import Derived.Test.YtjolihoakdifoaaJbf
namespace Go.Proofs.Ytjolihoakdifoaa
open Go Go.Lib
set_option maxRecDepth 100000
attribute [-simp] drawOk_eq adraw qrun acode aops

def szInl : List FuncId := [79, 56, 55]
theorem szΓ_ok : GOk Try.prog (runG Try.prog (gams []) 0 szInl 3) := gok_run hmix goks_nil 0 szInl 3
theorem size_down_ct (d : DS) (hd : d.down = true) (k : List UInt8) : Ct Try.prog 34 [.ptr 0 0, .str k] (d.heap []) (.tuple [.int .i64 0, .int .i64 13]) (d.heap []) := by
  have hΓ := szΓ_ok
  refine ct_of_simE Try.func34 rfl ?_
  simp only [Try.ntmps34, List.length_cons, List.length_nil, Nat.reduceAdd, Nat.reduceSub, List.replicate, List.cons_append, List.nil_append]
  unfold DS.heap DS.cell0
  rw [hd]
  refine Sim.step hmix hΓ (n := 0) (by simp; exact ⟨rfl, rfl⟩) (by simp) ?_
  refine Sim.step hmix hΓ (n := 0) (by simp (decide := true) [szInl, Try.f79]; exact ⟨rfl, rfl⟩) (by simp) ?_
  refine Sim.exec hmix hΓ (n := 0) (by simp (decide := true) [szInl, Try.f56, Try.f55]; exact ⟨rfl, rfl, rfl⟩) (by simp) ?_
  exact ⟨.inr rfl, by simp [Try.f34], by simp⟩
noncomputable def dsizeDS : Summ := objS dsD DS.blks fun d xs _ => match xs with
  | [.str _] => if d.down = true then some (d, .tuple [.int .i64 0, .int .i64 13]) else none
  | _ => none
theorem dsizeD_sound : Sound Try.prog 34 dsizeDS := by
  refine sound_obj (enter_of Try.func34 rfl (by decide)) (fun _ _ => dsD_eq) fun d xs H s' v b hg hb => ?_
  split at hg
  rotate_left
  · cases hg
  split at hg <;> cases hg
  rename_i hs
  exact ct_obj1 (ct_objD (size_down_ct d hs _) rfl) rfl rfl hb

/-! The plain law -/

/-- A disk that is armed (so many steps are left, with the one that is not done), and one that is not. -/
structure Ar (a : Int) (d f : DS) : Prop where
  fd : d.fd = f.fd
  fs : d.fs = f.fs
  q1 : d.quota = 200
  q2 : f.quota = 200
  fa : f.armed = 0
  fw : f.down = false
  da : d.armed = a
  dw : d.down = decide (a = 0)

/-- What a step does hangs on names, files, room, and on being up. -/
structure StepG (g : DS → DS × Int) : Prop where
  same : ∀ d f, d.fd = f.fd → d.fs = f.fs → d.quota = f.quota → d.down = f.down → (g d).2 = (g f).2 ∧ (g d).1.fd = (g f).1.fd ∧ (g d).1.fs = (g f).1.fs
  rest : ∀ d, (g d).1.quota = d.quota ∧ (g d).1.armed = d.armed ∧ (g d).1.down = d.down

theorem Ar.zero {d f : DS} (h : Ar 0 d f) (g : DS → DS × Int) : d.step g = (d.count, 13) ∧ Ar 0 d.count f := by
  have hdw : d.down = true := by rw [h.dw]; rfl
  have hc : d.count = ⟨d.fd, d.fs, d.quota, d.steps + 1, d.armed, d.down⟩ := by unfold DS.count; rw [if_neg (by rw [hdw]; simp)]
  refine ⟨?_, ?_⟩
  · unfold DS.step
    rw [hc, if_pos (by exact hdw)]
  · rw [hc]
    exact ⟨h.fd, h.fs, h.q1, h.q2, h.fa, h.fw, h.da, h.dw⟩
theorem Ar.one {d f : DS} (h : Ar 1 d f) (g : DS → DS × Int) : d.step g = (d.count, 13) ∧ Ar 0 d.count f := by
  have hdw : d.down = false := by rw [h.dw]; rfl
  have hc : d.count = ⟨d.fd, d.fs, d.quota, d.steps + 1, d.armed - 1, decide (d.armed - 1 = 0)⟩ := by unfold DS.count; rw [if_pos ⟨by rw [h.da]; decide, hdw⟩]
  refine ⟨?_, ?_⟩
  · unfold DS.step
    rw [hc, if_pos (by simp [h.da])]
  · rw [hc]
    exact ⟨h.fd, h.fs, h.q1, h.q2, h.fa, h.fw, by simp [h.da], by simp [h.da]⟩
theorem Ar.more {a : Int} {d f : DS} (h : Ar a d f) (ha : 1 < a) {g : DS → DS × Int} (hg : StepG g) : (d.step g).2 = (f.step g).2 ∧ Ar (a - 1) (d.step g).1 (f.step g).1 := by
  have hdw : d.down = false := by rw [h.dw]; simp; omega
  have hc : d.count = ⟨d.fd, d.fs, d.quota, d.steps + 1, d.armed - 1, decide (d.armed - 1 = 0)⟩ := by unfold DS.count; rw [if_pos ⟨by rw [h.da]; omega, hdw⟩]
  have hcf : f.count = ⟨f.fd, f.fs, f.quota, f.steps + 1, f.armed, f.down⟩ := by unfold DS.count; rw [if_neg (by rw [h.fa]; simp)]
  have hcd : d.count.down = false := by rw [hc]; simp [h.da]; omega
  have hcd2 : f.count.down = false := by rw [hcf]; exact h.fw
  have e1 : d.step g = g d.count := by unfold DS.step; rw [if_neg (by rw [hcd]; decide)]
  have e2 : f.step g = g f.count := by unfold DS.step; rw [if_neg (by rw [hcd2]; decide)]
  rw [e1, e2]
  obtain ⟨h1, h2, h3⟩ := hg.same d.count f.count (by rw [DS.count_fd, DS.count_fd]; exact h.fd) (by rw [DS.count_fs, DS.count_fs]; exact h.fs) (by rw [DS.count_quota, DS.count_quota, h.q1, h.q2]) (by rw [hcd, hcd2])
  obtain ⟨r1, r2, r3⟩ := hg.rest d.count
  obtain ⟨s1, s2, s3⟩ := hg.rest f.count
  refine ⟨h1, h2, h3, by rw [r1, DS.count_quota]; exact h.q1, by rw [s1, DS.count_quota]; exact h.q2, by rw [s2, hcf]; exact h.fa, by rw [s3, hcd2], by rw [r2, hc]; show d.armed - 1 = _; rw [h.da], ?_⟩
  rw [r3, hcd]
  simp; omega

theorem list_eq {d f : DS} (h1 : d.fd = f.fd) (h4 : d.down = f.down) : d.list = f.list := by unfold DS.list; rw [h1, h4]
theorem text_eq {d f : DS} (h1 : d.fd = f.fd) (h2 : d.fs = f.fs) (k : List UInt8) : d.text k = f.text k := by unfold DS.text DS.file; rw [h1, h2]
theorem files_eq {d f : DS} (h1 : d.fd = f.fd) (h2 : d.fs = f.fs) (h4 : d.down = f.down) : d.files = f.files := by
  unfold DS.files
  rw [list_eq h1 h4]
  exact List.map_congr_left fun k _ => by rw [text_eq h1 h2]
theorem used_eq {d f : DS} (h1 : d.fd = f.fd) (h2 : d.fs = f.fs) (h4 : d.down = f.down) : d.used = f.used := by rw [DS.used_sum, DS.used_sum, files_eq h1 h2 h4]
theorem Ar.files {a : Int} {d f : DS} (h : Ar a d f) (ha : 0 < a) : d.files = f.files := files_eq h.fd h.fs (by rw [h.dw, h.fw]; simp; omega)

theorem stepG_create (k : List UInt8) : StepG fun d => if (d.fd.create k).2.2 = 0 then (⟨(d.fd.create k).1, d.fs ++ [((d.fd.create k).2.1, ⟨[], []⟩)], d.quota, d.steps, d.armed, d.down⟩, 0)
    else (⟨(d.fd.create k).1, d.fs, d.quota, d.steps, d.armed, d.down⟩, (d.fd.create k).2.2) := by
  refine ⟨fun d f h1 h2 _ _ => ?_, fun d => ?_⟩
  · rw [h1, h2]
    split <;> exact ⟨rfl, rfl, rfl⟩
  · split <;> exact ⟨rfl, rfl, rfl⟩
theorem stepG_remove (k : List UInt8) : StepG fun d => (⟨(d.fd.remove k).1, d.fs, d.quota, d.steps, d.armed, d.down⟩, (d.fd.remove k).2) :=
  ⟨fun d f h1 h2 _ _ => by rw [h1, h2]; exact ⟨rfl, rfl, rfl⟩, fun d => ⟨rfl, rfl, rfl⟩⟩
theorem stepG_syncDir : StepG fun d => (⟨d.fd.survive d.fd.acts.length, d.fs, d.quota, d.steps, d.armed, d.down⟩, 0) :=
  ⟨fun d f h1 h2 _ _ => by rw [h1, h2]; exact ⟨rfl, rfl, rfl⟩, fun d => ⟨rfl, rfl, rfl⟩⟩
theorem stepG_of (k : List UInt8) (g : DS → PF → PF × Int) (hg : ∀ d f x, d.fd = f.fd → d.fs = f.fs → d.quota = f.quota → d.down = f.down → g d x = g f x) : StepG (ofG k g) := by
  refine ⟨fun d f h1 h2 h3 h4 => ?_, fun d => ?_⟩
  · unfold ofG
    rw [h1, h2]
    split
    · exact ⟨rfl, h1, h2⟩
    split
    · exact ⟨rfl, h1, h2⟩
    · rename_i x _
      rw [hg d f x h1 h2 h3 h4]
      exact ⟨rfl, rfl, rfl⟩
  · unfold ofG
    split
    · exact ⟨rfl, rfl, rfl⟩
    split <;> exact ⟨rfl, rfl, rfl⟩
theorem stepG_append (k s : List UInt8) : StepG (ofG k fun d f => if d.room < s.length then (f.add (s.take d.room), 10) else (f.add s, 0)) :=
  stepG_of k _ fun d f x h1 h2 h3 h4 => by
    have : d.room = f.room := by unfold DS.room; rw [h3, used_eq h1 h2 h4]
    rw [this]

/-- Behind a restart that keeps all. -/
theorem stays_all {f : PF} {B : Nat} (h : f.ok B) (hB : B ≤ 60000) (p : Int) : f.stays 60000 p = f.now := by
  have ha := h.acts
  have hn : (inI 60000 0 f.acts.length).toNat = f.acts.length := by unfold inI; omega
  unfold PF.stays
  simp only [hn]
  rw [List.take_length, List.getElem?_eq_none (Nat.le_refl _)]
  simp [PF.now]
theorem stay_all {B : Nat} (hB : B ≤ 60000) (fd : FD) : ∀ (ks : List (List UInt8)) (s : List Int × FS × List Int) (m : Nat), s.1 = List.replicate m 60000 → 2 * ks.length ≤ m → (∀ e ∈ s.2.1, e.2.ok B) →
    ∀ n f, FS.get s.2.1 n = some f → ∃ f', FS.get (ks.foldl (stay1 fd) s).2.1 n = some f' ∧ f'.now = f.now
  | [], s, m, _, _, _, n, f, h => ⟨f, h, rfl⟩
  | k :: ks, s, m, h1, h2, h3, n, f, hf => by
    simp only [List.length_cons] at h2
    obtain ⟨m', rfl⟩ : ∃ m', m = m' + 2 := ⟨m - 2, by omega⟩
    rw [List.foldl_cons]
    have e1 : s.1.headD 0 = 60000 := by rw [h1]; rfl
    have e2 : s.1.tail.headD 0 = 60000 := by rw [h1]; rfl
    have e3 : s.1.tail.tail = List.replicate m' 60000 := by rw [h1]; rfl
    have hs : stay1 fd s k = (List.replicate m' 60000, FS.upd s.2.1 (fd.find k).1 (fun f => ⟨f.stays 60000 60000, []⟩), if (fd.find k).1 ∈ s.2.2 then s.2.2 else s.2.2 ++ [(fd.find k).1]) := by
      simp only [stay1]; rw [e1, e2, e3]
    rw [hs]
    have h4 : ∃ f', FS.get (FS.upd s.2.1 (fd.find k).1 (fun f => ⟨f.stays 60000 60000, []⟩)) n = some f' ∧ f'.now = f.now := by
      rw [FS.get_upd]
      split
      · rename_i e
        rw [← e, hf]
        refine ⟨_, rfl, ?_⟩
        have := stays_all (h3 _ (FS.get_mem hf)) hB 60000
        show runs (f.stays 60000 60000) [] = f.now
        rw [this]; rfl
      · exact ⟨f, hf, rfl⟩
    obtain ⟨f1, g1, g2⟩ := h4
    obtain ⟨f2, g3, g4⟩ := stay_all hB fd ks (List.replicate m' 60000, FS.upd s.2.1 (fd.find k).1 (fun f => ⟨f.stays 60000 60000, []⟩), if (fd.find k).1 ∈ s.2.2 then s.2.2 else s.2.2 ++ [(fd.find k).1]) m' rfl (by omega) (fun e he => by
      rcases FS.mem_upd he with he | ⟨x, hx, rfl⟩
      · exact h3 e he
      · exact PF.ok_new _ _ (PF.ok_stays (h3 _ hx) _ _)) n f1 g1
    exact ⟨f2, g3, by rw [g4, g2]⟩
theorem restart_all {d : DS} {A B : Nat} (hok : d.ok A B) (hA : A ≤ 60000) (hB : B ≤ 60000) (m : Nat) (hm : 2 * d.fd.names.length ≤ m) : (d.restart (List.replicate (m + 1) 60000)).files = (⟨d.fd, d.fs, d.quota, d.steps, d.armed, false⟩ : DS).files ∧ (d.restart (List.replicate (m + 1) 60000)).down = false := by
  have hcl : d.fd.clamp 60000 = d.fd.acts.length := by have := hok.fd.len; unfold FD.clamp; omega
  obtain ⟨fd, hfd⟩ : ∃ fd, d.fd.survive 60000 = fd := ⟨_, rfl⟩
  have hnow : fd.now = d.fd.now := by rw [← hfd]; unfold FD.survive FD.now; rw [hcl, List.take_length]; rfl
  have hnames : fd.names = d.fd.names := by unfold FD.names; rw [hnow]
  obtain ⟨s, hs⟩ : ∃ s, stayAll fd (List.replicate m 60000) d.fs fd.names = s := ⟨_, rfl⟩
  have hr : d.restart (List.replicate (m + 1) 60000) = ⟨fd, thereF s.2.1 s.2.2, d.quota, d.steps, 0, false⟩ := by
    unfold DS.restart
    rw [show (List.replicate (m + 1) (60000 : Int)).headD 0 = 60000 from rfl, show (List.replicate (m + 1) (60000 : Int)).tail = List.replicate m 60000 from rfl, hfd, hs]
  rw [hr]
  refine ⟨?_, rfl⟩
  have hl : (⟨fd, thereF s.2.1 s.2.2, d.quota, d.steps, 0, false⟩ : DS).list = (⟨d.fd, d.fs, d.quota, d.steps, d.armed, false⟩ : DS).list := by unfold DS.list; exact hnames
  unfold DS.files
  rw [hl]
  refine List.map_congr_left fun k hk => ?_
  have hk' : k ∈ d.fd.names := by unfold DS.list at hk; exact hk
  obtain ⟨n, hn⟩ := FD.names_get hk'
  obtain ⟨f, hf, hfo⟩ := DS.has_file hok hn
  have hmem : n ∈ s.2.2 := by
    rw [← hs]
    unfold stayAll
    rw [stayAll_mem]
    exact .inr ⟨k, by rw [hnames]; exact hk', by rw [FD.find_get (by rw [hnow]; exact hn)]⟩
  obtain ⟨f', h1, h2⟩ := stay_all hB fd fd.names (List.replicate m 60000, d.fs, []) m rfl (by rw [hnames]; exact hm) hok.fine n f hf
  have h3 : FS.get s.2.1 n = some f' := by rw [← hs]; exact h1
  have t1 : (⟨fd, thereF s.2.1 s.2.2, d.quota, d.steps, 0, false⟩ : DS).text k = f'.now := by
    unfold DS.text DS.file
    dsimp only
    rw [hnow, hn]
    dsimp only
    rw [get_there _ _ _ hmem, h3]
    rfl
  have t2 : (⟨d.fd, d.fs, d.quota, d.steps, d.armed, false⟩ : DS).text k = f.now := by
    unfold DS.text DS.file
    dsimp only
    rw [hn]
    dsimp only
    rw [hf]
  rw [t1, t2, h2]

end Go.Proofs.Ytjolihoakdifoaa
