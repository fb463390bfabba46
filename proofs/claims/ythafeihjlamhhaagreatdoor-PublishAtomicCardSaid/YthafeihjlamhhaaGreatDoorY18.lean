/- Parts of the proof of PublishAtomic: lemmas, each with its own conditions. -/
import Derived.Test.YthafeihjlamhhaaGreatDoorY17
set_option maxHeartbeats 64000000
open List renaming getElem?_eq_some_iff → q1Z, getElem?_eq_getElem → q3Z, getElem?_append_left → q4Z, take_of_length_le → q6Z, length_cons → q7Z, length_nil → q8Z, cons_append → q9Z, nil_append → qaZ, replicate → qbZ, mem_cons → qwZ, mem_append → qxZ, mem_singleton → r1Z, nodup_cons → rdZ, map_append → roZ, map_cons → s1Z
open Bool renaming false_eq_true → qsZ
namespace Go.Proofs.YthafeihjlamhhaaGreatDoor
open _root_.Go.Proofs.Tryz renaming prog → Pz
set_option maxRecDepth 100000
section
open Go Go.Lib
attribute [-simp] drawOk_eq adraw qrun acode aops
structure DA where
 w : Nat
 a : Nat
 b : Nat
 s : List UInt8
 n : Int
 l : List Int
def szInl : List FuncId := [81, 105, 82]
theorem szΓ_ok : GOk Pz (runG Pz (gams []) 0 szInl 3) := gok_run hmix goks_nil 0 szInl 3
theorem size_down_ct (d : DS) (hd : d.down = true) (k : List UInt8) : Ct Pz 37 [.ptr 0 0, .str k] (d.heap []) (.tuple [.int .i64 0, .int .i64 13]) (d.heap []) := by
 have hΓ := szΓ_ok; refine ct_of_simE Tryz.func37 rfl ?_; simp only [Tryz.ntmps37, q7Z, q8Z, Nat.reduceAdd, Nat.reduceSub, qbZ, q9Z, qaZ]; unfold DS.heap DS.cell0; rw [hd]
 refine Sim.step hmix hΓ (n := 0) (by simp; exact ⟨rfl, rfl⟩) (by simp) ?_
 refine Sim.step hmix hΓ (n := 0) (by simp +decide [szInl, Tryz.f81]; exact ⟨rfl, rfl⟩) (by simp) ?_
 refine Sim.exec hmix hΓ (n := 0) (by simp +decide [szInl, Tryz.f105, Tryz.f82]; exact ⟨rfl, rfl, rfl⟩) (by simp) ?_
 exact ⟨.inr rfl, by simp [Tryz.f37], by simp⟩
structure Ar (a : Int) (d f : DS) : Prop where
 fd : d.fd = f.fd
 fs : d.fs = f.fs
 q1 : d.quota = 200
 q2 : f.quota = 200
 fa : f.armed = 0
 fw : f.down = false
 da : d.armed = a
 dw : d.down = decide (a = 0)
structure StepG (g : DS → DS × Int) : Prop where
 same : ∀ d f, d.fd = f.fd → d.fs = f.fs → d.quota = f.quota → d.down = f.down → (g d).2 = (g f).2 ∧ (g d).1.fd = (g f).1.fd ∧ (g d).1.fs = (g f).1.fs
 rest : ∀ d, (g d).1.quota = d.quota ∧ (g d).1.armed = d.armed ∧ (g d).1.down = d.down
theorem list_eq {d f : DS} (h1 : d.fd = f.fd) (h4 : d.down = f.down) : d.list = f.list := by unfold DS.list; rw [h1, h4]
theorem text_eq {d f : DS} (h1 : d.fd = f.fd) (h2 : d.fs = f.fs) (k : List UInt8) : d.text k = f.text k := by unfold DS.text DS.file; rw [h1, h2]
theorem files_eq {d f : DS} (h1 : d.fd = f.fd) (h2 : d.fs = f.fs) (h4 : d.down = f.down) : d.files = f.files := by
 unfold DS.files; rw [list_eq h1 h4]
 exact List.map_congr_left fun k _ => by rw [text_eq h1 h2]
theorem used_eq {d f : DS} (h1 : d.fd = f.fd) (h2 : d.fs = f.fs) (h4 : d.down = f.down) : d.used = f.used := by rw [DS.used_sum, DS.used_sum, files_eq h1 h2 h4]
abbrev KM := List (List UInt8 × List UInt8 × Bool)
def KM.get : KM → List UInt8 → Option (List UInt8 × Bool)
 | [], _ => none
 | e :: l, k => if e.1 = k then some e.2 else KM.get l k
def KM.keys (l : KM) : List (List UInt8) := l.map (·.1)
def keepsF (s : List UInt8) (f : PF) : Prop := ∀ i, s <+: (runs f.d (f.acts.take i)).take 10000
def Kept (fd : FD) (fs : FS) (k s : List UInt8) : Prop := ∃ n f, fd.each (fun l _ => NM.get l k = some n) ∧ FS.get fs n = some f ∧ keepsF s f
structure KInv (q A B : Nat) (d : DS) (m : KM) : Prop where
 ok : d.ok A B
 up : d.down = false
 arm : d.armed = 0
 quota : d.quota = q
 nd : (KM.keys m).Nodup
 kept : ∀ k s, KM.get m k = some (s, false) → Kept d.fd d.fs k s
theorem DS.count_up {d : DS} (h : d.armed = 0) : d.count = ⟨d.fd, d.fs, d.quota, d.steps + 1, d.armed, d.down⟩ := by unfold DS.count; rw [if_neg (by rw [h]; simp)]
theorem DS.step_up {d : DS} (h : d.armed = 0) (hd : d.down = false) (g : DS → DS × Int) : d.step g = g ⟨d.fd, d.fs, d.quota, d.steps + 1, d.armed, d.down⟩ := by
 unfold DS.step
 rw [DS.count_up h, if_neg (by dsimp only; rw [hd]; decide)]
theorem PF.now_add (f : PF) (m : List UInt8) : (f.add m).now = f.now ++ m := by
 unfold PF.add; split
 · rename_i h; simp [h]
 · simp [PF.now, runs_append, runs, FAct.run]
end
section
open Go Go.Lib
def cont (fs : FS) (l : NM) (k : List UInt8) : Option PF := (NM.get l k).bind (FS.get fs)
def always (fd : FD) (fs : FS) (k : List UInt8) (p : Option PF → Prop) : Prop := fd.each fun l _ => p (cont fs l k)
theorem always_now {fd : FD} {fs : FS} {k : List UInt8} {p : Option PF → Prop} (h : always fd fs k p) : p (cont fs fd.now k) := FD.each_now h
theorem always_imp {fd : FD} {fs : FS} {k : List UInt8} {p q : Option PF → Prop} (h : always fd fs k p) (hpq : ∀ x, p x → q x) : always fd fs k q := each_imp h fun _ _ hp => hpq _ hp
theorem always_more {fd : FD} {fs : FS} {k : List UInt8} {p : Option PF → Prop} (h : always fd fs k p) (x : DAct) (n : Int) (hn : fd.last ≤ n) (hx : p (cont fs (x.run fd.now) k)) : always ⟨fd.d, fd.acts ++ [x], n⟩ fs k p :=
 FD.each_one h (fun _ _ _ _ h => h) x rfl rfl hn hx
theorem always_app {fd : FD} {fs : FS} {k : List UInt8} {p : Option PF → Prop} (h : always fd fs k p) (has : fd.each (hasP fs)) (m : Int) (g : PF) : always fd (fs ++ [(m, g)]) k p := fun i hi => by
 have h1 := h i hi; have h2 := has i hi k; dsimp only at h1 ⊢; unfold cont at h1 ⊢
 cases hg : NM.get (druns fd.d (fd.acts.take i)) k with
 | none => rw [hg] at h1; exact h1
 | some n =>
   rw [hg] at h1; obtain ⟨f, hf⟩ := FS.get_some.2 (h2 n hg); simp only [Option.bind_some] at h1 ⊢; rw [FS.get_app, hf]; rw [hf] at h1; exact h1
theorem cont_get {fs : FS} {l : NM} {k : List UInt8} {f : PF} (h : cont fs l k = some f) : ∃ n, NM.get l k = some n ∧ FS.get fs n = some f := by
 unfold cont at h
 cases hg : NM.get l k with
 | none => rw [hg] at h; cases h
 | some n => rw [hg] at h; exact ⟨n, rfl, h⟩
theorem cont_of {fs : FS} {l : NM} {k : List UInt8} {n : Int} (h : NM.get l k = some n) : cont fs l k = FS.get fs n := by unfold cont; rw [h]; rfl
theorem cont_none {fs : FS} {l : NM} {k : List UInt8} (h : NM.get l k = none) : cont fs l k = none := by unfold cont; rw [h]; rfl
theorem DS.step_cases {d : DS} (_hd : d.down = false) (g : DS → DS × Int) :
   (∃ d0 : DS, d.step g = (d0, 13) ∧ d0.fd = d.fd ∧ d0.fs = d.fs ∧ d0.quota = d.quota ∧ d0.down = true) ∨ (∃ d0 : DS, d.step g = g d0 ∧ d0.fd = d.fd ∧ d0.fs = d.fs ∧ d0.quota = d.quota ∧ d0.down = false) := by
 unfold DS.step
 cases h : d.count.down with
 | true => exact .inl ⟨d.count, by simp, by simp, by simp, by simp, h⟩
 | false => exact .inr ⟨d.count, by simp, by simp, by simp, by simp, h⟩
def Stage (r : DS × Int) (q : Int) (P B : FD → FS → Prop) : Prop := r.1.quota = q ∧ ((r.2 = 0 ∧ r.1.down = false ∧ P r.1.fd r.1.fs) ∨ (r.2 = 13 ∧ r.1.down = true ∧ B r.1.fd r.1.fs))
def seqE (r : DS × Int) (k : DS → DS × Int) : DS × Int := if r.2 = 0 then k r.1 else r
theorem Stage.seq {r : DS × Int} {q : Int} {P Q B : FD → FS → Prop} {k : DS → DS × Int} (h : Stage r q P B) (hk : ∀ d : DS, d.quota = q → d.down = false → P d.fd d.fs → Stage (k d) q Q B) : Stage (seqE r k) q Q B := by
 unfold seqE; obtain ⟨h0, ⟨h1, h2, h3⟩ | ⟨h1, h2, h3⟩⟩ := h
 · rw [if_pos h1]; exact hk _ h0 h2 h3
 · rw [if_neg (by omega)]; exact ⟨h0, .inr ⟨h1, h2, h3⟩⟩
theorem stage_step {d : DS} (hd : d.down = false) {P B : FD → FS → Prop} {g : DS → DS × Int} (hB : B d.fd d.fs)
   (hg : ∀ d0 : DS, d0.fd = d.fd → d0.fs = d.fs → d0.quota = d.quota → d0.down = false → ∃ fd fs, g d0 = (⟨fd, fs, d0.quota, d0.steps, d0.armed, d0.down⟩, 0) ∧ P fd fs) : Stage (d.step g) d.quota P B := by
 rcases DS.step_cases hd g with ⟨d0, h1, h2, h3, h4, h5⟩ | ⟨d0, h1, h2, h3, h4, h5⟩
 · rw [h1]
   exact ⟨h4, .inr ⟨rfl, h5, by dsimp only; rw [h2, h3]; exact hB⟩⟩
 · rw [h1]
   obtain ⟨fd, fs, h6, h7⟩ := hg d0 h2 h3 h4 h5; rw [h6]; exact ⟨h4, .inl ⟨rfl, h5, h7⟩⟩
theorem stage_create {d : DS} (hd : d.down = false) {P B : FD → FS → Prop} {x : List UInt8} (hm : mayF x) (hx : d.fd.now.get x = none) (hB : B d.fd d.fs)
   (hP : P ⟨d.fd.d, d.fd.acts ++ [.cre x (d.fd.last + 1)], d.fd.last + 1⟩ (d.fs ++ [(d.fd.last + 1, ⟨[], []⟩)])) : Stage (d.create x) d.quota P B := by
 refine stage_step hd hB fun d0 h1 h2 h3 h4 => ⟨_, _, ?_, hP⟩
 rw [h1, h2]; unfold FD.create; rw [if_pos hm, hx]; rfl
theorem stage_of {d : DS} (hd : d.down = false) {P B : FD → FS → Prop} {x : List UInt8} {n : Int} {f f' : PF} (hx : d.fd.now.get x = some n) (hf : FS.get d.fs n = some f) {g : DS → PF → PF × Int} (hB : B d.fd d.fs)
   (hg : ∀ d0 : DS, d0.fd = d.fd → d0.fs = d.fs → d0.quota = d.quota → d0.down = false → g d0 f = (f', 0)) (hP : P d.fd (FS.upd d.fs n fun _ => f')) : Stage (d.of x g) d.quota P B := by
 refine stage_step hd hB fun d0 h1 h2 h3 h4 => ⟨_, _, ?_, hP⟩
 rw [h1, hx, h2]; dsimp only; rw [hf]; dsimp only; rw [hg d0 h1 h2 h3 h4]
theorem room_same {d d0 : DS} (h1 : d0.fd = d.fd) (h2 : d0.fs = d.fs) (h3 : d0.quota = d.quota) (h4 : d0.down = d.down) : d0.room = d.room := by
 unfold DS.room; rw [h3, used_eq h1 h2 h4]
theorem stage_append {d : DS} (hd : d.down = false) {P B : FD → FS → Prop} {x : List UInt8} {n : Int} {f : PF} (hx : d.fd.now.get x = some n) (hf : FS.get d.fs n = some f) {s : List UInt8} (hs : s.length ≤ d.room) (hB : B d.fd d.fs)
   (hP : P d.fd (FS.upd d.fs n fun _ => f.add s)) : Stage (d.append x s) d.quota P B := by
 refine stage_of hd hx hf hB (fun d0 h1 h2 h3 h4 => ?_) hP
 rw [if_neg]; rw [room_same h1 h2 h3 (h4.trans hd.symm)]; omega
theorem stage_sync {d : DS} (hd : d.down = false) {P B : FD → FS → Prop} {x : List UInt8} {n : Int} {f : PF} (hx : d.fd.now.get x = some n) (hf : FS.get d.fs n = some f) (hB : B d.fd d.fs)
   (hP : P d.fd (FS.upd d.fs n fun _ => ⟨f.now, []⟩)) : Stage (d.sync x) d.quota P B := stage_of hd hx hf hB (fun _ _ _ _ _ => rfl) hP
theorem stage_syncDir {d : DS} (hd : d.down = false) {P B : FD → FS → Prop} (hB : B d.fd d.fs) (hP : P ⟨d.fd.now, [], d.fd.last⟩ d.fs) : Stage d.syncDir d.quota P B := by
 refine stage_step hd hB fun d0 h1 h2 h3 h4 => ⟨_, _, rfl, ?_⟩
 rw [h1, h2]
 have : d.fd.survive d.fd.acts.length = ⟨d.fd.now, [], d.fd.last⟩ := by
   unfold FD.survive FD.now
   have : d.fd.clamp d.fd.acts.length = d.fd.acts.length := by unfold FD.clamp; omega
   rw [this, List.take_length]
 rw [this]; exact hP
theorem stage_rename {d : DS} (hd : d.down = false) {P B : FD → FS → Prop} {x y : List UInt8} {n : Int} (hm : mayF y) (hx : d.fd.now.get x = some n) (hB : B d.fd d.fs)
   (hP : P ⟨d.fd.d, d.fd.acts ++ [.ren x y n], d.fd.last⟩ d.fs) : Stage (d.rename x y) d.quota P B := by
 refine stage_step hd hB fun d0 h1 h2 h3 h4 => ⟨_, _, ?_, hP⟩
 rw [h1, h2]; unfold FD.rename; rw [if_pos hm, hx]
theorem stage_remove {d : DS} (hd : d.down = false) {P B : FD → FS → Prop} {x : List UInt8} {n : Int} (hx : d.fd.now.get x = some n) (hB : B d.fd d.fs)
   (hP : P ⟨d.fd.d, d.fd.acts ++ [.rem x], d.fd.last⟩ d.fs) : Stage (d.remove x) d.quota P B := by
 refine stage_step hd hB fun d0 h1 h2 h3 h4 => ⟨_, _, ?_, hP⟩
 rw [h1, h2]; unfold FD.remove; rw [hx]
theorem stay_each (fd : FD) : ∀ (ks : List (List UInt8)) (st : List Int × FS × List Int) (n : Int) (f : PF), FS.get st.2.1 n = some f → ∃ f', FS.get (ks.foldl (stay1 fd) st).2.1 n = some f' ∧ ∀ p : PF → Prop, p f → (∀ g a b, p g → p ⟨g.stays a b, []⟩) → p f'
 | [], st, n, f, h => ⟨f, h, fun p hp _ => hp⟩
 | k :: ks, st, n, f, h => by
   rw [List.foldl_cons]
   have h4 : ∃ f', FS.get (stay1 fd st k).2.1 n = some f' ∧ ∀ p : PF → Prop, p f → (∀ g a b, p g → p ⟨g.stays a b, []⟩) → p f' := by
     simp only [stay1]; rw [FS.get_upd]; split
     · rename_i e
       rw [← e, h]
       exact ⟨_, rfl, fun p hp hq => hq _ _ _ hp⟩
     · exact ⟨f, h, fun p hp _ => hp⟩
   obtain ⟨f1, g1, g2⟩ := h4; obtain ⟨f2, g3, g4⟩ := stay_each fd ks _ n f1 g1
   exact ⟨f2, g3, fun p hp hq => g4 p (g2 p hp hq) hq⟩
theorem restart_cont {d : DS} {A B : Nat} (hok : d.ok A B) (l : List Int) : ∃ i, i ≤ d.fd.acts.length ∧ (d.restart l).fd = ⟨druns d.fd.d (d.fd.acts.take i), [], d.fd.last⟩ ∧ (d.restart l).down = false ∧ (d.restart l).quota = d.quota ∧ (d.restart l).armed = 0 ∧
   ∀ k, (cont d.fs (druns d.fd.d (d.fd.acts.take i)) k = none ∧ cont (d.restart l).fs (d.restart l).fd.now k = none) ∨
     ∃ f f', cont d.fs (druns d.fd.d (d.fd.acts.take i)) k = some f ∧ cont (d.restart l).fs (d.restart l).fd.now k = some f' ∧ ∀ p : PF → Prop, p f → (∀ g a b, p g → p ⟨g.stays a b, []⟩) → p f' := by
 have hc : d.fd.clamp (l.headD 0) ≤ d.fd.acts.length := by unfold FD.clamp; omega
 refine ⟨d.fd.clamp (l.headD 0), hc, rfl, rfl, rfl, rfl, fun k => ?_⟩
 obtain ⟨fd, hfd⟩ : ∃ fd, d.fd.survive (l.headD 0) = fd := ⟨_, rfl⟩
 have hnow : druns d.fd.d (d.fd.acts.take (d.fd.clamp (l.headD 0))) = fd.now := by rw [← hfd]; rfl
 obtain ⟨r, hr⟩ : ∃ r, stayAll fd l.tail d.fs fd.names = r := ⟨_, rfl⟩
 have hd : d.restart l = ⟨fd, thereF r.2.1 r.2.2, d.quota, d.steps, 0, false⟩ := by
   unfold DS.restart; rw [hfd, hr]
 rw [hnow, hd]; have hhas := hok.has _ hc; rw [hnow] at hhas
 cases hg : NM.get fd.now k with
 | none => exact .inl ⟨cont_none hg, cont_none hg⟩
 | some n =>
   obtain ⟨f, hf⟩ := FS.get_some.2 (hhas k n hg); obtain ⟨f', g1, g2⟩ := stay_each fd fd.names (l.tail, d.fs, []) n f hf
   have g1' : FS.get r.2.1 n = some f' := by rw [← hr]; exact g1
   have hmem : n ∈ r.2.2 := by
     rw [← hr]; unfold stayAll; rw [stayAll_mem]
     exact .inr ⟨k, FD.names_of hg, by rw [FD.find_get hg]⟩
   exact .inr ⟨f, f', by rw [cont_of hg, hf], by rw [cont_of hg, get_there _ _ _ hmem, g1']; rfl, g2⟩
theorem always_restart {d : DS} {A B : Nat} (hok : d.ok A B) (l : List Int) {k : List UInt8} {p : Option PF → Prop} (h : always d.fd d.fs k p) (hp : ∀ g a b, p (some g) → p (some ⟨g.stays a b, []⟩)) : always (d.restart l).fd (d.restart l).fs k p := by
 obtain ⟨i, hi, h1, _, _, _, h5⟩ := restart_cont hok l; intro j hj; rw [h1] at hj
 have : druns (d.restart l).fd.d ((d.restart l).fd.acts.take j) = (d.restart l).fd.now := by rw [h1]; simp [FD.now, druns]
 show p (cont (d.restart l).fs (druns (d.restart l).fd.d ((d.restart l).fd.acts.take j)) k); rw [this]; have h0 := h i hi; dsimp only at h0; rcases h5 k with ⟨e1, e2⟩ | ⟨f, f', e1, e2, e3⟩
 · rw [e2, ← e1]; exact h0
 · rw [e2]
   rw [e1] at h0
   exact e3 (fun g => p (some g)) h0 hp
theorem PF.stays_settled (s : List UInt8) (a b : Int) : (⟨s, []⟩ : PF).stays a b = s := by
 simp [PF.stays, runs]
theorem readAt_cont {d : DS} (hd : d.down = false) {k : List UInt8} {f : PF} {m : Nat} (h : cont d.fs d.fd.now k = some f) (hm : f.now.length ≤ m) : d.readAt k 0 m = (f.now, 0) := by
 obtain ⟨n, h1, h2⟩ := cont_get h; unfold DS.readAt; rw [hd, h1]; simp only [qsZ, if_false]; rw [h2]; unfold PF.readAt; dsimp only
 rw [if_neg (by omega)]
 simp only [Int.toNat_zero, List.drop_zero, Int.toNat_natCast]; rw [q6Z hm]
theorem FS.upd_app {l : FS} {m : Int} {f : PF} (h : m ∉ FS.keys l) (g : PF → PF) : FS.upd (l ++ [(m, f)]) m g = l ++ [(m, g f)] := by
 induction l with
 | nil => simp [FS.upd]
 | cons e l ih =>
   simp only [FS.keys, s1Z, qwZ, not_or] at h; rw [q9Z]; unfold FS.upd
   rw [if_neg (fun e => h.1 e.symm), ih h.2]
   rfl
theorem FS.get_new {l : FS} {m : Int} {f : PF} (h : m ∉ FS.keys l) : FS.get (l ++ [(m, f)]) m = some f := by
 rw [FS.get_app, FS.get_none.2 h]; exact if_pos rfl
structure Core (fd : FD) (fs : FS) : Prop where
 num : fd.numOk
 has : fd.each (hasP fs)
 rng : ∀ n ∈ FS.keys fs, n ≤ fd.last
theorem DS.ok.core {d : DS} {A B : Nat} (h : d.ok A B) : Core d.fd d.fs := ⟨h.num, h.has, fun n hn => (h.rng n hn).2⟩
theorem Core.fresh {fd : FD} {fs : FS} (h : Core fd fs) : fd.last + 1 ∉ FS.keys fs := fun hn => by have := h.rng _ hn; omega
abbrev fdN (fd : FD) (x : List UInt8) : FD := ⟨fd.d, fd.acts ++ [.cre x (fd.last + 1)], fd.last + 1⟩
abbrev fsN (fd : FD) (fs : FS) (f : PF) : FS := fs ++ [(fd.last + 1, f)]
theorem now_more (fd : FD) (x : DAct) (n : Int) : (⟨fd.d, fd.acts ++ [x], n⟩ : FD).now = x.run fd.now := by
 unfold FD.now; rw [druns_append]; rfl
theorem always_new {fd : FD} {fs : FS} {k x : List UInt8} {p : Option PF → Prop} (h : always fd fs k p) (hc : Core fd fs) (f : PF) (hk : k = x → p (some f)) : always (fdN fd x) (fsN fd fs f) k p := by
 refine always_more (always_app h hc.has _ _) _ _ (by omega) ?_
 by_cases e : k = x
 · rw [cont_of (n := fd.last + 1) (by simp only [DAct.run]; rw [NM.get_put, if_pos e]), FS.get_new hc.fresh]
   exact hk e
 · have h1 := always_now (always_app h hc.has (fd.last + 1) f)
   have : cont (fsN fd fs f) (DAct.run (.cre x (fd.last + 1)) fd.now) k = cont (fsN fd fs f) fd.now k := by
     unfold cont; simp only [DAct.run]; rw [NM.get_put, if_neg e]
   rw [this]; exact h1
theorem always_ren {fd : FD} {fs : FS} {k x y : List UInt8} {n : Int} {p : Option PF → Prop} (h : always fd fs k p) (hnum : fd.numOk) (hx : fd.now.get x = some n) (hy : k = y → p (cont fs fd.now x)) (hk : k ≠ y → k = x → p none) :
   always ⟨fd.d, fd.acts ++ [.ren x y n], fd.last⟩ fs k p := by
 refine always_more h _ _ (Int.le_refl _) ?_; have hnd := (FD.each_now hnum.2).nd; by_cases e : k = y
 · rw [cont_of (n := n) (by simp only [DAct.run]; rw [NM.get_put, if_pos e]), ← cont_of hx]
   exact hy e
 · by_cases e2 : k = x
   · rw [cont_none (by simp only [DAct.run]; rw [NM.get_put, if_neg e, NM.get_del hnd, if_pos e2])]
     exact hk e e2
   · have : cont fs (DAct.run (.ren x y n) fd.now) k = cont fs fd.now k := by
       unfold cont; simp only [DAct.run]; rw [NM.get_put, if_neg e, NM.get_del hnd, if_neg e2]
     rw [this]; exact always_now h
theorem always_rem {fd : FD} {fs : FS} {k x : List UInt8} {p : Option PF → Prop} (h : always fd fs k p) (hnum : fd.numOk) (hk : k = x → p none) : always ⟨fd.d, fd.acts ++ [.rem x], fd.last⟩ fs k p := by
 refine always_more h _ _ (Int.le_refl _) ?_; have hnd := (FD.each_now hnum.2).nd; by_cases e : k = x
 · rw [cont_none (by simp only [DAct.run]; rw [NM.get_del hnd, if_pos e])]
   exact hk e
 · have : cont fs (DAct.run (.rem x) fd.now) k = cont fs fd.now k := by
     unfold cont; simp only [DAct.run]; rw [NM.get_del hnd, if_neg e]
   rw [this]; exact always_now h
theorem always_one {l : NM} {fs : FS} {k : List UInt8} {n : Int} {p : Option PF → Prop} : always ⟨l, [], n⟩ fs k p ↔ p (cont fs l k) := by
 constructor
 · intro h; exact h 0 (by simp)
 · intro h i hi
   simp only [q8Z, Nat.le_zero_eq] at hi; subst hi; exact h
theorem Core.new {fd : FD} {fs : FS} (h : Core fd fs) {x : List UInt8} (hx : fd.now.get x = none) (hm : mayF x) (f : PF) : Core (fdN fd x) (fsN fd fs f) := by
 refine ⟨?_, ?_, ?_⟩
 · have := FD.numOk_create h.num x
   unfold FD.create at this; rw [if_pos hm, hx] at this; exact this
 · have hk : ∀ n ∈ FS.keys fs, n ∈ FS.keys (fsN fd fs f) := fun n hn => by simp only [FS.keys, roZ, qxZ] at hn ⊢; exact .inl hn
   refine FD.each_one (each_imp h.has (hasP_mono hk)) (fun _ _ _ _ h => h) _ rfl rfl (by dsimp only; omega) ?_
   intro k n hn; simp only [DAct.run] at hn; rw [NM.get_put] at hn; split at hn
   · cases hn; simp [FS.keys]
   · exact hk n (FD.each_now h.has k n hn)
 · intro n hn
   simp only [FS.keys, roZ, qxZ, s1Z, List.map_nil, r1Z] at hn; rcases hn with hn | hn
   · have := h.rng n hn; dsimp only; omega
   · dsimp only; omega
def txt (fs : FS) (l : NM) (k : List UInt8) : List UInt8 := ((cont fs l k).map PF.now).getD []
def usedF (fs : FS) (l : NM) : Nat := (l.keys.map fun k => (txt fs l k).length).sum
theorem used_F {d : DS} (hd : d.down = false) : d.used = usedF d.fs d.fd.now := by
 have ht : ∀ k, d.text k = txt d.fs d.fd.now k := fun k => by
   unfold DS.text DS.file txt cont
   cases d.fd.now.get k with
   | none => rfl
   | some n =>
     dsimp only [Option.bind_some]
     cases FS.get d.fs n <;> rfl
 unfold DS.used usedF DS.list; rw [hd]; simp only [qsZ, if_false]
 rw [List.map_congr_left (fun k _ => by rw [ht k])]
 unfold FD.names; exact ((sortU_perm _).map _).sum_nat
theorem used_new {fd : FD} {fs : FS} (h : Core fd fs) {x : List UInt8} (hx : fd.now.get x = none) (f : PF) : usedF (fsN fd fs f) (fdN fd x).now = usedF fs fd.now + f.now.length := by
 unfold usedF; rw [now_more]; simp only [DAct.run]; have hxk : x ∉ NM.keys fd.now := NM.get_none.1 hx; rw [NM.keys_put, if_neg hxk, roZ, List.sum_append]
 congr 1
 · congr 1
   refine List.map_congr_left fun k hk => ?_
   have e : k ≠ x := by rintro rfl; exact hxk hk
   obtain ⟨n, hn⟩ := NM.get_some.2 hk; obtain ⟨g, hg⟩ := FS.get_some.2 (FD.each_now h.has k n hn)
   have e1 : cont (fsN fd fs f) (NM.put fd.now x (fd.last + 1)) k = some g := by
     rw [cont_of (n := n) (by rw [NM.get_put, if_neg e]; exact hn), FS.get_app, hg]
   have e2 : cont fs fd.now k = some g := by rw [cont_of hn, hg]
   unfold txt; rw [e1, e2]
 · have e1 : cont (fsN fd fs f) (NM.put fd.now x (fd.last + 1)) x = some f := by
     rw [cont_of (n := fd.last + 1) (by rw [NM.get_put, if_pos rfl]), FS.get_new h.fresh]
   simp [txt, e1]
def DS.write (d : DS) (x s : List UInt8) (k : DS → DS × Int) : DS × Int := seqE (d.create x) fun d => seqE (d.append x s) fun d => seqE (d.sync x) k
theorem write_stage {d : DS} (hd : d.down = false) (hc : Core d.fd d.fs) {x s : List UInt8} (hm : mayF x) (hx : d.fd.now.get x = none) (hroom : s.length ≤ d.room) {P B : FD → FS → Prop} {k : DS → DS × Int}
   (b0 : B d.fd d.fs) (b1 : ∀ f : PF, f = ⟨[], []⟩ ∨ f = (⟨[], []⟩ : PF).add s ∨ f = ⟨s, []⟩ → B (fdN d.fd x) (fsN d.fd d.fs f))
   (hk : ∀ d' : DS, d'.quota = d.quota → d'.down = false → d'.fd = fdN d.fd x → d'.fs = fsN d.fd d.fs ⟨s, []⟩ → Stage (k d') d.quota P B) : Stage (d.write x s k) d.quota P B := by
 have hnow : (fdN d.fd x).now.get x = some (d.fd.last + 1) := by rw [now_more]; simp only [DAct.run]; rw [NM.get_put, if_pos rfl]
 refine (stage_create hd (P := fun fd fs => fd = fdN d.fd x ∧ fs = fsN d.fd d.fs ⟨[], []⟩) hm hx b0 ⟨rfl, rfl⟩).seq fun d1 q1 u1 ⟨e1, e2⟩ => ?_
 have hr1 : s.length ≤ d1.room := by
   unfold DS.room at hroom ⊢; rw [used_F u1, e1, e2, used_new hc hx, q1]; rw [used_F hd] at hroom; simpa [PF.now, runs] using hroom
 rw [← q1]
 refine (stage_append u1 (P := fun fd fs => fd = fdN d.fd x ∧ fs = fsN d.fd d.fs ((⟨[], []⟩ : PF).add s)) (n := d.fd.last + 1) (f := ⟨[], []⟩) (by rw [e1]; exact hnow) (by rw [e2]; exact FS.get_new hc.fresh) hr1 (by rw [e1, e2]; exact b1 _ (.inl rfl)) ⟨e1, by rw [e2]; exact FS.upd_app hc.fresh _⟩).seq fun d2 q2 u2 ⟨e3, e4⟩ => ?_
 have hn2 : ((⟨[], []⟩ : PF).add s).now = s := by rw [PF.now_add]; rfl
 rw [← q2]
 refine (stage_sync u2 (P := fun fd fs => fd = fdN d.fd x ∧ fs = fsN d.fd d.fs ⟨s, []⟩) (n := d.fd.last + 1) (f := (⟨[], []⟩ : PF).add s) (by rw [e3]; exact hnow) (by rw [e4]; exact FS.get_new hc.fresh) (by rw [e3, e4]; exact b1 _ (.inr (.inl rfl))) ⟨e3, by rw [e4, hn2]; exact FS.upd_app hc.fresh _⟩).seq fun d3 q3 u3 ⟨e5, e6⟩ => ?_
 rw [q2, q1]; exact hk d3 (q3.trans (q2.trans q1)) u3 e5 e6
def calm (g : DS → DS × Int) : Prop := ∀ d : DS, d.armed = 0 → d.down = false → (g d).1.armed = 0 ∧ (g d).1.down = false
theorem calm_step {g : DS → DS × Int} (hg : ∀ d, (g d).1.armed = d.armed ∧ (g d).1.down = d.down) : calm fun d => d.step g := fun d h1 h2 => by
 dsimp only; rw [DS.step_up h1 h2]; have := hg ⟨d.fd, d.fs, d.quota, d.steps + 1, d.armed, d.down⟩; exact ⟨this.1.trans h1, this.2.trans h2⟩
theorem calm_create (x : List UInt8) : calm fun d => d.create x := calm_step fun d => by split <;> exact ⟨rfl, rfl⟩
theorem calm_of (x : List UInt8) (g : DS → PF → PF × Int) : calm fun d => d.of x g := calm_step fun d => by
 split
 · exact ⟨rfl, rfl⟩
 · split <;> exact ⟨rfl, rfl⟩
theorem calm_append (x s : List UInt8) : calm fun d => d.append x s := calm_of x _
theorem calm_sync (x : List UInt8) : calm fun d => d.sync x := calm_of x _
theorem calm_syncDir : calm DS.syncDir := calm_step fun _ => ⟨rfl, rfl⟩
theorem calm_rename (x y : List UInt8) : calm fun d => d.rename x y := calm_step fun _ => ⟨rfl, rfl⟩
theorem calm_remove (x : List UInt8) : calm fun d => d.remove x := calm_step fun _ => ⟨rfl, rfl⟩
theorem calm_seqE {g k : DS → DS × Int} (hg : calm g) (hk : calm k) : calm fun d => seqE (g d) k := fun d h1 h2 => by
 obtain ⟨h3, h4⟩ := hg d h1 h2; dsimp only; unfold seqE; split
 · exact hk _ h3 h4
 · exact ⟨h3, h4⟩
theorem calm_write (x s : List UInt8) {k : DS → DS × Int} (hk : calm k) : calm fun d => d.write x s k :=
 calm_seqE (calm_create x) (calm_seqE (calm_append x s) (calm_seqE (calm_sync x) hk))
theorem Stage.calm {r : DS × Int} {q : Int} {P B : FD → FS → Prop} (h : Stage r q P B) (hu : r.1.down = false) : r.2 = 0 ∧ P r.1.fd r.1.fs := by
 rcases h.2 with h | h
 · exact ⟨h.1, h.2.2⟩
 · rw [hu] at h; exact absurd h.2.1 (by decide)
theorem of_quota (d : DS) (x : List UInt8) (g : DS → PF → PF × Int) : (d.of x g).1.quota = d.quota := by
 unfold DS.of DS.step; split
 · simp
 · dsimp only
   split
   · simp
   · split <;> simp
theorem create_quota (d : DS) (x : List UInt8) : (d.create x).1.quota = d.quota := by
 unfold DS.create DS.step; split
 · simp
 · dsimp only
   split <;> simp
theorem ok_write {d : DS} {A B : Nat} (h : d.ok A B) (K : Nat) (hK : 1 ≤ K) (hq : d.quota ≤ K) (x s : List UInt8) (k : DS → DS × Int) (hk : ∀ d' : DS, d'.quota = d.quota → d'.ok (A + 4) (B + K) → (k d').1.ok (A + 8) (B + K)) : (d.write x s k).1.ok (A + 8) (B + K) := by
 unfold DS.write seqE; have h1 := DS.ok_create h x; have q1 := create_quota d x; split; rotate_left
 · exact DS.ok_mono h1 (by omega) (by omega)
 have h2 := DS.ok_append h1 x s K hK (by omega)
 have q2 : ((d.create x).1.append x s).1.quota = (d.create x).1.quota := of_quota _ _ _; dsimp only; split; rotate_left
 · exact DS.ok_mono h2 (by omega) (by omega)
 have h3 := DS.ok_sync h2 x; have q3 : (((d.create x).1.append x s).1.sync x).1.quota = ((d.create x).1.append x s).1.quota := of_quota _ _ _; split; rotate_left
 · exact DS.ok_mono h3 (by omega) (by omega)
 exact hk _ (by rw [q3, q2, q1]) (DS.ok_mono h3 (by omega) (by omega))
def partO (s : List UInt8) (o : Option PF) : Prop := o = none ∨ ∃ f, o = some f ∧ ∀ i, runs f.d (f.acts.take i) <+: s
theorem partO_none (s : List UInt8) : partO s none := .inl rfl
theorem partO_new {s : List UInt8} {f : PF} (h : f = ⟨[], []⟩ ∨ f = (⟨[], []⟩ : PF).add s ∨ f = ⟨s, []⟩) : partO s (some f) := by
 refine .inr ⟨f, rfl, fun i => ?_⟩
 rcases h with rfl | rfl | rfl
 · simp [runs]
 · unfold PF.add
   split
   · simp [runs]
   · match i with
     | 0 => simp [runs]
     | i + 1 => simp [runs, FAct.run]
 · simp [runs]
theorem partO_stays {s : List UInt8} (g : PF) (a b : Int) (h : partO s (some g)) : partO s (some ⟨g.stays a b, []⟩) := by
 rcases h with h | ⟨f, e, h⟩
 · cases h
 cases e
 refine .inr ⟨_, rfl, fun i => ?_⟩
 have key : g.stays a b <+: s := by
   unfold PF.stays; dsimp only; obtain ⟨n, hn⟩ : ∃ n, (inI a 0 g.acts.length).toNat = n := ⟨_, rfl⟩; rw [hn]
   cases hg : g.acts[n]? with
   | none => simpa using h n
   | some y =>
     cases y with
     | cut m => simpa using h n
     | add m =>
       dsimp only; have hlt : n < g.acts.length := (q1Z.1 hg).1; have h2 := h (n + 1); rw [runs_take _ _ _ hlt] at h2
       have e : g.acts[n] = .add m := by rw [q3Z hlt] at hg; exact Option.some.inj hg
       rw [e] at h2; simp only [FAct.run] at h2; refine List.IsPrefix.trans ?_ h2; exact (List.prefix_append_right_inj _).2 (List.take_prefix _ _)
 simpa [runs] using key
theorem partO_now {s : List UInt8} {f : PF} (h : partO s (some f)) : f.now <+: s := by
 rcases h with h | ⟨g, e, h⟩
 · cases h
 cases e; have := h f.acts.length; rw [List.take_length] at this; exact this
def twoN (a b : List UInt8) (fd : FD) : Prop := fd.each fun l _ => ∀ k ∈ NM.keys l, k = a ∨ k = b
theorem twoN_new {a b x : List UInt8} {fd : FD} (h : twoN a b fd) (hx : x = a ∨ x = b) : twoN a b (fdN fd x) := by
 refine FD.each_one h (fun _ _ _ _ h => h) _ rfl rfl (by dsimp only; omega) ?_
 intro k hk; simp only [DAct.run] at hk; rw [NM.keys_put] at hk; split at hk
 · exact FD.each_now h k hk
 · rcases qxZ.1 hk with hk | hk
   · exact FD.each_now h k hk
   · rw [r1Z.1 hk]; exact hx
theorem twoN_one {a b : List UInt8} {l : NM} {n : Int} (h : ∀ k ∈ NM.keys l, k = a ∨ k = b) : twoN a b ⟨l, [], n⟩ := fun i hi => by
 simp only [q8Z, Nat.le_zero_eq] at hi; subst hi; exact h
theorem two_le {a b : List UInt8} : ∀ {l : List (List UInt8)}, l.Nodup → (∀ k ∈ l, k = a ∨ k = b) → l.length ≤ 2
 | [], _, _ => by simp
 | [_], _, _ => by simp
 | [_, _], _, _ => by simp
 | x :: y :: z :: l, hn, h => by
   simp only [rdZ, qwZ, not_or] at hn; obtain ⟨⟨h1, h2, _⟩, ⟨h3, _⟩, _⟩ := hn
   have a1 := h x (by simp)
   have a2 := h y (by simp)
   have a3 := h z (by simp)
   rcases a1 with rfl | rfl <;> rcases a2 with rfl | rfl <;> rcases a3 with rfl | rfl <;> simp_all
end
section
open Go Go.Lib
attribute [-simp] drawOk_eq adraw qrun acode aops
def pofS : Summ := fun args H => match args with
 | [.func f [.ptr q 0] [], .str k] => if q < H.length then some (.func 181 [] [.ptr H.length 0, .ptr (H.length + 1) 0], H ++ [.cells true [.func f [.ptr q 0] []], .cells true [.str k]], []) else none
 | _ => none
theorem pof_sound : Sound Pz 114 pofS := by
 refine ⟨enter_of Tryz.func114 rfl (by decide), fun args H v H' W hs => ?_, fun args H v H' W hs => ?_⟩ <;> (unfold pofS at hs; split at hs <;> try cases hs) <;> (rename_i f q k; split at hs <;> cases hs; rename_i hq)
 · refine ct_of_simE Tryz.func114 rfl ?_
   simp only [Tryz.ntmps114, q7Z, q8Z, Nat.reduceAdd, Nat.reduceSub, qbZ, q9Z, qaZ]
   refine Sim.exec hmix goks_nil (n := 0) (by simp; exact ⟨rfl, rfl, rfl⟩) (by simp) ?_
   exact ⟨.inr rfl, by simp [Tryz.f114], rfl⟩
 · exact ⟨by simp, fun c hc _ => by rw [q4Z hc]⟩
def pbInl : List FuncId := [116]
end
end Go.Proofs.YthafeihjlamhhaaGreatDoor
