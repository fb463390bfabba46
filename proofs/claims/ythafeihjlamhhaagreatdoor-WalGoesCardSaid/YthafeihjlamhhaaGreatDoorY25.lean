/- Parts of the proof of WalGoes: lemmas, each with its own conditions. -/
import Derived.Test.YthafeihjlamhhaaGreatDoorY24
import Derived.Test.YthafeihjlamhhaaGreatDoorY21
set_option maxHeartbeats 64000000
open List renaming getElem?_eq_some_iff → q1Z, getElem?_eq_getElem → q3Z, getElem?_append_left → q4Z, getElem?_append_right → q5Z, length_cons → q7Z, length_nil → q8Z, cons_append → q9Z, nil_append → qaZ, replicate → qbZ, length_append → qdZ, length_take → qjZ, length_drop → qkZ, mem_cons → qwZ, mem_append → qxZ, getElem?_map → qzZ, mem_singleton → r1Z, take_append_drop → r6Z, length_map → r7Z, mem_map → reZ, map_append → roZ, not_mem_nil → rtZ
open Option renaming map_eq_some_iff → qlZ, map_some → rhZ
open Nat renaming le_refl → qnZ
open Bool renaming false_eq_true → qsZ
namespace Go.Proofs.YthafeihjlamhhaaGreatDoor
open _root_.Go.Proofs.Tryz renaming prog → Pz
set_option maxRecDepth 100000
section
open Go
attribute [-simp] drawOk_eq adraw qrun acode aops
def asc (l : List En) : Prop := l.Pairwise fun x y => x.1 < y.1
instance (l : List En) : Decidable (asc l) := by unfold asc; infer_instance
end
section
open Go Go.RowKit Go.Lib
attribute [-simp] drawOk_eq adraw qrun acode aops
def bareE (e : En) : En := (e.1, if e.2.2 then 0 else e.2.1, e.2.2)
end
section
open Go
attribute [-simp] drawOk_eq adraw qrun acode aops
theorem okW_iff (w : List UInt8) : okW w = true ↔ 1 ≤ w.length ∧ w.length ≤ 255 := by simp [okW]
def dletter (c : Nat) : Nat := if c % 8 < 7 then 97 + c % 8 % 3 else c
def dword (ls : List Nat) : List UInt8 := (ls.take 9).map fun c => UInt8.ofNat (dletter c)
def dE (ls : List Nat) (n : Int) (g : Bool) : En := bareE (if dword ls = [] then [97] else dword ls, n, g)
theorem dE_ok (ls : List Nat) (n : Int) (g : Bool) (hn : okN n = true) : okW (dE ls n g).1 = true ∧ okN (dE ls n g).2.1 = true ∧ ((dE ls n g).2.2 = true → (dE ls n g).2.1 = 0) := by
 unfold dE bareE; refine ⟨?_, ?_, ?_⟩
 · rw [okW_iff]
   dsimp only; split
   · simp
   · rename_i h
     have h1 : (dword ls).length ≤ 9 := by simp [dword]; omega
     have h2 : (dword ls).length ≠ 0 := by simpa using h
     omega
 · dsimp only
   split
   · rfl
   · exact hn
 · dsimp only
   intro h; rw [if_pos h]
theorem bare_ct (e : En) : Ct Pz 145 [.agg (enA e)] [] (.agg (enA (bareE e))) [] := by
 obtain ⟨w, n, g⟩ := e; unfold bareE; refine ct_val hmix goks_nil (n := 0) Tryz.func145 ?_ rfl; unfold Tryz.f145
 cases g <;> simp [enA]
def bareS : Summ := pureS fun | [.agg [.str w, .int .u32 n, .bool g]] => some (.agg (enA (bareE (w, n, g)))) | _ => none
theorem bare_sound : Sound Pz 145 bareS := by
 refine sound_pure (enter_of Tryz.func145 rfl (by decide)) fun args v h => ?_
 split at h <;> cases h
 rename_i w n g; exact ⟨bare_ct (w, n, g), rfl, rfl⟩
end
section
open Go Go.Lib
def okE (e : En) : Prop := okW e.1 = true ∧ okN e.2.1 = true ∧ (e.2.2 = true → e.2.1 = 0)
def frE (e : En) : List UInt8 := (Fr.put (eput e).1).1
theorem eput_okE {e : En} (h : okE e) : Fr.ok (eput e).1 ∧ (eput e).2 = 0 := by
 obtain ⟨w, n, g⟩ := e; obtain ⟨h1, h2, _⟩ := h; have h3 := (okW_iff w).1 h1; simp only [okN, decide_eq_true_eq] at h2; unfold eput Fr.ok; dsimp only at h1 ⊢; rw [if_pos h1]; split
 · refine ⟨⟨by simp, ?_⟩, rfl⟩
   simp; omega
 · refine ⟨⟨by simp, ?_⟩, rfl⟩
   have := Vy.size_bd n.toNat (by omega)
   simp only [q7Z, qdZ, Vy.enc_length]; omega
theorem frE_le (e : En) : (frE e).length ≤ 313 := Fr.put_le _
structure Logs (n1 : Nat) (ts : List (List UInt8)) (d : DS) : Prop where
 up : d.down = false
 keys : NM.keys d.fd.now = (List.range ts.length).map fun i => wn (n1 + i)
 file : ∀ i t, ts[i]? = some t → ∃ f, cont d.fs d.fd.now (wn (n1 + i)) = some f ∧ f.now = t
theorem Logs.size {n1 : Nat} {ts : List (List UInt8)} {d : DS} (h : Logs n1 ts d) {i : Nat} {t : List UInt8} (ht : ts[i]? = some t) : d.size (wn (n1 + i)) = ((t.length : Int), 0) := by
 obtain ⟨f, h1, rfl⟩ := h.file i t ht; obtain ⟨n, h2, h3⟩ := cont_get h1; unfold DS.size; rw [h.up, h2]; simp only [qsZ, if_false]; rw [h3]
theorem logs_of_view {n1 : Nat} {cs : List (List (List UInt8))} {sy : Nat} {d : DS} (hd : d.down = false) (h : View n1 cs sy d.fs d.fd.now) : Logs n1 (cs.map List.flatten) d := by
 refine ⟨hd, by rw [h.keys, r7Z], fun i t ht => ?_⟩
 rw [qzZ] at ht; obtain ⟨c, hc, rfl⟩ := qlZ.1 ht; obtain ⟨f, h1, h2, _⟩ := h.file i c hc; exact ⟨f, h1, h2.1⟩
def ChOk (most : Int) (cs : List (List (List UInt8))) : Prop := (∀ c ∈ cs, c ≠ [] ∧ (c.dropLast.flatten.length : Int) < most) ∧ ∀ i c, cs[i]? = some c → i + 1 < cs.length → most ≤ (c.flatten.length : Int)
theorem ChOk.add {most : Int} (hm : 1 ≤ most) {cs : List (List (List UInt8))} (h : ChOk most cs) (s : List UInt8) : ChOk most (addc most cs s) := by
 obtain ⟨h1, h2⟩ := h; unfold addc
 cases hl : cs.getLast? with
 | none =>
   rw [List.getLast?_eq_none_iff] at hl; subst hl
   refine ⟨fun c hc => ?_, fun i c hc hi => ?_⟩
   · simp only [r1Z] at hc
     subst hc
     exact ⟨by simp, by simp; omega⟩
   · simp at hi
 | some c =>
   obtain ⟨init, rfl⟩ := List.getLast?_eq_some_iff.1 hl; dsimp only; split
   · rename_i hc
     refine ⟨fun x hx => ?_, fun i x hx hi => ?_⟩
     · rcases qxZ.1 hx with hx | hx
       · exact h1 x hx
       · simp only [r1Z] at hx
         subst hx
         exact ⟨by simp, by simp; omega⟩
     · simp only [qdZ, List.length_singleton] at hi
       rw [q4Z (by simp; omega)] at hx
       by_cases e : i = init.length
       · subst e
         rw [q5Z (qnZ _), Nat.sub_self] at hx; cases hx; exact hc
       · exact h2 i x hx (by simp; omega)
   · rename_i hc
     have hd : (init ++ [c]).dropLast = init := by simp
     rw [hd]
     refine ⟨fun x hx => ?_, fun i x hx hi => ?_⟩
     · rcases qxZ.1 hx with hx | hx
       · exact h1 x (List.mem_append_left _ hx)
       · simp only [r1Z] at hx
         subst hx
         refine ⟨by simp, ?_⟩
         rw [List.dropLast_concat]; omega
     · simp only [qdZ, List.length_singleton] at hi
       rw [q4Z (by omega)] at hx
       exact h2 i x (by rw [q4Z (by omega)]; exact hx) (by simp; omega)
theorem ChOk.adds {most : Int} (hm : 1 ≤ most) : ∀ (l : List (List UInt8)) (cs : List (List (List UInt8))), ChOk most cs → ChOk most (l.foldl (addc most) cs)
 | [], _, h => h
 | s :: l, _cs, h => ChOk.adds hm l _ (h.add hm s)
theorem ChOk.nil (most : Int) : ChOk most [] := ⟨fun c hc => by simp at hc, fun i c hc => by simp at hc⟩
theorem foldl_flat (most : Int) : ∀ (l : List (List UInt8)) (cs : List (List (List UInt8))), (l.foldl (addc most) cs).flatten = cs.flatten ++ l
 | [], cs => by simp
 | s :: l, cs => by rw [List.foldl_cons, foldl_flat most l, addc_flat]; simp
theorem foldl_len (most : Int) : ∀ (l : List (List UInt8)) (cs : List (List (List UInt8))), (l.foldl (addc most) cs).length ≤ cs.length + l.length
 | [], cs => by simp
 | s :: l, cs => by
   have h1 := foldl_len most l (addc most cs s); have h2 := addc_len most cs s; rw [List.foldl_cons, q7Z]; omega
theorem fresh_calm {w : WL} (h1 : w.d.armed = 0) (h2 : w.d.down = false) : w.fresh.1.d.armed = 0 ∧ w.fresh.1.d.down = false := by
 have c1 := calm_create (wn w.next) w.d h1 h2; have c2 := calm_syncDir _ c1.1 c1.2; unfold WL.fresh; split
 · exact ⟨h1, h2⟩
 split
 · split
   · exact c2
   · exact c2
 · exact c1
theorem ready_calm {w : WL} (h1 : w.d.armed = 0) (h2 : w.d.down = false) : w.ready.1.d.armed = 0 ∧ w.ready.1.d.down = false := by
 have c1 := calm_sync (wn w.file) w.d h1 h2; unfold WL.ready; split
 · exact fresh_calm h1 h2
 split
 · split
   · exact fresh_calm (w := ⟨(w.d.sync (wn w.file)).1, w.most, w.file, w.next, w.done, w.bad⟩) c1.1 c1.2
   · exact c1
 · exact ⟨h1, h2⟩
theorem add_calm {w : WL} (h1 : w.d.armed = 0) (h2 : w.d.down = false) (s : List UInt8) : (w.add s).1.d.armed = 0 ∧ (w.add s).1.d.down = false := by
 have c1 := ready_calm h1 h2; have c2 := calm_append (wn w.ready.1.file) s _ c1.1 c1.2; unfold WL.add; split
 · split
   · exact c2
   · exact c2
 · exact c1
theorem adds_calm : ∀ (l : List (List UInt8)) {w : WL}, w.d.armed = 0 → w.d.down = false → (w.adds l).1.d.armed = 0 ∧ (w.adds l).1.d.down = false
 | [], w, h1, h2 => ⟨h1, h2⟩
 | s :: l, w, h1, h2 => by
   have c1 := add_calm h1 h2 s; unfold WL.adds; split
   · exact adds_calm l c1.1 c1.2
   · exact c1
theorem wsync_calm {w : WL} (h1 : w.d.armed = 0) (h2 : w.d.down = false) : w.sync.1.d.armed = 0 ∧ w.sync.1.d.down = false := by
 have c1 := calm_sync (wn w.file) w.d h1 h2; unfold WL.sync; split
 · exact ⟨h1, h2⟩
 · exact c1
theorem WStage.calm {r : WL × Int} {P : WL → Prop} {B : FD → FS → Prop} (h : WStage r P B) (hd : r.1.d.down = false) : r.2 = 0 ∧ P r.1 := by
 rcases h with ⟨h1, h2, h3⟩ | ⟨h1, h2, h3⟩
 · exact ⟨h1, h3⟩
 · rw [hd] at h2; cases h2
theorem step_quota (d : DS) (g : DS → DS × Int) (hg : ∀ d, (g d).1.quota = d.quota) : (d.step g).1.quota = d.quota := by
 unfold DS.step; split
 · simp
 · rw [hg]; simp
theorem wof_quota (d : DS) (k : List UInt8) (g : DS → PF → PF × Int) : (d.of k g).1.quota = d.quota := step_quota d _ fun d => by
 split
 · rfl
 · split
   · rfl
   · rfl
theorem fresh_ok {w : WL} {A B : Nat} (h : w.d.ok A B) (_hq : w.d.quota ≤ 1048576) : w.fresh.1.d.ok (A + 4) B ∧ w.fresh.1.d.quota = w.d.quota := by
 have h1 := DS.ok_create h (wn w.next); have h2 := DS.ok_syncDir h1; have q1 := create_quota w.d (wn w.next)
 have q2 : (w.d.create (wn w.next)).1.syncDir.1.quota = w.d.quota := (step_quota _ _ fun _ => rfl).trans q1
 unfold WL.fresh; split
 · exact ⟨DS.ok_mono h (by omega) (qnZ _), rfl⟩
 split
 · split
   · exact ⟨h2, q2⟩
   · exact ⟨h2, q2⟩
 · exact ⟨DS.ok_mono h1 (by omega) (qnZ _), q1⟩
theorem ready_ok {w : WL} {A B : Nat} (h : w.d.ok A B) (hq : w.d.quota ≤ 1048576) : w.ready.1.d.ok (A + 5) B ∧ w.ready.1.d.quota = w.d.quota := by
 have h1 := DS.ok_sync h (wn w.file); have q1 : (w.d.sync (wn w.file)).1.quota = w.d.quota := wof_quota _ _ _; unfold WL.ready; split
 · exact ⟨DS.ok_mono (fresh_ok h hq).1 (by omega) (qnZ _), (fresh_ok h hq).2⟩
 split
 · split
   · have := fresh_ok (w := ⟨(w.d.sync (wn w.file)).1, w.most, w.file, w.next, w.done, w.bad⟩) h1 (by dsimp only; rw [q1]; exact hq)
     exact ⟨DS.ok_mono this.1 (by omega) (qnZ _), this.2.trans q1⟩
   · exact ⟨DS.ok_mono h1 (by omega) (qnZ _), q1⟩
 · exact ⟨DS.ok_mono h (by omega) (qnZ _), rfl⟩
theorem add_ok {w : WL} {A B : Nat} (h : w.d.ok A B) (hq : w.d.quota ≤ 1048576) (s : List UInt8) : (w.add s).1.d.ok (A + 6) (B + 1048576) ∧ (w.add s).1.d.quota = w.d.quota := by
 obtain ⟨h1, q1⟩ := ready_ok h hq
 have h2 := DS.ok_append h1 (wn w.ready.1.file) s 1048576 (by decide) (by rw [q1]; exact hq)
 have q2 : (w.ready.1.d.append (wn w.ready.1.file) s).1.quota = w.d.quota := (wof_quota _ _ _).trans q1; unfold WL.add; split
 · split
   · exact ⟨h2, q2⟩
   · exact ⟨h2, q2⟩
 · exact ⟨DS.ok_mono h1 (by omega) (by omega), q1⟩
theorem adds_ok : ∀ (l : List (List UInt8)) {w : WL} {A B : Nat}, w.d.ok A B → w.d.quota ≤ 1048576 → (w.adds l).1.d.ok (A + 6 * l.length) (B + 1048576 * l.length) ∧ (w.adds l).1.d.quota = w.d.quota
 | [], w, A, B, h, _ => ⟨h, rfl⟩
 | s :: l, w, A, B, h, hq => by
   obtain ⟨h1, q1⟩ := add_ok h hq s; unfold WL.adds; simp only [q7Z]; split
   · obtain ⟨h2, q2⟩ := adds_ok l h1 (by rw [q1]; exact hq)
     exact ⟨DS.ok_mono h2 (by omega) (by omega), q2.trans q1⟩
   · exact ⟨DS.ok_mono h1 (by omega) (by omega), q1⟩
theorem wsync_ok {w : WL} {A B : Nat} (h : w.d.ok A B) : w.sync.1.d.ok (A + 1) B ∧ w.sync.1.d.quota = w.d.quota := by
 unfold WL.sync; split
 · exact ⟨DS.ok_mono h (by omega) (qnZ _), rfl⟩
 · exact ⟨DS.ok_sync h _, wof_quota _ _ _⟩
abbrev WL.new (most : Int) (next : Nat) : WL := ⟨DS.new 1048576, most, 0, next, 0, false⟩
theorem WP.new (most : Int) {n1 : Nat} : WP n1 most [] 0 (WL.new most n1) := by
 have hok := DS.ok_new 1048576 (by decide) (by decide)
 exact ⟨rfl, hok.core, rfl, ⟨rfl, fun i c hc => by simp at hc⟩, rfl, rfl, rfl, rfl, qnZ _⟩
theorem frames_len (all : List En) : ((all.map frE).flatten).length ≤ 313 * all.length := Rp.bytes_le all
theorem text_txt (d : DS) (k : List UInt8) : d.text k = txt d.fs d.fd.now k := by
 unfold DS.text DS.file txt cont
 cases d.fd.now.get k with
 | none => rfl
 | some n =>
   dsimp only [Option.bind_some]
   cases FS.get d.fs n <;> rfl
theorem Logs.files {d e : DS} {n1 : Nat} {ts : List (List UInt8)} (h : Logs n1 ts d) (g : Logs n1 ts e) : d.files = e.files := by
 have hl : d.list = e.list := by
   unfold DS.list FD.names; rw [h.up, g.up, h.keys, g.keys]
 unfold DS.files; rw [hl]
 refine List.map_congr_left fun k hk => ?_
 have hk2 : k ∈ NM.keys e.fd.now := by
   unfold DS.list FD.names at hk; rw [g.up] at hk; exact (sortU_perm _).subset hk
 rw [g.keys] at hk2; obtain ⟨i, hi, rfl⟩ := reZ.1 hk2; have hi := List.mem_range.1 hi; obtain ⟨f, f1, f2⟩ := h.file i ts[i] (q3Z hi); obtain ⟨f', f3, f4⟩ := g.file i ts[i] (q3Z hi); rw [text_txt, text_txt]; unfold txt; rw [f1, f3]; simp [f2, f4]
theorem calm_law (most : Int) (hm : 1 ≤ most) {n1 : Nat} (h1 : 1 ≤ n1) {all : List En} (_h : ∀ e ∈ all, okE e) (hl : all.length ≤ 60) (hn : n1 ≤ 1000) : ∃ cs w, (WL.new most n1).adds (all.map frE) = (w, 0) ∧ WP n1 most cs 0 w ∧ w.bad = false ∧ w.d.armed = 0 ∧ w.d.down = false ∧ ChOk most cs ∧
   cs = (all.map frE).foldl (addc most) [] ∧ cs.flatten = all.map frE ∧ cs.length ≤ 60 ∧ w.d.ok 360 62914560 := by
 have hs := adds_stage h1 (all.map frE) [] (WL.new most n1) rfl (WP.new most) (by simp; omega) (by
   have := frames_len all; simp only [List.flatten_nil, q8Z]
   omega)
 have hc := adds_calm (all.map frE) (w := WL.new most n1) rfl rfl
 have ho := (adds_ok (all.map frE) (w := WL.new most n1) (DS.ok_new 1048576 (by decide) (by decide)) (Int.le_refl _)).1
 obtain ⟨w, e, hw⟩ : ∃ w e, (WL.new most n1).adds (all.map frE) = (w, e) := ⟨_, _, rfl⟩; rw [hw] at hs hc ho; obtain ⟨rfl, p1, p2⟩ := hs.calm hc.2
 refine ⟨_, w, hw, p1, p2 rfl, hc.1, hc.2, ChOk.adds hm _ _ (ChOk.nil most), rfl, by rw [foldl_flat]; rfl, ?_, ?_⟩
 · have := foldl_len most (all.map frE) []
   simp at this; omega
 · simp only [r7Z] at ho
   exact DS.ok_mono ho (by omega) (by omega)
abbrev WL.sh (w : WL) (x : Int) : WL := ⟨w.d, w.most, w.file, w.next, w.done + x, w.bad⟩
theorem fresh_sh (w : WL) (x : Int) : (w.sh x).fresh = (w.fresh.1.sh x, w.fresh.2) := by
 unfold WL.fresh; dsimp only; split
 · rfl
 split
 · split <;> rfl
 · rfl
theorem ready_sh (w : WL) (x : Int) : (w.sh x).ready = (w.ready.1.sh x, w.ready.2) := by
 have e : (w.sh x).size = w.size := rfl; unfold WL.ready; rw [e]; dsimp only; split
 · exact fresh_sh w x
 split
 · split
   · exact fresh_sh ⟨(w.d.sync (wn w.file)).1, w.most, w.file, w.next, w.done, w.bad⟩ x
   · rfl
 · rfl
theorem add_sh (w : WL) (x : Int) (s : List UInt8) : (w.sh x).add s = ((w.add s).1.sh x, (w.add s).2) := by
 unfold WL.add; rw [ready_sh]; dsimp only; split
 · split
   · dsimp only
     rw [show w.ready.1.done + x + 1 = w.ready.1.done + 1 + x by omega]
   · rfl
 · rfl
theorem adds_sh : ∀ (l : List (List UInt8)) (w : WL) (x : Int), (w.sh x).adds l = ((w.adds l).1.sh x, (w.adds l).2)
 | [], _, _ => rfl
 | s :: l, w, x => by
   unfold WL.adds; rw [add_sh]; dsimp only; split
   · exact adds_sh l _ x
   · rfl
theorem goes_lawW (most : Int) (hm : 1 ≤ most) {all : List En} (h : ∀ e ∈ all, okE e) (hl : all.length ≤ 40) (k : Nat) (hk : k ≤ all.length) : ∃ (x y1 y : WL) (z : WL), (WL.new most 7).adds (all.map frE) = (x, 0) ∧ (WL.new most 7).adds ((all.take k).map frE) = (y1, 0) ∧ y1.sync = (y, 0) ∧
   x.d.small ∧ x.most = most ∧ y1.d.small ∧ y1.most = most ∧ (y.d.ok 700000 300000000000 ∧ y.d.quota = 1048576 ∧ y.next ≤ 1000 ∧ 0 ≤ y.done ∧ y.done ≤ 1000) ∧ y.most = most ∧ y1.bad = false ∧ y.bad = false ∧ y.d.down = false ∧
   (k = 0 → y.file = 0) ∧ (0 < k → y.file = y.next - 1 ∧ 1 ≤ y.file ∧ y.file ≤ 1000 ∧ ∃ s, y.d.size (wn y.file) = (s, 0)) ∧
   (if k = 0 then y else ⟨y.d, most, y.file, y.file + 1, 0, false⟩ : WL).adds ((all.drop k).map frE) = (z, 0) ∧ z.d.small ∧ z.most = most ∧ x.file = z.file ∧ x.next = z.next ∧ x.d.files = z.d.files := by
 obtain ⟨cs, x, e1, p, p2, p3, p4, ch, ec, e3, e4, ok⟩ := calm_law most hm (n1 := 7) (by omega) h (by omega) (by omega)
 obtain ⟨cs1, y1, f1, r, r2, r3, r4, _, fc, f3, f4, rok⟩ := calm_law most hm (n1 := 7) (by omega) (all := all.take k) (fun e he => h e (List.mem_of_mem_take he)) (by simp; omega) (by omega)
 have hs := sync_stage r4 r r2 (by omega) (by omega)
 have hc := wsync_calm r3 r4; have ho := (wsync_ok (w := y1) rok).1; obtain ⟨y, e, hy⟩ : ∃ y e, y1.sync = (y, e) := ⟨_, _, rfl⟩; rw [hy] at hs hc ho; obtain ⟨rfl, s1, s2⟩ := hs.calm hc.2; dsimp only at hc s1 s2 ho
 have hcl : cs1.flatten.length = k := by rw [f3]; simp; omega
 have hz := adds_stage (show 1 ≤ 7 by omega) ((all.drop k).map frE) cs1 y hc.2 s1 (by simp; omega) (by
   rw [f3]; have h1 := frames_len (all.take k); have h2 := frames_len (all.drop k); simp only [qjZ, qkZ] at h1 h2
   omega)
 have hzc := adds_calm ((all.drop k).map frE) hc.1 hc.2
 have hzo := (adds_ok ((all.drop k).map frE) ho (by rw [s1.quota]; decide)).1
 obtain ⟨z, e, hze⟩ : ∃ z e, y.adds ((all.drop k).map frE) = (z, e) := ⟨_, _, rfl⟩; rw [hze] at hz hzc hzo; obtain ⟨rfl, z1, z2⟩ := hz.calm hzc.2; dsimp only at hzc z1 z2 hzo
 have hsame : ((all.drop k).map frE).foldl (addc most) cs1 = cs := by
   rw [fc, ec, ← List.foldl_append, ← roZ, r6Z]
 rw [hsame] at z1
 have hfin : z.d.small ∧ z.most = most ∧ x.file = z.file ∧ x.next = z.next ∧ x.d.files = z.d.files := by
   refine ⟨?_, z1.most', p.file.trans z1.file.symm, p.next.trans z1.next.symm, ?_⟩
   · simp only [r7Z, qkZ] at hzo
     exact DS.ok_mono hzo (by omega) (by omega)
   · exact (logs_of_view p4 p.view).files (logs_of_view hzc.2 z1.view)
 have hcs : cs1.length = 0 ↔ k = 0 := by
   constructor
   · intro h0
     have : cs1 = [] := List.length_eq_zero_iff.1 h0; rw [this] at hcl; simpa using hcl.symm
   · intro h0
     subst h0; rw [fc]; rfl
 refine ⟨x, y1, y, if k = 0 then z else z.sh (-y.done), e1, f1, hy, DS.ok_mono ok (by omega) (by omega), p.most', DS.ok_mono rok (by omega) (by omega), r.most', ⟨DS.ok_mono ho (by omega) (by omega), s1.quota, by rw [s1.next]; omega, by rw [s1.done]; omega, by rw [s1.done, hcl]; omega⟩, s1.most', r2, s2, hc.2, fun h0 => ?_, fun h0 => ?_, ?_, ?_⟩
 · rw [s1.file, if_pos (hcs.2 h0)]
 · have hne : ¬ cs1.length = 0 := fun h => by have := hcs.1 h; omega
   rw [s1.file, if_neg hne, s1.next]
   refine ⟨rfl, by omega, by omega, ?_⟩
   obtain ⟨c, hcc⟩ : ∃ c, cs1[cs1.length - 1]? = some c := ⟨_, q3Z (by omega)⟩
   have hl := logs_of_view hc.2 s1.view
   have := hl.size (i := cs1.length - 1) (t := c.flatten) (by rw [qzZ, hcc]; rfl)
   rw [show 7 + (cs1.length - 1) = 7 + cs1.length - 1 by omega] at this
   exact ⟨_, this⟩
 · by_cases h0 : k = 0
   · rw [if_pos h0, if_pos h0]
     exact hze
   · rw [if_neg h0, if_neg h0]
     have hne : ¬ cs1.length = 0 := fun h => h0 (hcs.1 h)
     have hn : y.next = y.file + 1 := by rw [s1.file, if_neg hne, s1.next]; omega
     have e9 : (⟨y.d, most, y.file, y.file + 1, 0, false⟩ : WL) = y.sh (-y.done) := by
       rw [← hn, ← s1.most', ← s2]; simp; omega
     rw [e9, adds_sh, hze]
 · by_cases h0 : k = 0
   · rw [if_pos h0]; exact hfin
   · rw [if_neg h0]; exact hfin
end
section
open Go Go.Lib
attribute [-simp] drawOk_eq adraw qrun acode aops
noncomputable def wlR (g : WL → List AV → Option AV) : Summ := fun args H => match args with
 | .ptr b 0 :: xs => match H[b]? with
   | some (.cells true l) => match wlOf l with
     | some (q, m, f, n, dn, bd) => match H[q]? with
       | some (.obj true sub) => match dsD sub with
         | some d => match g ⟨d, m, f, n, dn, bd⟩ xs with
           | some v => some (v, H, [])
           | none => none
         | none => none
       | _ => none
     | none => none
   | _ => none
 | _ => none
theorem sound_wlR {f : FuncId} {g : WL → List AV → Option AV} (he : ∀ cargs w, (callFunc f cargs).run Pz w = .ok (.enter f cargs) w)
   (h : ∀ w xs v, g w xs = some v → frees xs = true ∧ (∀ k, reA k v = v) ∧ Ct Pz f (.ptr 0 0 :: xs) [wlB 1 w, .obj true w.d.blks] v [wlB 1 w, .obj true w.d.blks]) : Sound Pz f (wlR g) := by
 have hw : Sound Pz f (wlS fun w xs => (g w xs).map fun v => (w, v)) := sound_wl he fun w xs w' v hg => by
   obtain ⟨v', h1, h2⟩ := qlZ.1 hg; cases h2; exact h w xs v h1
 have key : ∀ args H v H' W, wlR g args H = some (v, H', W) → H' = H ∧ W = [] ∧ Ct Pz f args H v H := by
   intro args H v H' W hs; unfold wlR at hs
   split at hs <;> try cases hs
   rename_i b xs
   split at hs <;> try cases hs
   rename_i l hb
   split at hs <;> try cases hs
   rename_i q m fl n dn bd hwl
   split at hs <;> try cases hs
   rename_i sub hq
   split at hs <;> try cases hs
   rename_i d hd
   split at hs <;> cases hs
   rename_i hg; refine ⟨rfl, rfl, ?_⟩; have e := dsD_eq hd; have e2 := wlOf_eq hwl
   subst e; subst e2
   have := hw.ct (.ptr b 0 :: xs) H v ((H.set b (wlB q ⟨d, m, fl, n, dn, bd⟩)).set q (.obj true d.blks)) [b, q] (by
     unfold wlS
     simp only [hb, wlOf_wlC, hq, dsD_blks, hg, rhZ])
   have s1 : H.set b (wlB q ⟨d, m, fl, n, dn, bd⟩) = H := by
     obtain ⟨h1, h2⟩ := q1Z.1 hb; show H.set b (.cells true (wlC q m fl n dn bd)) = H; rw [← h2, List.set_getElem_self]
   have s2 : H.set q (.obj true d.blks) = H := by
     obtain ⟨h1, h2⟩ := q1Z.1 hq; rw [← h2, List.set_getElem_self]
   rw [s1, s2] at this; exact this
 refine ⟨he, fun args H v H' W hs => ?_, fun args H v H' W hs => ?_⟩
 · obtain ⟨rfl, _, h⟩ := key args H v H' W hs
   exact h
 · obtain ⟨rfl, _, _⟩ := key args H v H' W hs
   exact ⟨qnZ _, fun _ _ _ => rfl⟩
open Classical in
noncomputable def wfreshS : Summ := wlS fun w xs => match xs with
 | [] => if w.d.small ∧ (w.d.create (wn w.next)).1.small ∧ w.next ≤ 1000000001 then some (w.fresh.1, .int .i64 w.fresh.2) else none
 | _ => none
theorem wfresh_sound : Sound Pz 152 wfreshS := by
 refine sound_wl (enter_of Tryz.func152 rfl (by decide)) fun w xs w' v hg => ?_
 split at hg; rotate_left
 · cases hg
 split at hg <;> cases hg
 rename_i hs
 exact ⟨rfl, fun _ => rfl, fresh_ct w hs.1 hs.2.1 hs.2.2⟩
open Classical in
noncomputable def wsyncLS : Summ := wlS fun w xs => match xs with
 | [] => if w.d.small then some (⟨(w.d.sync (wn w.file)).1, w.most, w.file, w.next, w.done, w.bad⟩, .int .i64 (w.d.sync (wn w.file)).2) else none
 | _ => none
theorem wsyncL_sound : Sound Pz 80 wsyncLS := by
 refine sound_wl (enter_of Tryz.func80 rfl (by decide)) fun w xs w' v hg => ?_
 split at hg; rotate_left
 · cases hg
 split at hg <;> cases hg
 rename_i hs
 exact ⟨rfl, fun _ => rfl, wsync_ct w hs⟩
open Classical in
noncomputable def wsizeR : Summ := wlR fun w xs => match xs with
 | [] => if w.d.small then some (.int .i64 w.size) else none
 | _ => none
theorem wsize_sound : Sound Pz 23 wsizeR := by
 refine sound_wlR (enter_of Tryz.func23 rfl (by decide)) fun w xs v hg => ?_
 split at hg; rotate_left
 · cases hg
 split at hg <;> cases hg
 rename_i hs
 exact ⟨rfl, fun _ => rfl, wsize_ct w hs⟩
theorem judged_ct (w : WL) (e : Int) : Ct Pz 77 [.ptr 0 0, .int .i64 e] [wlB 1 w, .obj true w.d.blks] (.int .i64 e) [wlB 1 ⟨w.d, w.most, w.file, w.next, w.done, decide (e ≠ 0)⟩, .obj true w.d.blks] := by
 have he : (e != 0) = decide (e ≠ 0) := by by_cases h : e = 0 <;> simp [h]
 refine ct_of_simE Tryz.func77 rfl ?_; simp only [wlB, wlC, Tryz.ntmps77, q7Z, q8Z, Nat.reduceAdd, Nat.reduceSub, qbZ, q9Z, qaZ]
 refine Sim.exec hmix goks_nil (n := 0) (by simp +decide; exact ⟨rfl, rfl, rfl⟩) (by simp) ?_
 exact ⟨.inr rfl, by simp [Tryz.f77], by simp [he]⟩
noncomputable def judgedS : Summ := wlS fun w xs => match xs with
 | [.int .i64 e] => some (⟨w.d, w.most, w.file, w.next, w.done, decide (e ≠ 0)⟩, .int .i64 e)
 | _ => none
theorem judged_sound : Sound Pz 77 judgedS := by
 refine sound_wl (enter_of Tryz.func77 rfl (by decide)) fun w xs w' v hg => ?_
 split at hg <;> cases hg
 exact ⟨rfl, fun _ => rfl, judged_ct w _⟩
theorem may_ct (w : WL) : Ct Pz 72 [.ptr 0 0] [wlB 1 w, .obj true w.d.blks] (.int .i64 (if w.bad = true then 11 else 0)) [wlB 1 w, .obj true w.d.blks] := by
 obtain ⟨d, m, f, n, dn, bd⟩ := w; refine ct_of_simE Tryz.func72 rfl ?_; simp only [wlB, wlC, Tryz.ntmps72, q7Z, q8Z, Nat.reduceAdd, Nat.reduceSub, qbZ, q9Z, qaZ]
 cases bd with
 | true =>
   refine Sim.exec hmix goks_nil (n := 0) (by simp +decide; exact ⟨rfl, rfl, rfl⟩) (by simp) ?_
   exact ⟨.inr rfl, by simp [Tryz.f72], by simp⟩
 | false =>
   refine Sim.exec hmix goks_nil (n := 0) (by simp +decide; exact ⟨rfl, rfl, rfl⟩) (by simp) ?_
   exact ⟨.inr rfl, by simp [Tryz.f72], by simp⟩
noncomputable def mayR : Summ := wlR fun w xs => match xs with
 | [] => some (.int .i64 (if w.bad = true then 11 else 0))
 | _ => none
theorem may_sound : Sound Pz 72 mayR := by
 refine sound_wlR (enter_of Tryz.func72 rfl (by decide)) fun w xs v hg => ?_
 split at hg <;> cases hg
 exact ⟨rfl, fun _ => rfl, may_ct w⟩
noncomputable def rdyΓ0 : Gam := gams [(80, wsyncLS), (152, wfreshS)]
theorem rdyΓ0_ok : GOk Pz rdyΓ0 := goks_cons wsyncL_sound (goks_cons wfresh_sound goks_nil)
abbrev rdH (w : WL) : AHeap := [wlB 1 w, .obj true w.d.blks, .cells true [.func 80 [.ptr 0 0] [], .func 152 [.ptr 0 0] []]]
abbrev WL.synced (w : WL) : WL := ⟨(w.d.sync (wn w.file)).1, w.most, w.file, w.next, w.done, w.bad⟩
theorem rrow_ct (w : WL) (h0 : w.d.small) (h1 : w.synced.d.small) (h2 : (w.synced.d.create (wn w.next)).1.small) (hn : w.next ≤ 1000000001) :
   Ct Pz 78 [.ptr 0 0, .slice 2 0 2 1 true] (rdH w) (.int .i64 (if (w.d.sync (wn w.file)).2 = 0 then w.synced.fresh.2 else (w.d.sync (wn w.file)).2)) (if (w.d.sync (wn w.file)).2 = 0 then rdH w.synced.fresh.1 else rdH w.synced) := by
 refine first2_ct rdyΓ0_ok 3 0 2 true (by decide) (rdH w) (rdH w.synced) (rdH w.synced.fresh.1) _ _ [.ptr 0 0] [.ptr 0 0] [] [] _ _ rfl rfl rfl rfl rfl rfl (by decide) (by decide) (fun H hH rn hr B hB => ?_) (fun X => ?_) (fun _ X => ?_)
 · have q : ∀ j, j < 3 → rn[j]? = some j := hr
   rcases hH with rfl | rfl | rfl <;> (simp only [rdH, qwZ, rtZ, or_false] at hB; rcases hB with rfl | rfl | rfl <;> simp [wlC, AWb, AW, q])
 · simp +decide [rdyΓ0, wsyncLS, wlS, h0]
 · simp +decide [rdyΓ0, wfreshS, wlS, h1, h2, hn]
theorem ready_ct (w : WL) {A B : Nat} (hok : w.d.ok A B) (hA : A + 10 ≤ 900000) (hB : B ≤ 1000000000000) (hn : w.next ≤ 1000000000) :
   Ct Pz 79 [.ptr 0 0] [wlB 1 w, .obj true w.d.blks] (.int .i64 w.ready.2) [wlB 1 w.ready.1, .obj true w.ready.1.d.blks] := by
 have h0 : w.d.small := DS.ok_mono hok (by omega) (by omega)
 have h1 : w.synced.d.small := DS.ok_mono (DS.ok_sync hok _) (by omega) (by omega)
 have h2 : (w.d.create (wn w.next)).1.small := DS.ok_mono (DS.ok_create hok _) (by omega) (by omega)
 have h3 : (w.synced.d.create (wn w.next)).1.small := DS.ok_mono (DS.ok_create (DS.ok_sync hok (wn w.file)) _) (by omega) (by omega)
 have hn1 : w.next ≤ 1000000001 := by omega
 have hrow := rrow_ct w h0 h1 h3 hn1; obtain ⟨sz, hsz⟩ : ∃ sz, w.size = sz := ⟨_, rfl⟩; obtain ⟨W0, hW0⟩ : ∃ W0, w.fresh = W0 := ⟨_, rfl⟩; obtain ⟨w0, e0⟩ := W0; obtain ⟨ws, hws⟩ : ∃ ws, w.synced = ws := ⟨_, rfl⟩; obtain ⟨es, hes⟩ : ∃ es, (w.d.sync (wn w.file)).2 = es := ⟨_, rfl⟩
 have hrd : w.ready = if w.file = 0 then (w0, e0) else if w.most ≤ sz then (if es = 0 then ws.fresh else (ws, es)) else (w, 0) := by
   unfold WL.ready; rw [hsz, hW0, hes, ← hws]
 rw [hws, hes] at hrow
 obtain ⟨E, hE⟩ : ∃ E, (if es = 0 then ws.fresh.2 else es) = E := ⟨_, rfl⟩
 obtain ⟨V, hV⟩ : ∃ V, (if es = 0 then ws.fresh.1 else ws) = V := ⟨_, rfl⟩
 have hH : (if es = 0 then rdH ws.fresh.1 else rdH ws) = rdH V := by rw [← hV]; split <;> rfl
 have hVE : (if es = 0 then ws.fresh else (ws, es)) = (V, E) := by rw [← hV, ← hE]; split <;> rfl
 rw [hE, hH] at hrow; rw [hVE] at hrd; rw [hrd]; clear hrd hVE hH hV hE hes hws h1 h3; obtain ⟨d, m, f, n, dn, bd⟩ := w; obtain ⟨dV, mV, fV, nV, dnV, bdV⟩ := V; obtain ⟨d0, m0, f0, n0, dn0, bd0⟩ := w0; simp only [rdH, wlB, wlC] at hrow; dsimp only at h0 h2 hn hn1 hsz hW0 ⊢
 have hΓ : GOk Pz (gams [(23, wsizeR), (152, wfreshS), (78, oneAt _ _ _ _)]) := goks_cons wsize_sound (goks_cons wfresh_sound (goks_cons (oneAt_sound (enter_of Tryz.func78 rfl (by decide)) hrow (qnZ _)) goks_nil))
 refine ct_of_sim Tryz.func79 rfl ?_; simp only [wlB, wlC, Tryz.ntmps79, q7Z, q8Z, Nat.reduceAdd, Nat.reduceSub, qbZ, q9Z, qaZ]
 refine Sim.step hmix hΓ (n := 0) (by simp; exact ⟨rfl, rfl⟩) (by simp) ?_
 by_cases hf : f = 0
 · subst hf
   rw [if_pos rfl]
   refine Sim.exec hmix hΓ (n := 0) (by simp +decide [wfreshS, wlS, h0, h2, hn1, hW0]; exact ⟨rfl, rfl, rfl⟩) (by simp) ?_
   exact ⟨.inr rfl, _, by simp [Tryz.f79] <;> rfl, Weak.mk' [0, 1] (by decide) (by decide) (by simp) (by simp [AWb, AW, wlC])⟩
 · rw [if_neg hf]
   have hfI : ¬ (f : Int) = 0 := by omega
   have hfb : ((f : Int) == 0) = false := by simpa using hf
   refine Sim.seq (Sim.block ?_)
   refine Sim.step hmix hΓ (n := 0) (by simp +decide; exact ⟨rfl, rfl⟩) (by simp) ?_
   by_cases hm : m ≤ sz
   · rw [if_pos hm]
     refine Sim.exec hmix hΓ (n := 0) (by simp +decide [hfb, wsizeR, wlR, h0, hsz, hm]; exact ⟨rfl, rfl, rfl⟩) (by simp) ?_
     exact ⟨.inr rfl, _, by simp [Tryz.f79] <;> rfl, Weak.mk' [0, 1] (by decide) (by decide) (by simp) (by simp [AWb, AW])⟩
   · rw [if_neg hm]
     refine Sim.exec hmix hΓ (n := 0) (by simp +decide [hfb, wsizeR, wlR, h0, hsz, hm]; exact ⟨rfl, rfl, rfl⟩) (by simp) ?_
     dsimp only
     refine Sim.exec hmix hΓ (n := 0) (by simp; exact ⟨rfl, rfl, rfl⟩) (by simp) ?_
     exact ⟨.inr rfl, _, by simp [Tryz.f79] <;> rfl, Weak.mk' [0, 1] (by decide) (by decide) (by simp) (by simp [AWb, AW])⟩
open Classical in
noncomputable def wreadyS : Summ := wlS fun w xs => match xs with
 | [] => if w.d.ok 800000 500000000000 ∧ w.next ≤ 1000000000 then some (w.ready.1, .int .i64 w.ready.2) else none
 | _ => none
theorem wready_sound : Sound Pz 79 wreadyS := by
 refine sound_wl (enter_of Tryz.func79 rfl (by decide)) fun w xs w' v hg => ?_
 split at hg; rotate_left
 · cases hg
 split at hg <;> cases hg
 rename_i hs
 exact ⟨rfl, fun _ => rfl, ready_ct w hs.1 (by omega) (by omega) hs.2⟩
end
end Go.Proofs.YthafeihjlamhhaaGreatDoor
