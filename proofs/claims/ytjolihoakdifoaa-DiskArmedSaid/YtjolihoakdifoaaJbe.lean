/- XJs: A disk's methods, as summaries.
XJt: A disk's methods, as summaries: those that take or hand over rows. -/
import Derived.Test.YtjolihoakdifoaaJq
namespace Go.Proofs.Ytjolihoakdifoaa
open Go Go.Lib
set_option maxRecDepth 100000
attribute [-simp] drawOk_eq adraw qrun acode aops

theorem fileM_th (g : Nat → Nat) (G : Int → Nat) (fs : FS) : ∀ (th : List Int) (k : Nat), (∀ (j : Nat) v, th[j]? = some v → g (k + j) = G v) → fileM g k (thereF fs th) = thM G th
  | [], _, _ => rfl
  | v :: th, k, h => by
    have h0 := h 0 v rfl
    rw [Nat.add_zero] at h0
    have ih := fileM_th g G fs th (k + 1) fun j w hj => by rw [show k + 1 + j = k + (j + 1) by omega]; exact h (j + 1) w (by simpa using hj)
    simp only [thereF, thM, List.map_cons, fileM] at ih ⊢
    rw [h0, ih]
theorem FS.at_inj {l : FS} {a b : Int} (ha : a ∈ FS.keys l) (hb : b ∈ FS.keys l) (h : FS.at l a = FS.at l b) : a = b := by
  obtain ⟨f, hf⟩ := FS.get_some.2 ha
  obtain ⟨g, hg⟩ := FS.get_some.2 hb
  have h1 := FS.at_get hf
  have h2 := FS.at_get hg
  rw [h, h2] at h1
  cases h1; rfl

theorem flatsA_num : ∀ l : List Int, flatsA (numA l) = true
  | [] => rfl
  | _ :: l => by simp [numA, flatsA, flatA]

theorem restart_ct (d : DS) {A B : Nat} (hok : d.ok A B) (hA : A ≤ 1000000) (hB : B ≤ 1000000000000) (row : List Int) (hrw : ∀ x ∈ row, 0 ≤ x ∧ x ≤ 65535) (hrl : row.length ≤ 9223372036854775807) (L : Nat) (hLr : L ≤ row.length) (c : Bool) :
    Ct Try.prog 39 [.ptr 0 0, .sl 1 0 L 1 c] [.obj true d.blks, .cells false (numA row)] (.tuple []) [.obj true (d.restart (row.take L)).blks, .cells false (numA row)] := by
  obtain ⟨ns, hnsr⟩ : ∃ ns, ns = row.take L := ⟨_, rfl⟩
  rw [← hnsr]
  obtain ⟨fd, hfd⟩ : ∃ fd, d.fd.survive (ns.headD 0) = fd := ⟨_, rfl⟩
  obtain ⟨s, hs⟩ : ∃ s, stayAll fd ns.tail d.fs fd.names = s := ⟨_, rfl⟩
  obtain ⟨o, hct⟩ := restart_walk d hok hA hB row hrw hrl L hLr ns hnsr c fd hfd s hs
  have hr : d.restart ns = ⟨fd, thereF s.2.1 s.2.2, d.quota, d.steps, 0, false⟩ := by unfold DS.restart; rw [hfd, hs]
  have h3 : fd.each (hasP d.fs) := by rw [← hfd]; exact FD.each_survive hok.has _
  have hso : StOk fd B s d.fs := by
    rw [← hs]
    exact stayAll_ok _ ⟨rfl, hok.fine, List.nodup_nil, fun n hn => by cases hn⟩ fun k hk => by
      obtain ⟨v, hv⟩ := FD.names_get hk
      rw [FD.find_get hv]
      exact FD.each_now h3 k v hv
  have hsl : s.2.1.length = d.fs.length := by
    have := congrArg List.length hso.keys
    simpa [FS.keys] using this
  have hatk := FS.at_keys hso.keys
  obtain ⟨n, hn⟩ : ∃ n, d.fs.length = n := ⟨_, rfl⟩
  have hX := behind s.2.1
  rw [hsl, hn] at hX
  obtain ⟨g, hg⟩ : ∃ g : Nat → Nat, g = fun i => FS.at d.fs (s.2.2.getD i 0) + 3 := ⟨_, rfl⟩
  have hgi : ∀ (i : Nat) v, s.2.2[i]? = some v → g i = FS.at d.fs v + 3 := fun i v h => by rw [hg]; simp [List.getD_eq_getElem?_getD, h]
  have hlt : ∀ v ∈ s.2.2, FS.at d.fs v < n := fun v hv => by
    obtain ⟨f, hf⟩ := FS.get_some.2 (hso.sub v hv)
    rw [← hn]; exact FS.at_lt hf
  have hthl : (thereF s.2.1 s.2.2).length = s.2.2.length := by simp [thereF]
  have hgr : ∀ x ∈ (List.range s.2.2.length).map g, ∃ v ∈ s.2.2, x = FS.at d.fs v + 3 := by
    intro x hx
    obtain ⟨i, hi, rfl⟩ := List.mem_map.1 hx
    have hi' := List.mem_range.1 hi
    exact ⟨s.2.2[i], List.getElem_mem hi', hgi i _ (List.getElem?_eq_getElem hi')⟩
  rw [hn] at hct
  rw [hr]
  refine ct_opened2 (m := n + 6) (g := g) hct rfl ?_ (flatsA_num row) ?_ ?_ ?_ ?_
  · rw [hn]
    have : (emR n)[n + 3]? = some 1 := by rw [emR_get, if_neg (by omega), if_neg (by omega), if_pos rfl]
    exact ⟨⟨this, rfl, rfl, rfl, id⟩, trivial⟩
  · unfold rsEnd
    refine ⟨rfl, rfl, ?_, fun i e he => ?_, ?_⟩
    · simp only [List.getElem?_cons_succ]
      rw [hX.get]
      simp only [rsT, List.getElem?_cons_succ, List.getElem?_cons_zero]
      rw [fileM_th g (fun v => FS.at d.fs v + 3) s.2.1 s.2.2 0 fun j v hj => by rw [Nat.zero_add]; exact hgi j v hj]
    · dsimp only at he
      unfold thereF at he
      rw [List.getElem?_map] at he
      obtain ⟨v, hv, rfl⟩ := Option.map_eq_some_iff.1 he
      rw [hgi i v hv]
      simp only [List.getElem?_cons_succ]
      obtain ⟨f, hf⟩ := FS.get_some.2 (by rw [hso.keys]; exact hso.sub v (List.mem_of_getElem? hv) : v ∈ FS.keys s.2.1)
      rw [hf, List.getElem?_append_left (by rw [hX.len]; exact hlt v (List.mem_of_getElem? hv)), ← hatk]
      exact filesB_get (FS.at_get hf)
    · dsimp only
      rw [hthl]
      refine List.nodup_cons.2 ⟨fun h => ?_, List.nodup_cons.2 ⟨fun h => ?_, List.nodup_cons.2 ⟨fun h => ?_, ?_⟩⟩⟩
      · rcases List.mem_cons.1 h with h | h
        · omega
        rcases List.mem_cons.1 h with h | h
        · omega
        · obtain ⟨v, _, h⟩ := hgr _ h; omega
      · rcases List.mem_cons.1 h with h | h
        · omega
        · obtain ⟨v, _, h⟩ := hgr _ h; omega
      · obtain ⟨v, hv, h⟩ := hgr _ h; have := hlt v hv; omega
      · rw [List.nodup_iff_pairwise_ne, List.pairwise_map, List.pairwise_iff_getElem]
        intro i j hi hj hij
        simp only [List.length_range] at hi hj
        simp only [List.getElem_range]
        rw [hgi i _ (List.getElem?_eq_getElem hi), hgi j _ (List.getElem?_eq_getElem hj)]
        intro e
        have h1 := FS.at_inj (hso.sub _ (List.getElem_mem hi)) (hso.sub _ (List.getElem_mem hj)) (by omega)
        have := (List.nodup_iff_pairwise_ne.1 hso.nd)
        exact (List.pairwise_iff_getElem.1 this i j hi hj hij) h1
  · dsimp only
    rw [hthl, hn]
    simp only [List.mem_cons, not_or]
    refine ⟨by omega, by omega, by omega, fun h => ?_⟩
    obtain ⟨v, hv, h⟩ := hgr _ h
    have := hlt v hv
    omega
  · rw [hn]
    have : (rsEnd d fd s n o L c row fd.names).drop (n + 4) = rsT d n o L c s fd.names := by
      unfold rsEnd
      simp only [List.drop_succ_cons]
      rw [List.drop_append, List.drop_of_length_le (by rw [hX.len]; omega), hX.len, show n + 1 - n = 1 by omega]
      rfl
    rw [this]; rfl
  · unfold rsEnd
    simp [hX.len, hn]

noncomputable section
open Classical

def DS.small (d : DS) : Prop := d.ok 900000 1000000000000

def dcreS : Summ := objS dsD DS.blks fun d xs _ => match xs with
  | [.str k] => if d.small ∧ k.length ≤ 9223372036854775807 then some ((d.create k).1, .int .i64 (d.create k).2) else none
  | _ => none
theorem dcre_sound : Sound Try.prog 29 dcreS := by
  refine sound_obj (enter_of Try.func29 rfl (by decide)) (fun _ _ => dsD_eq) fun d xs H s' v b hg hb => ?_
  split at hg
  rotate_left
  · cases hg
  split at hg <;> cases hg
  rename_i hs
  exact ct_obj1 (ct_objD (create_ctD d hs.1 (by decide) _ hs.2) rfl) rfl rfl hb

def dremS : Summ := objS dsD DS.blks fun d xs _ => match xs with
  | [.str k] => if d.small then some ((d.remove k).1, .int .i64 (d.remove k).2) else none
  | _ => none
theorem drem_sound : Sound Try.prog 35 dremS := by
  refine sound_obj (enter_of Try.func35 rfl (by decide)) (fun _ _ => dsD_eq) fun d xs H s' v b hg hb => ?_
  split at hg
  rotate_left
  · cases hg
  split at hg <;> cases hg
  rename_i hs
  exact ct_obj1 (ct_objD (remove_ctD d hs (by decide) _) rfl) rfl rfl hb

def dsyncS : Summ := objS dsD DS.blks fun d xs _ => match xs with
  | [.str k] => if d.small then some ((d.sync k).1, .int .i64 (d.sync k).2) else none
  | _ => none
theorem dsync_sound : Sound Try.prog 31 dsyncS := by
  refine sound_obj (enter_of Try.func31 rfl (by decide)) (fun _ _ => dsD_eq) fun d xs H s' v b hg hb => ?_
  split at hg
  rotate_left
  · cases hg
  split at hg <;> cases hg
  rename_i hs
  exact ct_obj1 (ct_objD (sync_ctD d hs (by decide) _) rfl) rfl rfl hb

def dsyncDS : Summ := objS dsD DS.blks fun d xs _ => match xs with
  | [] => if d.small then some (d.syncDir.1, .int .i64 d.syncDir.2) else none
  | _ => none
theorem dsyncD_sound : Sound Try.prog 36 dsyncDS := by
  refine sound_obj (enter_of Try.func36 rfl (by decide)) (fun _ _ => dsD_eq) fun d xs H s' v b hg hb => ?_
  split at hg
  rotate_left
  · cases hg
  split at hg <;> cases hg
  rename_i hs
  exact ct_obj1 (ct_objD (syncDir_ctD d hs (by decide)) rfl) rfl rfl hb

def darmS : Summ := objS dsD DS.blks fun d xs _ => match xs with
  | [.int .i64 m] => some (d.arm m, .tuple [])
  | _ => none
theorem darm_sound : Sound Try.prog 26 darmS := by
  refine sound_obj (enter_of Try.func26 rfl (by decide)) (fun _ _ => dsD_eq) fun d xs H s' v b hg hb => ?_
  split at hg <;> cases hg
  exact ct_obj1 (ct_objD (arm_ctD d _) rfl) rfl rfl hb

def ddownS : Summ := objS dsD DS.blks fun d xs _ => match xs with
  | [] => some (d, .bool d.down)
  | _ => none
theorem ddown_sound : Sound Try.prog 28 ddownS := by
  refine sound_obj (enter_of Try.func28 rfl (by decide)) (fun _ _ => dsD_eq) fun d xs H s' v b hg hb => ?_
  split at hg <;> cases hg
  exact ct_obj1 (ct_objD (down_ctD d) rfl) rfl rfl hb

def dusedS : Summ := objS dsD DS.blks fun d xs _ => match xs with
  | [] => if d.small then some (d, .int .i64 d.used) else none
  | _ => none
theorem dused_sound : Sound Try.prog 33 dusedS := by
  refine sound_obj (enter_of Try.func33 rfl (by decide)) (fun _ _ => dsD_eq) fun d xs H s' v b hg hb => ?_
  split at hg
  rotate_left
  · cases hg
  split at hg <;> cases hg
  rename_i hs
  exact ct_obj1 (ct_objD (used_ct d hs (by decide) (by decide)) rfl) rfl rfl hb

end

end Go.Proofs.Ytjolihoakdifoaa

namespace Go.Proofs.Ytjolihoakdifoaa
open Go Go.Lib
set_option maxRecDepth 100000
attribute [-simp] drawOk_eq adraw qrun acode aops

theorem list_ctC (d : DS) (hsm : d.fd.small) : Ct Try.prog 32 [.ptr 0 0] [.obj true d.blks] (.sl 1 0 d.list.length 1 false) [.obj true d.blks, .cells true (d.list.map .str)] := by
  have h := list_ct d hsm
  rw [DS.heap_eq, DS.heap_eq, List.append_nil] at h
  refine ct_opened h (by simp [DS.blks]) (Aft.closeDS d [0] (by decide) rfl ?_ fun i t x h1 h2 => ?_)
  · simp [AW]
  · match i, h1, h2 with
    | 0, h1, h2 => cases h1; cases h2; exact ⟨_, rfl, id, (AWs_free (frees_map d.list AV.str fun _ => rfl)).2 trivial⟩
theorem files_ctC (d : DS) {A B : Nat} (hok : d.ok A B) (hA : A ≤ 1000000) : Ct Try.prog 38 [.ptr 0 0] [.obj true d.blks] (.sl 1 0 d.files.length 2 false) [.obj true d.blks, .cells true (flA d.files)] := by
  have h := files_ct d hok hA
  rw [DS.heap_eq, DS.heap_eq, List.append_nil] at h
  refine ct_opened h (by simp [DS.blks]) (Aft.closeDS d [0] (by decide) rfl ?_ fun i t x h1 h2 => ?_)
  · simp [AW]
  · match i, h1, h2 with
    | 0, h1, h2 => cases h1; cases h2; exact ⟨_, rfl, id, (AWs_free (frees_flA d.files)).2 trivial⟩

/-- A contract of an object that hands over a row. -/
theorem ct_objR {f : FuncId} {d : DS} {k sz : Nat} {l : List AV} (h : Ct Try.prog f [.ptr 0 0] [.obj true d.blks] (.sl 1 0 k sz false) [.obj true d.blks, .cells true l]) (hl : ∀ g, reAs g l = l) {H : AHeap} {b : Nat} (hb : H[b]? = some (.obj true d.blks)) :
    Ct Try.prog f [.ptr b 0] H (.sl H.length 0 k sz false) (H ++ [.cells true l]) := by
  have hbl : b < H.length := (List.getElem?_eq_some_iff.1 hb).1
  have := ct_frame (H := H) (args := [.ptr b 0]) h [b] (by simp) ⟨⟨rfl, rfl⟩, trivial⟩ ⟨by rw [List.getD_eq_getElem?_getD, hb]; exact ⟨rfl, rfl⟩, hbl, trivial⟩ rfl
  obtain ⟨h1, h2⟩ := List.getElem?_eq_some_iff.1 hb
  have hset : H.set b (.obj true d.blks) = H := by rw [← h2, List.set_getElem_self]
  simpa [setOwn, ABlk.own, reB, reA, nameG, hset, hl] using this

noncomputable section
open Classical

def dlistS : Summ := fun args H => match args with
  | [.ptr b 0] => match H[b]? with
    | some (.obj true sub) => match dsD sub with
      | some d => if d.small then some (.sl H.length 0 d.list.length 1 false, H ++ [.cells true (d.list.map .str)], []) else none
      | none => none
    | _ => none
  | _ => none
theorem dlist_sound : Sound Try.prog 32 dlistS := by
  refine ⟨enter_of Try.func32 rfl (by decide), fun args H v H' W hs => ?_, fun args H v H' W hs => ?_⟩ <;> (unfold dlistS at hs; split at hs <;> try cases hs) <;> (split at hs <;> try cases hs) <;> (rename_i b _ sub hb; split at hs <;> try cases hs) <;> (rename_i d hd; split at hs <;> cases hs; rename_i hk)
  · have e := dsD_eq hd
    subst e
    exact ct_objR (list_ctC d (DS.small_fd hk (by decide))) (fun g => reAs_flat g _ (by simp [flatsA, flatA])) hb
  · exact ⟨by simp, fun c hc _ => by rw [List.getElem?_append_left hc]⟩
def dfilesS : Summ := fun args H => match args with
  | [.ptr b 0] => match H[b]? with
    | some (.obj true sub) => match dsD sub with
      | some d => if d.small then some (.sl H.length 0 d.files.length 2 false, H ++ [.cells true (flA d.files)], []) else none
      | none => none
    | _ => none
  | _ => none
theorem flatsA_flA : ∀ l, flatsA (flA l) = true
  | [] => rfl
  | e :: l => by have := flatsA_flA l; simpa [flA, flatsA, flatA] using this
theorem dfiles_sound : Sound Try.prog 38 dfilesS := by
  refine ⟨enter_of Try.func38 rfl (by decide), fun args H v H' W hs => ?_, fun args H v H' W hs => ?_⟩ <;> (unfold dfilesS at hs; split at hs <;> try cases hs) <;> (split at hs <;> try cases hs) <;> (rename_i b _ sub hb; split at hs <;> try cases hs) <;> (rename_i d hd; split at hs <;> cases hs; rename_i hk)
  · have e := dsD_eq hd
    subst e
    exact ct_objR (files_ctC d hk (by decide)) (fun g => reAs_flat g _ (flatsA_flA _)) hb
  · exact ⟨by simp, fun c hc _ => by rw [List.getElem?_append_left hc]⟩

/-- Append of one text. -/
def dapp1S : Summ := fun args H => match args with
  | [.ptr b 0, .str k, .slice b2 off 1 1 _c] => match H[b]?, H[b2]? with
    | some (.obj true sub), some (.cells _ l) => match dsD sub, l[off]? with
      | some d, some (.str s) => if d.small ∧ d.quota ≤ 1000000000000 ∧ flatsA l = true ∧ s.length ≤ 9223372036854775807 then some (.int .i64 (d.append k s).2, H.set b (.obj true (d.append k s).1.blks), [b]) else none
      | _, _ => none
    | _, _ => none
  | _ => none
theorem dapp1_sound : Sound Try.prog 30 dapp1S := by
  have key : ∀ args H v H' W, dapp1S args H = some (v, H', W) → ∃ b B, W = [b] ∧ H' = H.set b B ∧ Ct Try.prog 30 args H v H' := by
    intro args H v H' W hs
    unfold dapp1S at hs
    split at hs
    rotate_left
    · cases hs
    rename_i b k b2 off c
    split at hs <;> try cases hs
    rename_i sub o l hb hb2
    split at hs <;> try cases hs
    rename_i d s hd hl
    split at hs <;> cases hs
    rename_i hc
    obtain ⟨h1, h2, h3, h4⟩ := hc
    have e := dsD_eq hd
    subst e
    refine ⟨b, _, rfl, rfl, ?_⟩
    have hbl : b < H.length := (List.getElem?_eq_some_iff.1 hb).1
    have hbl2 : b2 < H.length := (List.getElem?_eq_some_iff.1 hb2).1
    have hne : b ≠ b2 := by rintro rfl; rw [hb] at hb2; cases hb2
    have hct := append_ct d h1 (by decide) (by decide) h2 l h3 off 1 c k s h4 fun H2 q hq => join1_ct H2 q off c false l s [] hq hl
    have := ct_frame (H := H) (args := [.ptr b 0, .str k, .slice b2 off 1 1 c]) hct [b, b2] (by simp [hne]) ⟨⟨rfl, rfl⟩, rfl, ⟨rfl, rfl, rfl, rfl, fun h => h⟩, trivial⟩ ⟨by rw [List.getD_eq_getElem?_getD, hb]; exact ⟨rfl, rfl⟩, hbl, by rw [List.getD_eq_getElem?_getD, hb2]; exact ⟨by simp, AWs_flat l h3⟩, hbl2, trivial⟩ rfl
    simpa [setOwn, ABlk.own, reB, reA] using this
  refine ⟨enter_of Try.func30 rfl (by decide), fun args H v H' W hs => ?_, fun args H v H' W hs => ?_⟩
  · obtain ⟨b, B, _, _, h⟩ := key args H v H' W hs
    exact h
  · obtain ⟨b, B, rfl, rfl, _⟩ := key args H v H' W hs
    refine ⟨by simp, fun c hc hn => ?_⟩
    simp only [List.mem_singleton] at hn
    rw [List.getElem?_set_ne (Ne.symm hn)]
theorem dapp1_at {H : AHeap} {b b2 : Nat} {d : DS} {k s : List UInt8} {c o : Bool} (hb : H[b]? = some (.obj true d.blks)) (hb2 : H[b2]? = some (.cells o [.str s])) (hd : d.small) (hq : d.quota ≤ 1000000000000) (hs : s.length ≤ 9223372036854775807) :
    dapp1S [.ptr b 0, .str k, .slice b2 0 1 1 c] H = some (.int .i64 (d.append k s).2, H.set b (.obj true (d.append k s).1.blks), [b]) := by
  unfold dapp1S
  simp only [hb, hb2, dsD_blks, List.getElem?_cons_zero]
  rw [if_pos ⟨hd, hq, by simp [flatsA, flatA], hs⟩]

/-- Restart. -/
def rowArg : AV → Option (Nat × Nat × Bool)
  | .slice b 0 L 1 c => some (b, L, c)
  | .sl b 0 L 1 c => some (b, L, c)
  | _ => none
def drestS : Summ := fun args H => match args with
  | [.ptr b 0, x] => match rowArg x, H[b]? with
    | some (b2, L, _), some (.obj true sub) => match dsD sub, H[b2]? with
      | some d, some (.cells _ a) => match numsOf a with
        | some l => if d.small ∧ L ≤ l.length ∧ l.length ≤ 9223372036854775807 ∧ (∀ x ∈ l, 0 ≤ x ∧ x ≤ 65535) then some (.tuple [], H.set b (.obj true (d.restart (l.take L)).blks), [b]) else none
        | none => none
      | _, _ => none
    | _, _ => none
  | _ => none
theorem drest_sound : Sound Try.prog 39 drestS := by
  have key : ∀ args H v H' W, drestS args H = some (v, H', W) → ∃ b B, W = [b] ∧ H' = H.set b B ∧ Ct Try.prog 39 args H v H' := by
    intro args H v H' W hs
    unfold drestS at hs
    split at hs
    rotate_left
    · cases hs
    rename_i b x
    split at hs <;> try cases hs
    rename_i b2 L c sub hx hb
    split at hs <;> try cases hs
    rename_i d o a hd hb2
    split at hs <;> try cases hs
    rename_i l hl
    split at hs <;> cases hs
    rename_i hc
    obtain ⟨h1, h2, h3, h4⟩ := hc
    have e := dsD_eq hd
    subst e
    have e2 := numsOf_eq hl
    subst e2
    refine ⟨b, _, rfl, rfl, ?_⟩
    refine ct_obj2 (x := .sl 1 0 L 1 c) (xs := []) (restart_ct d h1 (by decide) (by decide) l h4 h3 L h2 c) rfl rfl (flatsA_num l) hb hb2 ?_
    unfold rowArg at hx
    split at hx <;> cases hx
    · exact ⟨rfl, rfl, rfl, rfl, fun h => h⟩
    · exact ⟨rfl, rfl, rfl, rfl, fun h => h⟩
  refine ⟨enter_of Try.func39 rfl (by decide), fun args H v H' W hs => ?_, fun args H v H' W hs => ?_⟩
  · obtain ⟨b, B, _, _, h⟩ := key args H v H' W hs
    exact h
  · obtain ⟨b, B, rfl, rfl, _⟩ := key args H v H' W hs
    refine ⟨by simp, fun c hc hn => ?_⟩
    simp only [List.mem_singleton] at hn
    rw [List.getElem?_set_ne (Ne.symm hn)]
theorem drest_at {H : AHeap} {b b2 L : Nat} {c o : Bool} {x : AV} {d : DS} {l : List Int} (hx : rowArg x = some (b2, L, c)) (hb : H[b]? = some (.obj true d.blks)) (hb2 : H[b2]? = some (.cells o (numA l))) (hd : d.small) (hL : L ≤ l.length) (hl : l.length ≤ 9223372036854775807) (hr : ∀ x ∈ l, 0 ≤ x ∧ x ≤ 65535) :
    drestS [.ptr b 0, x] H = some (.tuple [], H.set b (.obj true (d.restart (l.take L)).blks), [b]) := by
  unfold drestS
  simp only [hx, hb, hb2, dsD_blks, numsOf_at]
  rw [if_pos ⟨hd, hL, hl, hr⟩]

end

end Go.Proofs.Ytjolihoakdifoaa

