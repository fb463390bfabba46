/- XJf: What is read of a disk: Files.
XJg: What is read of a disk: Used. -/
import Derived.Test.YtjolihoakdifoaaJba
namespace Go.Proofs.Ytjolihoakdifoaa
open Go Go.Lib
set_option maxRecDepth 100000
attribute [-simp] drawOk_eq adraw qrun acode aops

/-- Files, as cells. -/
def flA : List (List UInt8 × List UInt8) → List AV
  | [] => []
  | e :: l => .str e.1 :: .str e.2 :: flA l
@[simp] theorem flA_length : ∀ l, (flA l).length = l.length * 2
  | [] => rfl
  | e :: l => by simp [flA, flA_length l]; omega
theorem flA_append : ∀ l m, flA (l ++ m) = flA l ++ flA m
  | [], m => rfl
  | e :: l, m => by simp [flA, flA_append l m]
@[simp] theorem frees_flA : ∀ l, frees (flA l) = true
  | [] => rfl
  | e :: l => by simp [flA, frees_flA l]
theorem flA_get : ∀ (l : List (List UInt8 × List UInt8)) (k : Nat) (h : k < l.length), ((flA l).drop (k * 2)).take 2 = [.str l[k].1, .str l[k].2]
  | a :: l, 0, _ => by simp [flA]
  | a :: l, k + 1, h => by
    have := flA_get l k (by simpa using h)
    rw [show (k + 1) * 2 = 2 + k * 2 by omega]
    simp only [flA, List.getElem_cons_succ]
    rw [← List.drop_drop]
    simpa using this

def rdInlD : List FuncId := [79]
noncomputable def fsΓ0 (d : DS) : Gam := gams [(32, oneAt [.ptr 0 0] (d.heap []) (.sl (d.fs.length + 3) 0 d.list.length 1 false) (d.heap [.cells true (d.list.map .str)])), (22, ffindS), (55, fbytesS)]
theorem fsΓ_ok (d : DS) (hsm : d.fd.small) : GOk Try.prog (runG Try.prog (fsΓ0 d) 0 rdInlD 2) := gok_run hmix (goks_cons (oneAt_sound (enter_of Try.func32 rfl (by decide)) (list_ct d hsm) (by simp [DS.heap])) (goks_cons ffind_sound (goks_cons fbytes_sound goks_nil))) 0 rdInlD 2

set_option maxHeartbeats 16000000 in
theorem files_ct (d : DS) {A B : Nat} (hok : d.ok A B) (hA : A ≤ 1000000) : Ct Try.prog 38 [.ptr 0 0] (d.heap []) (.sl (d.fs.length + 3) 0 d.files.length 2 false) (d.heap [.cells true (flA d.files)]) := by
  have hsm : d.fd.small := FD.ok_mono hok.fd hA
  have hΓ := fsΓ_ok d hsm
  have hlen := d.heap_length []
  obtain ⟨n, hn⟩ : ∃ n, d.fs.length = n := ⟨_, rfl⟩
  have hX := behind d.fs
  have tl := fun {T Tn F Fn} => DS.tail d (T := T) (Tn := Tn) (F := F) (Fn := Fn)
  rw [hn] at hlen hX tl
  refine ct_of_sim Try.func38 rfl ?_
  simp only [Try.ntmps38, List.length_cons, List.length_nil, Nat.reduceAdd, Nat.reduceSub, List.replicate, List.cons_append, List.nil_append]
  rw [hlen, hn]
  have hfl : d.files.length = d.list.length := by simp [DS.files]
  obtain ⟨ks, hks⟩ : ∃ ks, d.list = ks := ⟨_, rfl⟩
  obtain ⟨m, hm⟩ : ∃ m, ks.length = m := ⟨_, rfl⟩
  have hm6 : m ≤ 1000000 := by
    rw [← hm, ← hks]
    unfold DS.list
    split
    · simp
    · have h1 := (FD.ok_now hsm).2
      unfold FD.names
      rw [(sortU_perm _).length_eq]
      simpa [NM.keys] using h1
  have hdn : 0 < m → d.down = false := fun h => by
    cases hd : d.down with
    | false => rfl
    | true => unfold DS.list at hks; rw [hd] at hks; rw [← hks] at hm; simp at hm; omega
  rw [hfl, hks, hm]
  simp only [List.length_nil, Nat.add_zero] at hlen ⊢
  have fks : ∀ rn : List Nat, AWs rn (ks.map AV.str) (ks.map AV.str) := fun rn => (AWs_free (frees_map ks AV.str fun _ => rfl)).2 trivial
  refine Sim.step hmix hΓ (n := 0) (by simp; exact ⟨rfl, rfl⟩) (by simp [DS.heap, hn]) ?_
  refine Sim.seq (Sim.mono (Q := fun e F' H' => e = .normal ∧ Weak (n + 3) F' H' ([.ptr 0 0, .top, .sl (n + 4) 0 m 2 false] ++ List.replicate 26 .top) (d.heap [.cells true (ks.map .str), .cells true (flA d.files)])) (Sim.step hmix hΓ (n := 0) (by simp [rdInlD, fsΓ0, hks, hm, hn]; exact ⟨rfl, rfl⟩) (by simp [DS.heap, hn]) ?_) ?_)
  · refine Sim.block (Sim.loopW (fun i : Nat => i ≤ m)
      (fun i => [.ptr 0 0, .top, .sl (n + 4) 0 i 2 false, .top, .top, .top, .top, .top, .sl (n + 3) 0 m 1 false, .int .i64 m, .int .i64 i] ++ List.replicate 18 .top)
      (fun i => d.heap [.cells true (ks.map .str), .cells true (flA (d.files.take i))]) (fun i => m - i) 0 (by simp [DS.heap, hn]) (by simp) ?_ fun i hi => ?_)
    · refine tl (T := [.cells true (ks.map .str)]) [0, 100] (by decide) ?_ rfl ?_
      · simp [AW]
      · intro j t x y h1 h2 h3
        match j, h1, h2 with
        | 0, h1, h2 => cases h1; cases h2; cases h3; exact ⟨id, fks _⟩
        | 1, h1, h2 => cases h1; cases h3
    · by_cases hlt : i < m
      · have hltI : (i : Int) < m := by omega
        have hilt : i < ks.length := by omega
        obtain ⟨k, hk⟩ : ∃ k, ks[i] = k := ⟨_, rfl⟩
        have hg : ∀ h, ks[i]'h = k := fun h => hk
        have hd := hdn (by omega)
        have hmem : k ∈ d.fd.names := by
          rw [← hk]
          have : ks = d.fd.names := by rw [← hks]; unfold DS.list; rw [hd]; rfl
          rw [← this]; exact List.getElem_mem hilt
        obtain ⟨v, hv⟩ := FD.names_get hmem
        obtain ⟨f, hf, hfok⟩ := DS.has_file hok hv
        have hfind := FD.find_get hv
        have hlook := find_files (fun i => i + 3) v 0 d.fs 0
        rw [hf] at hlook
        simp only [Option.map_some, Nat.zero_add] at hlook
        have hfb := filesB_get (FS.at_get hf)
        have hal := FS.at_lt hf
        obtain ⟨q, hq⟩ : ∃ q, FS.at d.fs v = q := ⟨_, rfl⟩
        rw [hq] at hlook hfb hal
        rw [hn] at hal
        dsimp only at hfb
        have htext : d.text k = f.now := by unfold DS.text DS.file; rw [hv]; dsimp only; rw [hf]
        have hnx : d.files.take (i + 1) = d.files.take i ++ [(k, f.now)] := by
          rw [List.take_add_one]
          congr 1
          unfold DS.files
          rw [hks, List.getElem?_map, List.getElem?_eq_getElem hilt, hk]
          simp [htext]
        obtain ⟨acc, hacc⟩ : ∃ acc, d.files.take i = acc := ⟨_, rfl⟩
        have hal2 : acc.length = i := by rw [← hacc, List.length_take, hfl, hks, hm]; omega
        rw [hacc] at hnx ⊢
        have hXl := hX.len
        have hXg := hX.get
        have hXg0 := hX.get0
        unfold DS.heap DS.cell0
        obtain ⟨X, eX⟩ : ∃ X, filesB d.fs = X := ⟨_, rfl⟩
        rw [eX] at hfb hXl hXg hXg0 ⊢
        have hXq : ∀ T, (X ++ T)[q]? = some (.obj true f.blks) := fun T => by rw [List.getElem?_append_left (by omega)]; exact hfb
        have hXsq : ∀ T, (X ++ T).set q (.obj true f.blks) = X ++ T := fun T => by
          have hql : q < (X ++ T).length := by simp; omega
          have h1 : (X ++ T)[q]'hql = .obj true f.blks := by have := hXq T; rw [List.getElem?_eq_getElem hql] at this; exact Option.some.inj this
          rw [← h1, List.set_getElem_self]
        have hXs := hX.set
        have hXs0 := hX.set0
        rw [eX] at hXs hXs0
        have y1 : IntKind.i64.wrap ((i : Int) + 1) = i + 1 := wr_i64 (by omega) (by omega)
        have b1 : (i + 1) * 32 ≤ 140737488355328 := by omega
        have b2 : i + 1 ≤ 9223372036854775807 := by omega
        have htk : List.take (i * 2) (flA acc) = flA acc := List.take_of_length_le (by simp [hal2])
        rw [hd]
        refine Sim.step hmix hΓ (n := 0) (by simp [hltI]; exact ⟨rfl, rfl⟩) (by simp [hXl]) ?_
        refine Sim.step hmix hΓ (n := 0) (by simp; exact ⟨rfl, rfl⟩) (by simp [hXl]) ?_
        refine Sim.seq (Sim.block ?_)
        refine Sim.step hmix hΓ (n := 0) (by simp [hlt, hXl, hm, hg]; exact ⟨rfl, rfl⟩) (by simp [hXl]) ?_
        refine Sim.step hmix hΓ (n := 0) (by simp [rdInlD, fsΓ0, ffindS, hfind, hlook, Try.f79]; exact ⟨rfl, rfl⟩) (by simp [hXl]) ?_
        refine Sim.exec hmix hΓ (n := 0) (by simp [rdInlD, fsΓ0, fbytesS, hXq, hXsq, hXs, hXl, hal2, htk, b1, b2]; exact ⟨rfl, rfl, rfl⟩) (by simp [hXl]) ?_
        dsimp only
        refine Sim.exec hmix hΓ (n := 0) (by simp [y1]; exact ⟨rfl, rfl, rfl⟩) (by simp [hXl]) ?_
        dsimp only
        refine ⟨i + 1, by omega, ?_, by omega⟩
        rw [hnx, flA_append]
        have tlx := fun {T Tn F Fn} => tl (T := T) (Tn := Tn) (F := F) (Fn := Fn) [0, 3] (by decide)
        unfold DS.heap DS.cell0 at tlx
        rw [eX, hd] at tlx
        refine tlx ?_ rfl fun j t x y h1 h2 h3 => ?_
        · simp [AW]
        · match j, h1, h2 with
          | 0, h1, h2 => cases h1; cases h2; cases h3; exact ⟨id, fks _⟩
          | 1, h1, h2 => cases h1; cases h2; cases h3; simp [AWb, flA]
      · have hin : i = m := by omega
        subst hin
        have hltI : ¬ (i : Int) < i := by omega
        refine Sim.exec hmix hΓ (n := 0) (by simp; exact ⟨rfl, rfl, rfl⟩) (by simp [DS.heap, hn]) ?_
        dsimp only
        rw [if_pos rfl]
        refine ⟨by trivial, ?_⟩
        have hall : d.files.take i = d.files := List.take_of_length_le (by rw [hfl, hks, hm]; exact Nat.le_refl _)
        rw [hall]
        refine tl [0, 1] (by decide) ?_ rfl fun j t x y h1 h2 h3 => ?_
        · simp [AW]
        · match j, h1, h2 with
          | 0, h1, h2 => cases h1; cases h2; cases h3; exact ⟨id, fks _⟩
          | 1, h1, h2 => cases h1; cases h2; cases h3; simp [AWb]
  rintro e F' H' hlen1 ⟨rfl, hwk⟩
  dsimp only
  refine Sim.weak hwk hlen1 ?_
  clear hwk hlen1
  simp only [List.cons_append, List.nil_append, List.replicate]
  refine Sim.exec hmix hΓ (n := 0) (by simp; exact ⟨rfl, rfl, rfl⟩) (by simp [DS.heap, hn]) ?_
  refine ⟨.inr rfl, _, by simp [Try.f38] <;> rfl, ?_⟩
  refine tl [1] (by decide) ?_ rfl fun j t x y h1 h2 h3 => ?_
  · simp [AW]
  · match j, h1, h2 with
    | 0, h1, h2 => cases h1; cases h2; cases h3; simp [AWb]

end Go.Proofs.Ytjolihoakdifoaa

namespace Go.Proofs.Ytjolihoakdifoaa
open Go Go.Lib
set_option maxRecDepth 100000
attribute [-simp] drawOk_eq adraw qrun acode aops

def sumL (l : List (List UInt8 × List UInt8)) : Nat := (l.map fun e => e.2.length).sum
theorem sumL_snoc (l : List (List UInt8 × List UInt8)) (e : List UInt8 × List UInt8) : sumL (l ++ [e]) = sumL l + e.2.length := by simp [sumL]
theorem DS.used_sum (d : DS) : d.used = sumL d.files := by simp [DS.used, sumL, DS.files, Function.comp_def]
theorem DS.text_le {d : DS} {A B : Nat} (h : d.ok A B) (k : List UInt8) : (d.text k).length ≤ B := by
  unfold DS.text DS.file
  cases hg : d.fd.now.get k with
  | none => simp
  | some n =>
    obtain ⟨f, hf, hk⟩ := DS.has_file h hg
    dsimp only
    rw [hf]
    exact PF.ok_now hk
theorem DS.list_le {d : DS} {A B : Nat} (h : d.ok A B) : d.list.length ≤ A := by
  unfold DS.list
  split
  · simp
  · have h1 := (FD.ok_now h.fd).2
    unfold FD.names
    rw [(sortU_perm _).length_eq]
    simpa [NM.keys] using h1
theorem sumL_le {B : Nat} : ∀ (l : List (List UInt8 × List UInt8)), (∀ e ∈ l, e.2.length ≤ B) → sumL l ≤ l.length * B
  | [], _ => by simp [sumL]
  | e :: l, h => by
    have h1 := h e (List.mem_cons_self ..)
    have h2 := sumL_le l fun x hx => h x (List.mem_cons_of_mem _ hx)
    simp only [sumL, List.map_cons, List.sum_cons, List.length_cons, Nat.succ_mul] at h2 ⊢
    omega
theorem DS.sum_le {d : DS} {A B : Nat} (h : d.ok A B) (hA : A ≤ 1000000) (hB : B ≤ 1000000000000) (i : Nat) : sumL (d.files.take i) ≤ 1000000000000000000 := by
  have h1 := sumL_le (B := B) (d.files.take i) fun e he => by
    obtain ⟨k, _, rfl⟩ := List.mem_map.1 (List.mem_of_mem_take he)
    exact DS.text_le h k
  have h2 : (d.files.take i).length ≤ 1000000 := by
    have := DS.list_le h
    simp [DS.files]; omega
  have h3 := Nat.mul_le_mul h2 hB
  omega

noncomputable def usΓ (d : DS) : Gam := gams [(38, oneAt [.ptr 0 0] (d.heap []) (.sl (d.fs.length + 3) 0 d.files.length 2 false) (d.heap [.cells true (flA d.files)]))]
theorem usΓ_ok (d : DS) {A B : Nat} (hok : d.ok A B) (hA : A ≤ 1000000) : GOk Try.prog (usΓ d) := goks_cons (oneAt_sound (enter_of Try.func38 rfl (by decide)) (files_ct d hok hA) (by simp [DS.heap])) goks_nil

set_option maxHeartbeats 16000000 in
theorem used_ct (d : DS) {A B : Nat} (hok : d.ok A B) (hA : A ≤ 1000000) (hB : B ≤ 1000000000000) : Ct Try.prog 33 [.ptr 0 0] (d.heap []) (.int .i64 d.used) (d.heap []) := by
  have hΓ := usΓ_ok d hok hA
  have hlen := d.heap_length []
  have hsum := DS.sum_le hok hA hB
  rw [DS.used_sum]
  obtain ⟨n, hn⟩ : ∃ n, d.fs.length = n := ⟨_, rfl⟩
  have hX := behind d.fs
  have tl := fun {T Tn F Fn} => DS.tail d (T := T) (Tn := Tn) (F := F) (Fn := Fn)
  rw [hn] at hlen hX tl
  refine ct_of_sim Try.func33 rfl ?_
  simp only [Try.ntmps33, List.length_cons, List.length_nil, Nat.reduceAdd, Nat.reduceSub, List.replicate, List.cons_append, List.nil_append]
  rw [hlen]
  obtain ⟨l, hl⟩ : ∃ l, d.files = l := ⟨_, rfl⟩
  obtain ⟨m, hm⟩ : ∃ m, l.length = m := ⟨_, rfl⟩
  rw [hl] at hsum ⊢
  have hm6 : m ≤ 1000000 := by
    have := DS.list_le hok
    rw [← hm, ← hl]; simp [DS.files]; omega
  simp only [List.length_nil, Nat.add_zero] at hlen ⊢
  refine Sim.step hmix hΓ (n := 0) (by simp; exact ⟨rfl, rfl⟩) (by simp [DS.heap, hn]) ?_
  refine Sim.seq (Sim.mono (Q := fun e F' H' => e = .normal ∧ Weak (n + 3) F' H' ([.ptr 0 0, .top, .int .i64 (sumL l)] ++ List.replicate 16 .top) (d.heap [])) (Sim.step hmix hΓ (n := 0) (by simp [usΓ, hl, hm, hn]; exact ⟨rfl, rfl⟩) (by simp [DS.heap, hn]) ?_) ?_)
  · refine Sim.block (Sim.loopW (fun i : Nat => i ≤ m)
      (fun i => [.ptr 0 0, .top, .int .i64 (sumL (l.take i)), .top, .top, .top, .sl (n + 3) 0 m 2 false, .int .i64 m, .int .i64 i] ++ List.replicate 10 .top)
      (fun i => d.heap [.cells true (flA l)]) (fun i => m - i) 0 (by simp [DS.heap, hn]) (by simp) ?_ fun i hi => ?_)
    · refine tl [0] (by decide) ?_ rfl ?_
      · simp [AW, sumL]
      · intro j t x y h1 h2 h3
        match j, h1, h2 with
        | 0, h1, h2 => cases h1; cases h2; cases h3; simp [AWb]
    · by_cases hlt : i < m
      · have hltI : (i : Int) < m := by omega
        have hilt : i < l.length := by omega
        obtain ⟨e, he⟩ : ∃ e, l[i] = e := ⟨_, rfl⟩
        have hg := flA_get l i hilt
        rw [he] at hg
        have hnx : l.take (i + 1) = l.take i ++ [e] := by rw [List.take_add_one, List.getElem?_eq_getElem hilt, he]; rfl
        have hs := hsum (i + 1)
        rw [hnx, sumL_snoc] at hs
        have hXl := hX.len
        have hXg := hX.get
        have hXg0 := hX.get0
        have hXs := hX.set
        have hXs0 := hX.set0
        have k1 : i * 2 + 2 ≤ m * 2 := by omega
        have y1 : IntKind.i64.wrap ((i : Int) + 1) = i + 1 := wr_i64 (by omega) (by omega)
        obtain ⟨s, hs0⟩ : ∃ s, sumL (l.take i) = s := ⟨_, rfl⟩
        rw [hs0] at hs ⊢
        have y2 : IntKind.i64.wrap ((s : Int) + e.2.length) = s + e.2.length := wr_i64 (by omega) (by omega)
        unfold DS.heap DS.cell0
        obtain ⟨X, eX⟩ : ∃ X, filesB d.fs = X := ⟨_, rfl⟩
        rw [eX] at hXl hXg hXg0 hXs hXs0 ⊢
        refine Sim.step hmix hΓ (n := 0) (by simp [hltI]; exact ⟨rfl, rfl⟩) (by simp [hXl]) ?_
        refine Sim.step hmix hΓ (n := 0) (by simp; exact ⟨rfl, rfl⟩) (by simp [hXl]) ?_
        refine Sim.seq (Sim.block ?_)
        refine Sim.step hmix hΓ (n := 0) (by simp (decide := true) [hlt, hXl, hm, hg, k1]; exact ⟨rfl, rfl⟩) (by simp [hXl]) ?_
        refine Sim.exec hmix hΓ (n := 0) (by simp [hXl, y2]; exact ⟨rfl, rfl, rfl⟩) (by simp [hXl]) ?_
        dsimp only
        refine Sim.exec hmix hΓ (n := 0) (by simp [y1]; exact ⟨rfl, rfl, rfl⟩) (by simp [hXl]) ?_
        dsimp only
        refine ⟨i + 1, by omega, ?_, by omega⟩
        rw [hnx, sumL_snoc, hs0]
        have tlx := fun {T Tn F Fn} => tl (T := T) (Tn := Tn) (F := F) (Fn := Fn) [0] (by decide)
        unfold DS.heap DS.cell0 at tlx
        rw [eX] at tlx
        refine tlx ?_ rfl fun j t x y h1 h2 h3 => ?_
        · simp [AW]
        · match j, h1, h2 with
          | 0, h1, h2 => cases h1; cases h2; cases h3; simp [AWb]
      · have hin : i = m := by omega
        subst hin
        refine Sim.exec hmix hΓ (n := 0) (by simp; exact ⟨rfl, rfl, rfl⟩) (by simp [DS.heap, hn]) ?_
        dsimp only
        rw [if_pos rfl]
        refine ⟨by trivial, ?_⟩
        rw [List.take_of_length_le (by omega)]
        refine tl [] (by decide) ?_ rfl fun j t x y h1 h2 h3 => by simp at h1
        simp [AW]
  rintro e F' H' hlen1 ⟨rfl, hwk⟩
  dsimp only
  refine Sim.weak hwk hlen1 ?_
  clear hwk hlen1
  simp only [List.cons_append, List.nil_append, List.replicate]
  refine Sim.exec hmix hΓ (n := 0) (by simp; exact ⟨rfl, rfl, rfl⟩) (by simp [DS.heap, hn]) ?_
  refine ⟨.inr rfl, _, by simp [Try.f33] <;> rfl, ?_⟩
  refine tl [] (by decide) ?_ rfl fun j t x y h1 h2 h3 => by simp at h1
  simp

end Go.Proofs.Ytjolihoakdifoaa

