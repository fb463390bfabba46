/- A disk's Restart: the numbers, one by one; the files that are there. -/
import Derived.Test.YtjolihoakdifoaaJbd
namespace Go.Proofs.Ytjolihoakdifoaa
open Go Go.Lib
set_option maxRecDepth 100000
attribute [-simp] drawOk_eq adraw qrun acode aops

/-- Numbers as cells. -/
def numA (l : List Int) : List AV := l.map (.int .u16)
@[simp] theorem numA_length (l : List Int) : (numA l).length = l.length := by simp [numA]
@[simp] theorem frees_numA : ∀ l, frees (numA l) = true
  | [] => rfl
  | _ :: l => by have := frees_numA l; simpa [numA, free] using this

/-- The next number of those that are left (n, from place o on), and what is left then. -/
def nxt (l : List Int) (o n : Nat) : Int := ((l.drop o).take n).headD 0
def nxO (o n : Nat) : Nat := o + min 1 n
def nxN (n : Nat) : Nat := n - 1
def nxOk (l : List Int) (o n : Nat) : Prop := o + n ≤ l.length ∧ l.length ≤ 9223372036854775807 ∧ ∀ x ∈ l, 0 ≤ x ∧ x ≤ 65535

set_option maxHeartbeats 4000000 in
/-- The next number. -/
theorem next_ct (H : AHeap) (c b o n : Nat) (w cl : Bool) (l : List Int) (hok : nxOk l o n) (hc : H[c]? = some (.cells true [.sl b o n 1 cl])) (hb : H[b]? = some (.cells w (numA l))) :
    Ct Try.prog 100 [.ptr c 0] H (.int .i64 (nxt l o n)) (H.set c (.cells true [.sl b (nxO o n) (nxN n) 1 cl])) := by
  obtain ⟨ho, hl, hr⟩ := hok
  have hcl : c < H.length := (List.getElem?_eq_some_iff.1 hc).1
  refine ct_of_simE Try.func100 rfl ?_
  simp only [Try.ntmps100, List.length_cons, List.length_nil, Nat.reduceAdd, Nat.reduceSub, List.replicate, List.cons_append, List.nil_append]
  refine Sim.step hmix goks_nil (n := 0) (by simp; exact ⟨rfl, rfl⟩) (by simp) ?_
  by_cases h : 0 < n
  · have hol : o < l.length := by omega
    obtain ⟨x, hx⟩ : ∃ x, l[o] = x := ⟨_, rfl⟩
    have hxr := hr x (by rw [← hx]; exact List.getElem_mem hol)
    have hd : nxt l o n = x := by
      unfold nxt
      obtain ⟨m, rfl⟩ : ∃ m, n = m + 1 := ⟨n - 1, by omega⟩
      rw [List.drop_eq_getElem_cons hol, hx]; rfl
    have hat : ∀ q, (numA l)[o]'q = .int .u16 x := fun q => by simp [numA, hx]
    have hlt : o < (numA l).length := by simpa using hol
    have hw : IntKind.i64.wrap x = x := wr_i64 (by omega) (by omega)
    have p1 : (0 : Int) < (n : Int) := by omega
    have p3 : 1 ≤ n := by omega
    have p4 : (1 : Int) ≤ (n : Int) := by omega
    have e1 : nxO o n = o + 1 := by unfold nxO; omega
    have e2 : nxN n = n - 1 := rfl
    rw [hd, e1, e2]
    refine Sim.seq (Sim.step hmix goks_nil (n := 0) (by simp [hc, h]; exact ⟨rfl, rfl⟩) (by simp) (Sim.cond (t := true) (by simp) ?_))
    rw [if_pos rfl]
    refine Sim.draw hmix (by simp) ?_
    refine SimR.many goks_nil 7 (by simp [stageOps]; rfl) (by omega) (by kernel_rfl) (by simp (decide := true) [hc, hb, hat, hol, h, hw, p4]; first | exact ⟨rfl, rfl⟩ | exact ⟨by kernel_rfl, rfl, rfl⟩) ?_
    refine SimR.one goks_nil _ rfl (by kernel_rfl) (by simp (decide := true) [hc]; exact ⟨rfl, rfl⟩) ?_
    refine SimR.done rfl ?_
    dsimp only
    refine Sim.exec hmix goks_nil (n := 0) (by simp; exact ⟨rfl, rfl, rfl⟩) (by simp) ?_
    exact ⟨.inr rfl, by simp [Try.f100], rfl⟩
  · have e : n = 0 := by omega
    subst e
    have hd : nxt l o 0 = 0 := by unfold nxt; rw [List.take_zero]; rfl
    have hset : H.set c (.cells true [.sl b (nxO o 0) (nxN 0) 1 cl]) = H := by
      show H.set c (.cells true [.sl b o 0 1 cl]) = H
      obtain ⟨h1, h2⟩ := List.getElem?_eq_some_iff.1 hc
      rw [← h2, List.set_getElem_self]
    rw [hd, hset]
    refine Sim.step hmix goks_nil (n := 0) (by simp [hc]; exact ⟨rfl, rfl⟩) (by simp) ?_
    refine Sim.exec hmix goks_nil (n := 0) (by simp; exact ⟨rfl, rfl, rfl⟩) (by simp) ?_
    exact ⟨.inr rfl, by simp [Try.f100], rfl⟩

def numsOf : List AV → Option (List Int)
  | [] => some []
  | .int .u16 n :: l => (numsOf l).map (n :: ·)
  | _ => none
theorem numsOf_at : ∀ l : List Int, numsOf (numA l) = some l
  | [] => rfl
  | x :: l => by
    have := numsOf_at l
    simp only [numA, List.map_cons, numsOf] at this ⊢
    rw [this]; rfl
theorem numsOf_eq : ∀ {a : List AV} {l : List Int}, numsOf a = some l → a = numA l
  | [], _, h => by cases h; rfl
  | x :: a, l, h => by
    unfold numsOf at h
    split at h
    · rename_i h0; cases h0
    · rename_i n a' e
      cases e
      obtain ⟨l', h1, rfl⟩ := Option.map_eq_some_iff.1 h
      rw [numsOf_eq h1]; rfl
    · cases h

/-- The next number, wherever the box lies. -/
noncomputable def nextS : Summ := open Classical in fun args H => match args with
  | [.ptr c 0] => match H[c]? with
    | some (.cells true [.sl b o n 1 cl]) => match H[b]? with
      | some (.cells _ a) => match numsOf a with
        | some l => if nxOk l o n then some (.int .i64 (nxt l o n), H.set c (.cells true [.sl b (nxO o n) (nxN n) 1 cl]), [c]) else none
        | none => none
      | _ => none
    | _ => none
  | _ => none
theorem next_sound : Sound Try.prog 100 nextS := by
  refine ⟨enter_of Try.func100 rfl (by decide), fun args H v H' W hs => ?_, fun args H v H' W hs => ?_⟩ <;> (unfold nextS at hs; split at hs <;> try cases hs) <;> (split at hs <;> try cases hs) <;> (rename_i c _ b o n cl hc; split at hs <;> try cases hs) <;> (rename_i w a hb; split at hs <;> try cases hs) <;> (rename_i l hl; split at hs <;> cases hs; rename_i hk)
  · have e := numsOf_eq hl
    subst e
    exact next_ct H c b o n w cl l hk hc hb
  · refine ⟨by simp, fun d hd hn => ?_⟩
    simp only [List.mem_singleton] at hn
    rw [List.getElem?_set_ne (Ne.symm hn)]

/-! The map of those that are there -/

def thM (g : Int → Nat) (th : List Int) : List (AV × AV) := th.map fun n => (.int .i64 n, .ptr (g n) 0)
theorem find_th (g : Int → Nat) (v : Int) : ∀ (th : List Int) (i : Nat), findA (thM g th) (.int .i64 v) i = some (if v ∈ th then some (i + th.idxOf v, .ptr (g v) 0) else none)
  | [], i => by simp [thM, findA]
  | a :: th, i => by
    have ih := find_th g v th (i + 1)
    simp only [thM] at ih
    by_cases h : a = v
    · subst h
      simp [thM, findA, primEq]
    · have h2 : (v == a) = false := by simpa using (fun q => h q.symm)
      have h3 : (a == v) = false := by simpa using h
      simp only [thM, List.map_cons, findA, primEq, h2, ih, List.mem_cons, Ne.symm h, false_or]
      rw [List.idxOf_cons, h3]
      by_cases hm : v ∈ th <;> simp [hm]
      omega
theorem th_set (g : Int → Nat) {v : Int} {th : List Int} (h : v ∈ th) : (thM g th).set (th.idxOf v) (.int .i64 v, .ptr (g v) 0) = thM g th := by
  have hl : th.idxOf v < th.length := List.idxOf_lt_length_of_mem h
  have e : (thM g th)[th.idxOf v]'(by simpa [thM] using hl) = (.int .i64 v, .ptr (g v) 0) := by
    simp [thM, List.getElem_idxOf hl]
  rw [← e, List.set_getElem_self]
theorem fileM_keys (g : Nat → Nat) : ∀ (k : Nat) {l m : FS}, FS.keys l = FS.keys m → fileM g k l = fileM g k m
  | _, [], [], _ => rfl
  | _, [], _ :: _, h => by simp [FS.keys] at h
  | _, _ :: _, [], h => by simp [FS.keys] at h
  | k, (a, _) :: l, (b, _) :: m, h => by
    simp only [FS.keys, List.map_cons, List.cons.injEq] at h
    simp only [fileM, h.1, fileM_keys g (k + 1) (l := l) (m := m) h.2]
theorem FS.at_keys {l m : FS} (h : FS.keys l = FS.keys m) (n : Int) : FS.at l n = FS.at m n := by unfold FS.at; rw [h]

end Go.Proofs.Ytjolihoakdifoaa
