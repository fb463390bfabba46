/- Contracts of rows of entries: Same, Find, Live, Check, and the document's ones. -/
import Derived.Test.YtndkhkponamplaaEy
import Derived.Test.YtndkhkponamplaaEx
namespace Go.Proofs.Ytndkhkponamplaa
open Go
set_option maxRecDepth 100000
attribute [-simp] drawOk_eq adraw qrun acode aops

theorem en_beq (x y : En) : (x.1 == y.1 && (x.2.1 == y.2.1 && (x.2.2 == y.2.2 && true))) = decide (x = y) := by
  obtain ⟨a, b, c⟩ := x
  obtain ⟨a', b', c'⟩ := y
  rw [Bool.eq_iff_iff]
  simp

set_option maxHeartbeats 8000000 in
theorem same_ct (a b : List En) (ha : a.length ≤ 1000000000000) :
    Ct Try.prog 23 [.sl 0 0 a.length 3 false, .sl 1 0 b.length 3 false] [.cells false (ensA a), .cells false (ensA b)] (.bool (decide (a = b))) [.cells false (ensA a), .cells false (ensA b)] := by
  refine ct_of_sim Try.func23 rfl ?_
  simp only [Try.ntmps23, List.length_cons, List.length_nil, Nat.reduceAdd, Nat.reduceSub, List.replicate, List.cons_append, List.nil_append]
  refine Sim.step hmix goks_nil (n := 0) (by simp; exact ⟨rfl, rfl⟩) (by simp) ?_
  by_cases hl : a.length = b.length
  rotate_left
  · have e : decide (a = b) = false := by simp; rintro rfl; exact hl rfl
    rw [e]
    have hl3 : ((a.length : Int) != (b.length : Int)) = true := by simp; omega
    refine Sim.exec hmix goks_nil (n := 0) (by simp [hl3]; exact ⟨rfl, rfl, rfl⟩) (by simp) ?_
    exact ⟨.inr rfl, _, by simp; rfl, Weak.mk' [0, 1] (by decide) (by decide) (by simp) (by simp)⟩
  refine Sim.step hmix goks_nil (n := 0) (by simp [hl]; exact ⟨rfl, rfl⟩) (by simp) ?_
  refine Sim.seq (Sim.step hmix goks_nil (n := 0) (by simp; exact ⟨rfl, rfl⟩) (by simp) ?_)
  refine Sim.block (Sim.loopW (fun k : Nat => k ≤ a.length ∧ a.take k = b.take k)
    (fun k => [.sl 0 0 a.length 3 false, .sl 1 0 b.length 3 false, .top, .top, .bool false, .int .i64 k] ++ List.replicate 20 .top)
    (fun _ => [.cells false (ensA a), .cells false (ensA b)]) (fun k => a.length - k) 0 (by simp) (by simp) (Weak.mk' [0, 1] (by decide) (by decide) (by simp [hl]) (by simp)) fun k hk => ?_)
  obtain ⟨hk, hak⟩ := hk
  by_cases hlt : k < a.length
  · have hltb : k < b.length := by omega
    have hlti : (k : Int) < a.length := by omega
    have hw : IntKind.i64.wrap ((k : Int) + 1) = k + 1 := wr_i64 (by omega) (by omega)
    have g1 := ens_get a k hlt
    have g2 := ens_get b k hltb
    have k1 : k * 3 + 3 ≤ a.length * 3 := by omega
    have k2 : k * 3 + 3 ≤ b.length * 3 := by omega
    obtain ⟨x, hx⟩ : ∃ x, a[k] = x := ⟨_, rfl⟩
    obtain ⟨y, hy⟩ : ∃ y, b[k] = y := ⟨_, rfl⟩
    rw [hx] at g1
    rw [hy] at g2
    have hq := en_beq x y
    by_cases he : x = y
    · have ht : a.take (k + 1) = b.take (k + 1) := by
        rw [List.take_add_one, List.take_add_one, hak, List.getElem?_eq_getElem hlt, List.getElem?_eq_getElem hltb, hx, hy, he]
      subst he
      refine Sim.exec hmix goks_nil (n := 0) (by simp (decide := true) [hlti, hltb, g1, g2, hw, k1, k2, enA]; exact ⟨rfl, rfl, rfl⟩) (by simp) ?_
      exact ⟨k + 1, ⟨by omega, ht⟩, Weak.mk' [0, 1] (by decide) (by decide) (by simp) (by simp), by omega⟩
    · have e : decide (a = b) = false := by
        simp; rintro rfl; apply he; rw [← hx, ← hy]
      rw [e]
      have hf : decide (x = y) = false := by simpa using he
      rw [hf] at hq
      refine Sim.exec hmix goks_nil (n := 0) (by simp (decide := true) [hlti, hltb, g1, g2, k1, k2, enA, -Bool.and_true, hq]; exact ⟨rfl, rfl, rfl⟩) (by simp) ?_
      exact ⟨.inr rfl, _, by simp; rfl, Weak.mk' [0, 1] (by decide) (by decide) (by simp) (by simp)⟩
  · have e : decide (a = b) = true := by
      rw [List.take_of_length_le (by omega), List.take_of_length_le (by omega)] at hak
      simpa using hak
    have hlti : ¬ (k : Int) < a.length := by omega
    rw [e]
    refine Sim.exec hmix goks_nil (n := 0) (by simp [hlti]; exact ⟨rfl, rfl, rfl⟩) (by simp) ?_
    dsimp only
    rw [if_pos rfl]
    refine Sim.exec hmix goks_nil (n := 0) (by simp; exact ⟨rfl, rfl, rfl⟩) (by simp) ?_
    exact ⟨.inr rfl, _, by simp; rfl, Weak.mk' [0, 1] (by decide) (by decide) (by simp) (by simp)⟩

def sameS : Summ := readS fun args H => match args with
  | [x, y] => match rowEns H x, rowEns H y with
    | some a, some b => if a.length ≤ 1000000000000 then some (.bool (decide (a = b))) else none
    | _, _ => none
  | _ => none

theorem same_sound : Sound Try.prog 23 sameS := by
  refine sound_read (enter_of Try.func23 rfl (by decide)) fun args H v h => ?_
  split at h <;> try cases h
  rename_i x y
  split at h <;> try cases h
  rename_i a b hx hy
  split at h <;> cases h
  rename_i hc
  obtain ⟨b1, o1, w1, g1⟩ := rowEns_win hx
  obtain ⟨b2, o2, w2, g2⟩ := rowEns_win hy
  refine ct_win (same_ct a b hc) rfl [(b1, o1), (b2, o2)] ?_ ?_
  · exact ⟨w1 0 _ rfl, w2 1 _ rfl, trivial⟩
  · exact ⟨g1, frees_ens _, g2, frees_ens _, trivial⟩

/-- What Find finds in a list in order. -/
def findE (l : List En) (w : List UInt8) : En × Bool := match l[posE l w]? with
  | some x => if x.1 = w then (x, true) else (([], 0, false), false)
  | none => (([], 0, false), false)

theorem hasE_find (l : List En) (w : List UInt8) : hasE l w = (findE l w).2 := by
  unfold hasE findE
  cases l[posE l w]? with
  | none => rfl
  | some x =>
    dsimp only
    by_cases h : x.1 = w
    · rw [if_pos h]; simpa using h
    · rw [if_neg h]; simpa using h

def fiΓ : Gam := gams [(39, bsS)]
theorem fiΓ_ok : GOk Try.prog fiΓ := goks_cons bs_sound goks_nil

theorem bs_at (l : List En) (w : List UInt8) (H : AHeap) (o : Bool) (hH : H[0]? = some (.cells o (ensA l))) (hl : l.length ≤ 1000000) (ha : asc l) :
    bsS [.sl 0 0 l.length 3 false, .str w, .func 38 [] []] H = some (.tuple [.int .i64 (posE l w), .bool (hasE l w)], H, []) := by
  have h1 : rowEns H (.sl 0 0 l.length 3 false) = some l := by simp [rowEns, hH]
  simp [bsS, readS, h1, hl, ha]

set_option maxHeartbeats 4000000 in
theorem find_ct (l : List En) (w : List UInt8) (hl : l.length ≤ 1000000) (ha : asc l) :
    Ct Try.prog 28 [.sl 0 0 l.length 3 false, .str w] [.cells false (ensA l)] (.tuple [.agg (enA (findE l w).1), .bool (findE l w).2]) [.cells false (ensA l)] := by
  obtain ⟨p, hp⟩ : ∃ p, posE l w = p := ⟨_, rfl⟩
  have hbs : ∀ B : ABlk, bsS [.sl 0 0 l.length 3 false, .str w, .func 38 [] []] [.cells false (ensA l), B] = some (.tuple [.int .i64 p, .bool (hasE l w)], [.cells false (ensA l), B], []) := fun B => by
    rw [bs_at l w _ false rfl hl ha, hp]
  have hh := hasE_find l w
  refine ct_runE hmix fiΓ_ok (n := 0) Try.func28 ?_
  unfold Try.f28
  cases hq : hasE l w with
  | true =>
    have hpl : p < l.length := by rw [← hp]; exact hasE_lt hq
    have g1 := ens_get l p hpl
    have k1 : p * 3 + 3 ≤ l.length * 3 := by omega
    obtain ⟨x, hx⟩ : ∃ x, l[p] = x := ⟨_, rfl⟩
    rw [hx] at g1
    have hf : findE l w = (x, true) := by
      have h2 : x.1 = w := by
        unfold hasE at hq
        rw [hp, List.getElem?_eq_getElem hpl, hx] at hq
        simpa using hq
      unfold findE
      rw [hp, List.getElem?_eq_getElem hpl, hx]
      dsimp only
      rw [if_pos h2]
    rw [hf]
    exact ⟨_, _, (by simp (decide := true) [fiΓ, hbs, hq, hpl, g1, k1, enA]; exact ⟨rfl, rfl⟩), Weak.mk' [0] (by decide) rfl (by simp [enA]) (by simp)⟩
  | false =>
    have hf : findE l w = (([], 0, false), false) := by
      rw [hh] at hq
      unfold findE at hq ⊢
      split at hq
      · rename_i x hx
        split at hq
        · cases hq
        · rename_i h2; rw [if_neg h2]
      · rfl
    rw [hf]
    exact ⟨_, _, (by simp (decide := true) [fiΓ, hbs, hq]; exact ⟨rfl, rfl⟩), Weak.mk' [0] (by decide) rfl (by simp [enA]) (by simp)⟩

def findS : Summ := readS fun args H => match args with
  | [x, .str w] => match rowEns H x with
    | some l => if l.length ≤ 1000000 ∧ ascB l = true then some (.tuple [.agg (enA (findE l w).1), .bool (findE l w).2]) else none
    | none => none
  | _ => none

theorem find_sound : Sound Try.prog 28 findS := by
  refine sound_read (enter_of Try.func28 rfl (by decide)) fun args H v h => ?_
  split at h <;> try cases h
  rename_i x w
  split at h <;> try cases h
  rename_i l hx
  split at h <;> cases h
  rename_i hc
  obtain ⟨b1, o1, w1, g1⟩ := rowEns_win hx
  refine ct_win (find_ct l w hc.1 (ascB_ok hc.2)) rfl [(b1, o1)] ?_ ?_
  · exact ⟨w1 0 _ rfl, by simp [winA], trivial⟩
  · exact ⟨g1, frees_ens _, trivial⟩


/-- Those that are not gone. -/
def liveE (l : List En) : List En := l.filter fun e => !e.2.2
theorem liveE_snoc (l : List En) (k : Nat) (e : En) (h : l[k]? = some e) : liveE (l.take (k + 1)) = liveE (l.take k) ++ (if e.2.2 then [] else [e]) := by
  unfold liveE
  rw [List.take_add_one, h, List.filter_append]
  obtain ⟨a, b, c⟩ := e
  cases c <;> rfl
theorem liveE_length (l : List En) : (liveE l).length ≤ l.length := List.length_filter_le _ _

set_option maxHeartbeats 8000000 in
theorem live_ct (l : List En) (hl : l.length ≤ 1000000) :
    Ct Try.prog 24 [.sl 0 0 l.length 3 false] [.cells false (ensA l)] (.sl 1 0 (liveE l).length 3 false) [.cells false (ensA l), .cells true (ensA (liveE l))] := by
  refine ct_of_sim Try.func24 rfl ?_
  simp only [Try.ntmps24, List.length_cons, List.length_nil, Nat.reduceAdd, Nat.reduceSub, List.replicate, List.cons_append, List.nil_append]
  refine Sim.step hmix goks_nil (n := 0) (by simp; exact ⟨rfl, rfl⟩) (by simp) ?_
  refine Sim.seq (Sim.step hmix goks_nil (n := 0) (by simp; exact ⟨rfl, rfl⟩) (by simp) ?_)
  refine Sim.block (Sim.loopW (fun k : Nat => k ≤ l.length)
    (fun k => [.top, .top, .sl 1 0 (liveE (l.take k)).length 3 false, .top, .top, .sl 0 0 l.length 3 false, .int .i64 l.length, .int .i64 k] ++ List.replicate 12 .top)
    (fun k => [.cells false (ensA l), .cells true (ensA (liveE (l.take k)))]) (fun k => l.length - k) 0 (by simp) (by simp) (Weak.mk' [0, 100] (by decide) (by decide) (by simp [liveE]) (by simp)) fun k hk => ?_)
  obtain ⟨out, ho⟩ : ∃ out, liveE (l.take k) = out := ⟨_, rfl⟩
  have hol : out.length ≤ 1000000 := by
    have := liveE_length (l.take k)
    rw [ho, List.length_take] at this
    omega
  have b1 : (out.length + 1) * 24 ≤ 140737488355328 := by omega
  have b2 : out.length + 1 ≤ 9223372036854775807 := by omega
  rw [ho]
  by_cases hlt : k < l.length
  · have hlti : (k : Int) < l.length := by omega
    obtain ⟨e, he⟩ : ∃ e, l[k] = e := ⟨_, rfl⟩
    have he' : l[k]? = some e := by rw [List.getElem?_eq_getElem hlt, he]
    have hnext := liveE_snoc l k e he'
    rw [ho] at hnext
    have g1 := ens_get l k hlt
    rw [he] at g1
    have k1 : k * 3 + 3 ≤ l.length * 3 := by omega
    have hw : IntKind.i64.wrap ((k : Int) + 1) = k + 1 := wr_i64 (by omega) (by omega)
    obtain ⟨wd, wt, gn⟩ := e
    refine Sim.step hmix goks_nil (n := 0) (by simp [hlti]; exact ⟨rfl, rfl⟩) (by simp) ?_
    refine Sim.step hmix goks_nil (n := 0) (by simp; exact ⟨rfl, rfl⟩) (by simp) ?_
    refine Sim.seq (Sim.block ?_)
    refine Sim.step hmix goks_nil (n := 0) (by simp (decide := true) [hlt, g1, k1, enA]; exact ⟨rfl, rfl⟩) (by simp) ?_
    cases gn with
    | true =>
      simp only [if_true, List.append_nil] at hnext
      refine Sim.exec hmix goks_nil (n := 0) (by simp; exact ⟨rfl, rfl, rfl⟩) (by simp) ?_
      dsimp only
      refine Sim.exec hmix goks_nil (n := 0) (by simp [hw]; exact ⟨rfl, rfl, rfl⟩) (by simp) ?_
      dsimp only
      exact ⟨k + 1, by omega, Weak.mk' [0, 1] (by decide) (by decide) (by simp [hnext]) (by simp [hnext]), by omega⟩
    | false =>
      simp only [Bool.false_eq_true, if_false] at hnext
      refine Sim.exec hmix goks_nil (n := 0) (by simp [b1, b2]; exact ⟨rfl, rfl, rfl⟩) (by simp) ?_
      dsimp only
      refine Sim.exec hmix goks_nil (n := 0) (by simp [hw]; exact ⟨rfl, rfl, rfl⟩) (by simp) ?_
      dsimp only
      exact ⟨k + 1, by omega, Weak.mk' [0, 4] (by decide) (by decide) (by simp [hnext]) (by simp [hnext, ensA, enA]; exact AWs.refl _ _ (by have := frees_ens (out ++ [(wd, wt, false)]); simpa [ensA, enA] using this)), by omega⟩
  · have hlti : ¬ (k : Int) < l.length := by omega
    have hkn : k = l.length := by omega
    rw [hkn, List.take_length] at ho
    rw [ho]
    refine Sim.exec hmix goks_nil (n := 0) (by simp [hlti]; exact ⟨rfl, rfl, rfl⟩) (by simp) ?_
    dsimp only
    rw [if_pos rfl]
    refine Sim.exec hmix goks_nil (n := 0) (by simp; exact ⟨rfl, rfl, rfl⟩) (by simp) ?_
    exact ⟨.inr rfl, _, by simp; rfl, Weak.mk' [0, 1] (by decide) (by decide) (by simp) (by simp)⟩

def liveS : Summ := readNewS fun args H => match args with
  | [x] => match rowEns H x with
    | some l => if l.length ≤ 1000000 then some (.sl 0 0 (liveE l).length 3 false, [.cells true (ensA (liveE l))]) else none
    | none => none
  | _ => none

theorem live_sound : Sound Try.prog 24 liveS := by
  refine sound_readNew (enter_of Try.func24 rfl (by decide)) fun args H v N h => ?_
  split at h <;> try cases h
  rename_i x
  split at h <;> try cases h
  rename_i l hx
  split at h <;> cases h
  rename_i hc
  obtain ⟨b1, o1, w1, g1⟩ := rowEns_win hx
  refine ct_winN (H0 := [.cells false (ensA l)]) (args0 := [.sl 0 0 l.length 3 false]) ?_ rfl [(b1, o1)] ⟨w1 0 _ rfl, trivial⟩ ⟨g1, frees_ens _, trivial⟩
  have := live_ct l hc
  simpa using this


/-- What is wrong at a place of a list. -/
def codeAt (l : List En) (i : Nat) : Int := match l[i]? with
  | none => 0
  | some e => if okW e.1 then (match i with
      | 0 => 0
      | j + 1 => (match l[j]? with | some d => if Op.bytesLess d.1 e.1 then 0 else 15 | none => 0)) else 7
def firstBad (c : Nat → Int) : Nat → Nat → Int × Int
  | 0, _ => (-1, 0)
  | n + 1, i => if c i = 0 then firstBad c n (i + 1) else (i, c i)
def chkE (l : List En) : Int × Int := firstBad (codeAt l) l.length 0

def ckΓ : Gam := gams [(31, wcheckS), (38, byS)]
theorem ckΓ_ok : GOk Try.prog ckΓ := goks_cons wcheck_sound (goks_cons by_sound goks_nil)

set_option maxHeartbeats 16000000 in
theorem check_ct (l : List En) (hl : l.length ≤ 1000000) :
    Ct Try.prog 21 [.sl 0 0 l.length 3 false] [.cells false (ensA l)] (.tuple [.int .i64 (chkE l).1, .int .i64 (chkE l).2]) [.cells false (ensA l)] := by
  refine ct_of_sim Try.func21 rfl ?_
  simp only [Try.ntmps21, List.length_cons, List.length_nil, Nat.reduceAdd, Nat.reduceSub, List.replicate, List.cons_append, List.nil_append]
  refine Sim.step hmix ckΓ_ok (n := 0) (by simp; exact ⟨rfl, rfl⟩) (by simp) ?_
  refine Sim.scope ?_
  refine Sim.step hmix ckΓ_ok (n := 0) (by simp; exact ⟨rfl, rfl⟩) (by simp) ?_
  refine Sim.step hmix ckΓ_ok (n := 0) (by simp; exact ⟨rfl, rfl⟩) (by simp) ?_
  refine Sim.seq (Sim.step hmix ckΓ_ok (n := 0) (by simp; exact ⟨rfl, rfl⟩) (by simp) ?_)
  refine Sim.block (Sim.loopW (fun k : Nat => k ≤ l.length ∧ firstBad (codeAt l) (l.length - k) k = chkE l)
    (fun k => [.sl 0 0 l.length 3 false, .top, .int .i64 (-1), .int .i64 0, .top, .top, .sl 0 0 l.length 3 false, .int .i64 l.length, .int .i64 k] ++ List.replicate 28 .top)
    (fun k => [.cells false (ensA l)]) (fun k => l.length - k) 0 (by simp) ⟨by simp, rfl⟩ (Weak.mk' [0] (by decide) (by decide) (by simp) (by simp)) fun k hk => ?_)
  obtain ⟨hk, hch⟩ := hk
  by_cases hlt : k < l.length
  · have hlti : (k : Int) < l.length := by omega
    obtain ⟨e, he⟩ : ∃ e, l[k] = e := ⟨_, rfl⟩
    have he' : l[k]? = some e := by rw [List.getElem?_eq_getElem hlt, he]
    have g1 := ens_get l k hlt
    rw [he] at g1
    have k1 : k * 3 + 3 ≤ l.length * 3 := by omega
    have hw : IntKind.i64.wrap ((k : Int) + 1) = k + 1 := wr_i64 (by omega) (by omega)
    obtain ⟨wd, wt, gn⟩ := e
    rw [show l.length - k = (l.length - (k + 1)) + 1 by omega] at hch
    unfold firstBad at hch
    refine Sim.step hmix ckΓ_ok (n := 0) (by simp [hlti]; exact ⟨rfl, rfl⟩) (by simp) ?_
    refine Sim.step hmix ckΓ_ok (n := 0) (by simp; exact ⟨rfl, rfl⟩) (by simp) ?_
    refine Sim.seq (Sim.block ?_)
    refine Sim.step hmix ckΓ_ok (n := 0) (by simp (decide := true) [hlt, g1, k1, enA]; exact ⟨rfl, rfl⟩) (by simp) ?_
    by_cases hok : okW wd = true
    · have hcd : cdW wd = 0 := by unfold cdW; rw [if_pos hok]
      by_cases hk0 : k = 0
      · have hki : (k : Int) = 0 := by omega
        have hkn : ¬ (0 : Int) < k := by omega
        have hkN : ¬ 0 < k := by omega
        have hc0 : codeAt l k = 0 := by unfold codeAt; rw [he']; dsimp only; rw [if_pos hok, hk0]
        rw [if_pos hc0] at hch
        refine Sim.exec hmix ckΓ_ok (n := 0) (by simp (decide := true) [ckΓ, wcheckS, readS, hcd, hk0]; exact ⟨rfl, rfl, rfl⟩) (by simp) ?_
        dsimp only
        rw [if_pos rfl]
        refine Sim.exec hmix ckΓ_ok (n := 0) (by simp; exact ⟨rfl, rfl, rfl⟩) (by simp) ?_
        dsimp only
        exact ⟨k + 1, ⟨by omega, hch⟩, Weak.mk' [0] (by decide) (by decide) (by simp [hk0]) (by simp), by omega⟩
      · obtain ⟨j, hj⟩ : ∃ j, k = j + 1 := ⟨k - 1, by omega⟩
        have hk0i : (0 : Int) < k := by omega
        have hkN : 0 < k := by omega
        have hjl : j < l.length := by omega
        have w5 : IntKind.i64.wrap ((k : Int) - 1) = (j : Int) := by rw [show (k : Int) - 1 = j by omega]; exact wr_i64 (by omega) (by omega)
        have g2 := ens_get l j hjl
        have k2 : j * 3 + 3 ≤ l.length * 3 := by omega
        obtain ⟨d, hd⟩ : ∃ d, l[j] = d := ⟨_, rfl⟩
        have hd' : l[j]? = some d := by rw [List.getElem?_eq_getElem hjl, hd]
        rw [hd] at g2
        obtain ⟨dw, dn, dg⟩ := d
        by_cases hb : Op.bytesLess dw wd = true
        · have hc0 : codeAt l k = 0 := by unfold codeAt; rw [he']; dsimp only; rw [if_pos hok, hj]; dsimp only; rw [hd']; dsimp only; rw [if_pos hb]
          have hn : ¬ (0 : Int) ≤ cmpL dw wd := by have := (cmpL_neg dw wd).2 hb; omega
          rw [if_pos hc0] at hch
          refine Sim.exec hmix ckΓ_ok (n := 0) (by simp (decide := true) [ckΓ, wcheckS, readS, byS, hcd, hkN, w5, hjl, g2, k2, enA, hn]; exact ⟨rfl, rfl, rfl⟩) (by simp) ?_
          dsimp only
          rw [if_pos rfl]
          refine Sim.exec hmix ckΓ_ok (n := 0) (by simp [hw]; exact ⟨rfl, rfl, rfl⟩) (by simp) ?_
          dsimp only
          exact ⟨k + 1, ⟨by omega, hch⟩, Weak.mk' [0] (by decide) (by decide) (by simp) (by simp), by omega⟩
        · have hc1 : codeAt l k = 15 := by unfold codeAt; rw [he']; dsimp only; rw [if_pos hok, hj]; dsimp only; rw [hd']; dsimp only; rw [if_neg hb]
          have hn : (0 : Int) ≤ cmpL dw wd := by
            have : ¬ cmpL dw wd < 0 := fun h => hb ((cmpL_neg dw wd).1 h)
            omega
          rw [if_neg (by rw [hc1]; decide)] at hch
          refine Sim.exec hmix ckΓ_ok (n := 0) (by simp (decide := true) [ckΓ, wcheckS, readS, byS, hcd, hkN, w5, hjl, g2, k2, enA, hn]; exact ⟨rfl, rfl, rfl⟩) (by simp) ?_
          dsimp only
          rw [if_neg (by decide), if_pos rfl]
          refine Sim.exec hmix ckΓ_ok (n := 0) (by simp; exact ⟨rfl, rfl, rfl⟩) (by simp) ?_
          rw [← hch]
          exact ⟨.inr rfl, _, by simp; rfl, Weak.mk' [0] (by decide) (by decide) (by simp [hc1]) (by simp)⟩
    · have hcd : cdW wd = 7 := by unfold cdW; rw [if_neg hok]
      have hc1 : codeAt l k = 7 := by unfold codeAt; rw [he']; dsimp only; rw [if_neg hok]
      rw [if_neg (by rw [hc1]; decide)] at hch
      refine Sim.exec hmix ckΓ_ok (n := 0) (by simp (decide := true) [ckΓ, wcheckS, readS, hcd]; exact ⟨rfl, rfl, rfl⟩) (by simp) ?_
      dsimp only
      rw [if_neg (by decide), if_pos rfl]
      refine Sim.exec hmix ckΓ_ok (n := 0) (by simp; exact ⟨rfl, rfl, rfl⟩) (by simp) ?_
      rw [← hch]
      exact ⟨.inr rfl, _, by simp; rfl, Weak.mk' [0] (by decide) (by decide) (by simp [hc1]) (by simp)⟩
  · have hlti : ¬ (k : Int) < l.length := by omega
    rw [show l.length - k = 0 by omega] at hch
    unfold firstBad at hch
    refine Sim.exec hmix ckΓ_ok (n := 0) (by simp [hlti]; exact ⟨rfl, rfl, rfl⟩) (by simp) ?_
    dsimp only
    rw [if_pos rfl]
    refine Sim.exec hmix ckΓ_ok (n := 0) (by simp; exact ⟨rfl, rfl, rfl⟩) (by simp) ?_
    rw [← hch]
    exact ⟨.inr rfl, _, by simp; rfl, Weak.mk' [0] (by decide) (by decide) (by simp) (by simp)⟩

def chkS : Summ := readS fun args H => match args with
  | [x] => match rowEns H x with
    | some l => if l.length ≤ 1000000 then some (.tuple [.int .i64 (chkE l).1, .int .i64 (chkE l).2]) else none
    | none => none
  | _ => none

theorem check_sound : Sound Try.prog 21 chkS := by
  refine sound_read (enter_of Try.func21 rfl (by decide)) fun args H v h => ?_
  split at h <;> try cases h
  rename_i x
  split at h <;> try cases h
  rename_i l hx
  split at h <;> cases h
  rename_i hc
  obtain ⟨b1, o1, w1, g1⟩ := rowEns_win hx
  refine ct_win (check_ct l hc) rfl [(b1, o1)] ?_ ?_
  · exact ⟨w1 0 _ rfl, trivial⟩
  · exact ⟨g1, frees_ens _, trivial⟩

end Go.Proofs.Ytndkhkponamplaa
