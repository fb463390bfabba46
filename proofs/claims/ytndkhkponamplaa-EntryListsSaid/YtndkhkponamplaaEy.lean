/- Contracts of entry and of the document's answer: words, bytes, values. -/
import Derived.Test.YtndkhkponamplaaEa
import Derived.Test.YtndkhkponamplaaGv
namespace Go.Proofs.Ytndkhkponamplaa
open Go
set_option maxRecDepth 100000
attribute [-simp] drawOk_eq adraw qrun acode aops

/-- May this be a word? -/
def okW (w : List UInt8) : Bool := decide (1 ≤ w.length ∧ w.length ≤ 255)
def cdW (w : List UInt8) : Int := if okW w then 0 else 7

def chInl : List FuncId := [49, 48]
theorem chΓ_ok : GOk Try.prog (runG Try.prog (gams []) 4 chInl 2) := gok_run hmix goks_nil 4 chInl 2

set_option maxHeartbeats 4000000 in
theorem wcheck_ct (w : List UInt8) : Ct Try.prog 31 [.slice 0 0 1 1 false] [.cells false [.str w]] (.int .i64 (cdW w)) [.cells false [.str w]] := by
  refine ct_runE hmix chΓ_ok (n := 0) Try.func31 ?_
  unfold Try.f31 cdW okW
  by_cases h0 : w = []
  · subst h0
    exact ⟨_, _, (by simp [chInl, Try.f49, Try.f48]; exact ⟨rfl, rfl⟩), Weak.mk' [0] (by decide) rfl (by simp) (by simp)⟩
  · have h1 : 1 ≤ w.length := by cases w with | nil => exact absurd rfl h0 | cons => simp
    have hE : w.isEmpty = false := by cases w with | nil => exact absurd rfl h0 | cons => rfl
    by_cases h2 : w.length ≤ 255
    · have h3 : (w.length : Int) ≤ 255 := by omega
      exact ⟨_, _, (by simp [chInl, Try.f49, Try.f48, h0, hE, h2, h3]; exact ⟨rfl, rfl⟩), Weak.mk' [0] (by decide) rfl (by simp [h1, h2]) (by simp)⟩
    · have h3 : ¬ (w.length : Int) ≤ 255 := by omega
      exact ⟨_, _, (by simp [chInl, Try.f49, Try.f48, h0, hE, h2, h3]; exact ⟨rfl, rfl⟩), Weak.mk' [0] (by decide) rfl (by simp [h1, h2]) (by simp)⟩

def wcheckS : Summ := readS fun args H => match args with
  | [.slice b off 1 1 _] => match H[b]? with
    | some (.cells _ l) => match (l.drop off).take 1 with
      | [.str w] => if off + 1 ≤ l.length then some (.int .i64 (cdW w)) else none
      | _ => none
    | _ => none
  | _ => none

theorem wcheck_sound : Sound Try.prog 31 wcheckS := by
  refine sound_read (enter_of Try.func31 rfl (by decide)) fun args H v h => ?_
  split at h <;> try cases h
  rename_i b off c
  split at h <;> try cases h
  rename_i o l hb
  split at h <;> try cases h
  rename_i w hw
  split at h <;> cases h
  rename_i hle
  refine ct_win (wcheck_ct w) rfl [(b, off)] ⟨?_, trivial⟩ ⟨?_, rfl, trivial⟩
  · simp [winA]
  · rw [hb]
    exact ⟨hle, hw.symm⟩

theorem ris_ct (w : List UInt8) : Ct Try.prog 51 [.str w] [] (.bool (okW w)) [] := by
  unfold okW
  refine ct_val hmix goks_nil (n := 0) Try.func51 ?_ (by simp)
  unfold Try.f51
  by_cases h1 : 1 ≤ w.length
  · by_cases h2 : w.length ≤ 255
    · have h3 : (w.length : Int) ≤ 255 := by omega
      have h4 : (1 : Int) ≤ w.length := by omega
      simp [h1, h2, h3, h4]
    · have h3 : ¬ (w.length : Int) ≤ 255 := by omega
      have h4 : (1 : Int) ≤ w.length := by omega
      simp [h1, h2, h3, h4]
  · have h4 : ¬ (1 : Int) ≤ w.length := by omega
    simp [h1, h4]

def risS : Summ := pureS fun | [.str w] => some (.bool (okW w)) | _ => none
theorem ris_sound : Sound Try.prog 51 risS := by
  refine sound_pure (enter_of Try.func51 rfl (by decide)) fun args v h => ?_
  split at h <;> cases h
  exact ⟨ris_ct _, rfl, rfl⟩

theorem rcheck_ct (w : List UInt8) : Ct Try.prog 33 [.str w] [] (.int .i64 (cdW w)) [] := by
  have hΓ : GOk Try.prog (gams [(51, risS)]) := goks_cons ris_sound goks_nil
  unfold cdW
  refine ct_val hmix hΓ (n := 0) Try.func33 ?_ (by simp)
  unfold Try.f33
  cases h : okW w <;> simp [risS, h]

def rcheckS : Summ := pureS fun | [.str w] => some (.int .i64 (cdW w)) | _ => none
theorem rcheck_sound : Sound Try.prog 33 rcheckS := by
  refine sound_pure (enter_of Try.func33 rfl (by decide)) fun args v h => ?_
  split at h <;> cases h
  exact ⟨rcheck_ct _, rfl, rfl⟩

/-! P5.1 -/

def eput (e : En) : List UInt8 × Int := if okW e.1 then (if e.2.2 then (2 :: e.1, 0) else (1 :: (Vy.enc e.2.1.toNat ++ e.1), 0)) else ([], 7)
def okN (n : Int) : Bool := decide (0 ≤ n ∧ n < 4294967296)

def epΓ : Gam := gams [(31, wcheckS), (32, putS')]
theorem epΓ_ok : GOk Try.prog epΓ := goks_cons wcheck_sound (goks_cons put_sound goks_nil)

set_option maxHeartbeats 4000000 in
theorem eput_ct (e : En) (hn : okN e.2.1 = true) : Ct Try.prog 8 [.agg (enA e)] [] (.tuple [.str (eput e).1, .int .i64 (eput e).2]) [] := by
  obtain ⟨w, n, g⟩ := e
  simp only [okN, decide_eq_true_eq] at hn
  obtain ⟨hn0, hn1⟩ := hn
  have c1 : IntKind.u64.wrap n = n := wr_u64 hn0 (by omega)
  have hz : n.toNat < 18446744073709551616 := by omega
  have hz2 : n < 18446744073709551616 := by omega
  unfold eput
  have hw : okW w = true ∨ okW w = false := by cases okW w <;> simp
  have hcd : cdW w = if okW w then 0 else 7 := rfl
  refine ct_runE hmix epΓ_ok (n := 0) Try.func8 ?_
  unfold Try.f8
  rcases hw with h | h
  · have hl : w.length ≤ 255 := by simp only [okW, decide_eq_true_eq] at h; exact h.2
    rw [h, if_pos rfl] at hcd
    have hb1 : 1 + w.length ≤ 9223372036854775807 := by omega
    have hb2 : w.length + 1 ≤ 9223372036854775807 := by omega
    obtain ⟨q, hq⟩ : ∃ q, Vy.put [n.toNat] = q := ⟨_, rfl⟩
    have hqe : Vy.enc n.toNat = q := by rw [← hq]; simp [Vy.put]
    have hql : q.length ≤ 9 := by
      rw [← hqe, Vy.enc_length]
      have := (Vy.size_bd n.toNat (by omega)).2
      omega
    have hb3 : 1 + q.length ≤ 9223372036854775807 := by omega
    have hb4 : q.length + 1 ≤ 9223372036854775807 := by omega
    have hb5 : q.length + 1 + w.length ≤ 9223372036854775807 := by omega
    rw [hqe]
    cases g with
    | true =>
      exact ⟨_, _, (by simp (decide := true) [enA, epΓ, wcheckS, readS, hcd, h, hb1, hb2]; exact ⟨rfl, rfl⟩), Weak.mk' [] (by decide) rfl (by simp [h]) (by simp)⟩
    | false =>
      exact ⟨_, _, (by simp (decide := true) [enA, epΓ, wcheckS, putS', readS, hcd, h, c1, hz, hz2, hn0, hq, hb1, hb2, hb3, hb4, hb5]; exact ⟨rfl, rfl⟩), Weak.mk' [] (by decide) rfl (by simp [h, Vy.put]) (by simp)⟩
  · rw [h] at hcd
    exact ⟨_, _, (by simp [enA, epΓ, wcheckS, readS, hcd, h]; exact ⟨rfl, rfl⟩), Weak.mk' [] (by decide) rfl (by simp [h]) (by simp)⟩


def eputS : Summ := pureS fun | [.agg [.str w, .int .u32 n, .bool g]] => if okN n = true then some (.tuple [.str (eput (w, n, g)).1, .int .i64 (eput (w, n, g)).2]) else none | _ => none
theorem eput_sound : Sound Try.prog 8 eputS := by
  refine sound_pure (enter_of Try.func8 rfl (by decide)) fun args v h => ?_
  split at h <;> try cases h
  rename_i w n g
  split at h <;> cases h
  rename_i hn
  exact ⟨eput_ct (w, n, g) hn, rfl, rfl⟩

def rpΓ : Gam := gams [(33, rcheckS), (34, rputS)]
theorem rpΓ_ok : GOk Try.prog rpΓ := goks_cons rcheck_sound (goks_cons rput_sound goks_nil)

set_option maxHeartbeats 4000000 in
theorem reput_ct (e : En) (hn : okN e.2.1 = true) : Ct Try.prog 9 [.agg (enA e)] [] (.tuple [.str (eput e).1, .int .i64 (eput e).2]) [] := by
  obtain ⟨w, n, g⟩ := e
  simp only [okN, decide_eq_true_eq] at hn
  obtain ⟨hn0, hn1⟩ := hn
  have c1 : IntKind.u64.wrap n = n := wr_u64 hn0 (by omega)
  have hz : n.toNat < 18446744073709551616 := by omega
  have hz2 : n < 18446744073709551616 := by omega
  unfold eput
  have hw : okW w = true ∨ okW w = false := by cases okW w <;> simp
  have hcd : cdW w = if okW w then 0 else 7 := rfl
  refine ct_runE hmix rpΓ_ok (n := 0) Try.func9 ?_
  unfold Try.f9
  rcases hw with h | h
  · have hl : w.length ≤ 255 := by simp only [okW, decide_eq_true_eq] at h; exact h.2
    rw [h, if_pos rfl] at hcd
    have hb1 : 1 + w.length ≤ 9223372036854775807 := by omega
    have hb2 : w.length + 1 ≤ 9223372036854775807 := by omega
    obtain ⟨q, hq⟩ : ∃ q, Vy.enc n.toNat = q := ⟨_, rfl⟩
    have hql : q.length ≤ 9 := by
      rw [← hq, Vy.enc_length]
      have := (Vy.size_bd n.toNat (by omega)).2
      omega
    have hb3 : 1 + q.length ≤ 9223372036854775807 := by omega
    have hb4 : q.length + 1 ≤ 9223372036854775807 := by omega
    have hb5 : q.length + 1 + w.length ≤ 9223372036854775807 := by omega
    rw [hq]
    cases g with
    | true =>
      exact ⟨_, _, (by simp (decide := true) [enA, rpΓ, rcheckS, hcd, h, hb1, hb2]; exact ⟨rfl, rfl⟩), Weak.mk' [] (by decide) rfl (by simp [h]) (by simp)⟩
    | false =>
      exact ⟨_, _, (by simp (decide := true) [enA, rpΓ, rcheckS, rputS, hcd, h, c1, hz, hz2, hn0, hq, hb1, hb2, hb3, hb4, hb5]; exact ⟨rfl, rfl⟩), Weak.mk' [] (by decide) rfl (by simp [h]) (by simp)⟩
  · rw [h] at hcd
    exact ⟨_, _, (by simp [enA, rpΓ, rcheckS, hcd, h]; exact ⟨rfl, rfl⟩), Weak.mk' [] (by decide) rfl (by simp [h]) (by simp)⟩

theorem reput_sound : Sound Try.prog 9 eputS := by
  refine sound_pure (enter_of Try.func9 rfl (by decide)) fun args v h => ?_
  split at h <;> try cases h
  rename_i w n g
  split at h <;> cases h
  rename_i hn
  exact ⟨reput_ct (w, n, g) hn, rfl, rfl⟩

/-! P5.2 -/

def eval5 (e : En) : Int := if e.2.2 then 0 else e.2.1 + 1
def eof (w : List UInt8) (v : Int) : En × Bool := if v = 0 then ((w, 0, true), true) else if 4294967296 < v then (([], 0, false), false) else ((w, v - 1, false), true)

theorem value_ct (e : En) (hn : okN e.2.1 = true) : Ct Try.prog 10 [.agg (enA e)] [] (.int .u64 (eval5 e)) [] := by
  obtain ⟨w, n, g⟩ := e
  simp only [okN, decide_eq_true_eq] at hn
  obtain ⟨hn0, hn1⟩ := hn
  have c1 : IntKind.u64.wrap n = n := wr_u64 hn0 (by omega)
  have c2 : IntKind.u64.wrap (n + 1) = n + 1 := wr_u64 (by omega) (by omega)
  unfold eval5
  refine ct_val hmix goks_nil (n := 0) Try.func10 ?_ (by simp)
  unfold Try.f10
  cases g <;> simp [enA, c1, c2]

theorem rvalue_ct (e : En) (hn : okN e.2.1 = true) : Ct Try.prog 11 [.agg (enA e)] [] (.int .u64 (eval5 e)) [] := by
  obtain ⟨w, n, g⟩ := e
  simp only [okN, decide_eq_true_eq] at hn
  obtain ⟨hn0, hn1⟩ := hn
  have c1 : IntKind.u64.wrap n = n := wr_u64 hn0 (by omega)
  have c2 : IntKind.u64.wrap (n + 1) = n + 1 := wr_u64 (by omega) (by omega)
  unfold eval5
  refine ct_val hmix goks_nil (n := 0) Try.func11 ?_ (by simp)
  unfold Try.f11
  cases g <;> simp [enA, c1, c2]

def valueS : Summ := pureS fun | [.agg [.str w, .int .u32 n, .bool g]] => if okN n = true then some (.int .u64 (eval5 (w, n, g))) else none | _ => none
theorem value_sound : Sound Try.prog 10 valueS := by
  refine sound_pure (enter_of Try.func10 rfl (by decide)) fun args v h => ?_
  split at h <;> try cases h
  rename_i w n g
  split at h <;> cases h
  rename_i hn
  exact ⟨value_ct (w, n, g) hn, rfl, rfl⟩
theorem rvalue_sound : Sound Try.prog 11 valueS := by
  refine sound_pure (enter_of Try.func11 rfl (by decide)) fun args v h => ?_
  split at h <;> try cases h
  rename_i w n g
  split at h <;> cases h
  rename_i hn
  exact ⟨rvalue_ct (w, n, g) hn, rfl, rfl⟩

theorem of_ct (w : List UInt8) (v : Int) (h0 : 0 ≤ v) (h1 : v < 18446744073709551616) : Ct Try.prog 14 [.str w, .int .u64 v] [] (.tuple [.agg (enA (eof w v).1), .bool (eof w v).2]) [] := by
  unfold eof
  refine ct_val hmix goks_nil (n := 0) Try.func14 ?_ (by split <;> (try split) <;> rfl)
  unfold Try.f14
  by_cases hz : v = 0
  · subst hz; simp [enA]
  · have c1 : IntKind.u64.wrap (v - 1) = v - 1 := wr_u64 (by omega) (by omega)
    by_cases hb : 4294967296 < v
    · have hb' : 4294967295 < v - 1 := by omega
      simp [enA, hz, hb, hb', c1]
    · have hb' : ¬ 4294967295 < v - 1 := by omega
      have c2 : IntKind.u32.wrap (v - 1) = v - 1 := wr_u32 (by omega) (by omega)
      simp [enA, hz, hb, hb', c1, c2]

theorem rof_ct (w : List UInt8) (v : Int) (h0 : 0 ≤ v) (h1 : v < 18446744073709551616) : Ct Try.prog 15 [.str w, .int .u64 v] [] (.tuple [.agg (enA (eof w v).1), .bool (eof w v).2]) [] := by
  unfold eof
  refine ct_val hmix goks_nil (n := 0) Try.func15 ?_ (by split <;> (try split) <;> rfl)
  unfold Try.f15
  by_cases hz : v = 0
  · subst hz; simp [enA]
  · have c1 : IntKind.u64.wrap (v - 1) = v - 1 := wr_u64 (by omega) (by omega)
    by_cases hb : 4294967296 < v
    · simp [enA, hz, hb, c1]
    · have c2 : IntKind.u32.wrap (v - 1) = v - 1 := wr_u32 (by omega) (by omega)
      simp [enA, hz, hb, c1, c2]

def ofS : Summ := pureS fun | [.str w, .int .u64 v] => if 0 ≤ v ∧ v < 18446744073709551616 then some (.tuple [.agg (enA (eof w v).1), .bool (eof w v).2]) else none | _ => none
theorem of_free (w : List UInt8) (v : Int) : free (.tuple [.agg (enA (eof w v).1), .bool (eof w v).2]) = true := rfl
theorem of_sound : Sound Try.prog 14 ofS := by
  refine sound_pure (enter_of Try.func14 rfl (by decide)) fun args v h => ?_
  split at h <;> try cases h
  rename_i w x
  split at h <;> cases h
  rename_i hn
  exact ⟨of_ct w x hn.1 hn.2, rfl, of_free w x⟩
theorem rof_sound : Sound Try.prog 15 ofS := by
  refine sound_pure (enter_of Try.func15 rfl (by decide)) fun args v h => ?_
  split at h <;> try cases h
  rename_i w x
  split at h <;> cases h
  rename_i hn
  exact ⟨rof_ct w x hn.1 hn.2, rfl, of_free w x⟩

end Go.Proofs.Ytndkhkponamplaa
