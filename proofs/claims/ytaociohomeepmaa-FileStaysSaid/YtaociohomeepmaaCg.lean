/- Plain law of files: the times since the last Sync, and what stays. -/
import Derived.Test.YtaociohomeepmaaFu
namespace Go.Proofs.Ytaociohomeepmaa
open Go

/-- What was read, time by time, since the last Sync. -/
def PF.times (f : PF) : List (List UInt8) := (List.range (f.acts.length + 1)).map fun i => runs f.d (f.acts.take i)

theorem PF.times_length (f : PF) : f.times.length = f.acts.length + 1 := by simp [PF.times]
theorem PF.times_get (f : PF) {i : Nat} (h : i ≤ f.acts.length) : f.times[i]? = some (runs f.d (f.acts.take i)) := by
  unfold PF.times
  rw [List.getElem?_map, List.getElem?_range (by omega)]
  rfl
theorem PF.times_last (f : PF) : f.times[f.acts.length]? = some f.now := by
  rw [f.times_get (Nat.le_refl _), List.take_length]; rfl
theorem PF.times_zero (f : PF) : f.times[0]? = some f.d := by rw [f.times_get (Nat.zero_le _)]; rfl
theorem PF.times_new (s : List UInt8) : (⟨s, []⟩ : PF).times = [s] := rfl
theorem PF.times_did (f : PF) (a : FAct) : (f.did a).times = f.times ++ [(f.did a).now] := by
  refine List.ext_getElem? fun i => ?_
  have hl : (f.did a).acts.length = f.acts.length + 1 := by simp [PF.did]
  rcases Nat.lt_or_ge i (f.acts.length + 1) with h | h
  · rw [PF.times_get _ (by omega), List.getElem?_append_left (by rw [f.times_length]; exact h), f.times_get (by omega)]
    simp only [PF.did]
    rw [List.take_append_of_le_length (by omega)]
  · rw [List.getElem?_append_right (by rw [f.times_length]; exact h), f.times_length]
    rcases Nat.eq_or_lt_of_le h with h | h
    · rw [← h, Nat.sub_self, ← hl, PF.times_last]; rfl
    · rw [List.getElem?_eq_none (by rw [PF.times_length, hl]; omega)]
      rw [List.getElem?_eq_none (by simp; omega)]

/-- Each act did something. -/
def PF.wf (f : PF) : Prop := ∀ (i : Nat) (a : FAct), f.acts[i]? = some a → match a with | .add m => m ≠ [] | .cut n => n < (runs f.d (f.acts.take i)).length

theorem PF.wf_new (s : List UInt8) : (⟨s, []⟩ : PF).wf := fun i a h => by simp at h
theorem PF.wf_did {f : PF} (h : f.wf) (a : FAct) (ha : match a with | .add m => m ≠ [] | .cut n => n < f.now.length) : (f.did a).wf := by
  intro i b hb
  simp only [PF.did] at hb ⊢
  rcases Nat.lt_or_ge i f.acts.length with h1 | h1
  · rw [List.getElem?_append_left h1] at hb
    rw [List.take_append_of_le_length (by omega)]
    exact h i b hb
  · have h2 : i = f.acts.length := by
      have := (List.getElem?_eq_some_iff.1 hb).1
      simp at this; omega
    subst h2
    rw [List.getElem?_append_right (Nat.le_refl _)] at hb
    simp at hb
    subst hb
    rw [List.take_append_of_le_length (Nat.le_refl _), List.take_length]
    exact ha

def PF.noCuts (f : PF) : Prop := ∀ a ∈ f.acts, ∃ m, a = FAct.add m
theorem PF.noCuts_new (s : List UInt8) : (⟨s, []⟩ : PF).noCuts := fun a h => by simp at h
theorem PF.noCuts_add {f : PF} (h : f.noCuts) (m : List UInt8) : (f.did (.add m)).noCuts := fun a ha => by
  simp only [PF.did] at ha
  rcases List.mem_append.1 ha with h1 | h1
  · exact h a h1
  · rcases List.mem_singleton.1 h1 with rfl
    exact ⟨m, rfl⟩

theorem runs_grow : ∀ (l : List FAct) (s : List UInt8), (∀ a ∈ l, ∃ m, a = FAct.add m) → s <+: runs s l
  | [], s, _ => List.prefix_refl _
  | a :: l, s, h => by
    obtain ⟨m, rfl⟩ := h a (List.mem_cons_self ..)
    exact (List.prefix_append s m).trans (runs_grow l (s ++ m) fun b hb => h b (List.mem_cons_of_mem _ hb))

theorem PF.grow {f : PF} (h : f.noCuts) (i : Nat) : runs f.d (f.acts.take i) <+: f.now ∧ f.d <+: runs f.d (f.acts.take i) := by
  constructor
  · have e : f.now = runs (runs f.d (f.acts.take i)) (f.acts.drop i) := by
      rw [← runs_append, List.take_append_drop]; rfl
    rw [e]
    exact runs_grow _ _ fun a ha => h a (List.mem_of_mem_drop ha)
  · exact runs_grow _ _ fun a ha => h a (List.mem_of_mem_take ha)

/-- What stays, in the three ways. -/
theorem PF.stays_cases {f : PF} (hw : f.wf) (done part : Int) {n : Nat} (hn : (inI done 0 f.acts.length).toNat = n) :
    (n = f.acts.length ∧ f.stays done part = f.now) ∨
    (∃ m, n < f.acts.length ∧ f.acts[n]? = some (.add m) ∧ m ≠ [] ∧ runs f.d (f.acts.take (n + 1)) = runs f.d (f.acts.take n) ++ m ∧ f.stays done part = runs f.d (f.acts.take n) ++ m.take (inI part 0 m.length).toNat) ∨
    (∃ c, n < f.acts.length ∧ f.acts[n]? = some (.cut c) ∧ c < (runs f.d (f.acts.take n)).length ∧ runs f.d (f.acts.take (n + 1)) = (runs f.d (f.acts.take n)).take c ∧ f.stays done part = runs f.d (f.acts.take n)) := by
  have hle : n ≤ f.acts.length := by unfold inI at hn; omega
  rcases Nat.eq_or_lt_of_le hle with h | h
  · refine .inl ⟨h, ?_⟩
    unfold PF.stays
    simp only [hn]
    rw [h, List.take_length, List.getElem?_eq_none (Nat.le_refl _)]
    simp [PF.now]
  · have hx : f.acts[n]? = some f.acts[n] := List.getElem?_eq_getElem h
    have hr := runs_take f.d f.acts n h
    have hwf := hw n _ hx
    have hst : f.stays done part = runs f.d (f.acts.take n) ++ (match f.acts[n]? with | some (.add m) => m.take (inI part 0 m.length).toNat | _ => []) := by
      unfold PF.stays
      simp only [hn]
      rfl
    obtain ⟨a, ha⟩ : ∃ a, f.acts[n] = a := ⟨_, rfl⟩
    rw [ha] at hx hr hwf
    rw [hx] at hst
    cases a with
    | add m => exact .inr (.inl ⟨m, h, hx, hwf, hr, hst⟩)
    | cut c => exact .inr (.inr ⟨c, h, hx, hwf, hr, by simpa using hst⟩)

end Go.Proofs.Ytaociohomeepmaa
