/- Contracts: vary.Put, vary.Get and the document's answer of layer 2, taken over from the elder walks. -/
import Derived.Test.YtmoegdjpmcjhcaaTypes
import Derived.Test.YtmoegdjpmcjhcaaVaryC
import Derived.Test.YtmoegdjpmcjhcaaVaryR
namespace Go.Proofs.Ytmoegdjpmcjhcaa
open Go

/-- A walk's contract, of values, as a contract here. -/
theorem ct_of_calls {P : Program} {f : FuncId} {args : List AV} {v : AV} {cargs : Array Value} {cv : Value} (hargs : ∀ j vs, VRs j args vs → vs = cargs.toList) (hv : ∀ j, VR j v cv) (h : ∀ w, Calls P f cargs w fun e w' => e = .returned cv ∧ RowKit.Below w.heap.size w w') : Ct P f args [] v [] := by
  intro j w cs hR hcs
  have e : cs = cargs := by apply Array.ext'; exact hargs j _ hcs
  subst e
  refine (h w).mono ?_
  rintro e w' ⟨rfl, hb⟩
  exact ⟨cv, j, rfl, hv j, hR.same fun c hc => hb.block c hc, fun _ _ => rfl, Nat.le_refl _, ⟨hb.os, hb.tape, hb.output, hb.size, fun c hc _ => hb.block c hc⟩, fun b l p hb' => by simp at hb'⟩

theorem get_ct (s : List UInt8) (a : Int) (hs : s.length ≤ 140737488351232) : Ct Try.prog 20 [.str s, .int .i64 a] [] (.tuple [.int .u64 (Vy.get s a).1, .int .i64 (Vy.get s a).2.1, .int .i64 (Vy.get s a).2.2]) [] := by
  refine ct_of_calls (cargs := #[.string ⟨s.toArray⟩, .int .i64 a]) (cv := getR (Vy.get s a)) (fun j vs h => ?_) (fun j => ?_) fun w => ?_
  · simp only [VRs, VR] at h
    obtain ⟨_, _, rfl, rfl, _, _, rfl, rfl, rfl⟩ := h
    rfl
  · exact ⟨_, rfl, _, _, rfl, rfl, _, _, rfl, rfl, _, _, rfl, rfl, rfl⟩
  · have := get_any ⟨s.toArray⟩ a w (by simpa [ByteArray.size] using hs)
    rw [show (ByteArray.mk s.toArray).data.toList = s by simp] at this
    exact this

theorem rget_ct (s : List UInt8) (a : Int) (hs : s.length ≤ 140737488351232) : Ct Try.prog 38 [.str s, .int .i64 a] [] (.tuple [.int .u64 (Vy.get s a).1, .int .i64 (Vy.get s a).2.1, .int .i64 (Vy.get s a).2.2]) [] := by
  refine ct_of_calls (cargs := #[.string ⟨s.toArray⟩, .int .i64 a]) (cv := getR (Vy.get s a)) (fun j vs h => ?_) (fun j => ?_) fun w => ?_
  · simp only [VRs, VR] at h
    obtain ⟨_, _, rfl, rfl, _, _, rfl, rfl, rfl⟩ := h
    rfl
  · exact ⟨_, rfl, _, _, rfl, rfl, _, _, rfl, rfl, _, _, rfl, rfl, rfl⟩
  · have := rget_any ⟨s.toArray⟩ a w (by simpa [ByteArray.size] using hs)
    rw [show (ByteArray.mk s.toArray).data.toList = s by simp] at this
    exact this

theorem rput_ct (n : Nat) (hn : n < 2 ^ 64) : Ct Try.prog 18 [.int .u64 n] [] (.str (Vy.enc n)) [] := by
  refine ct_of_calls (cargs := #[.int .u64 n]) (cv := .string ⟨(Vy.enc n).toArray⟩) (fun j vs h => ?_) (fun j => ?_) fun w => ?_
  · simp only [VRs, VR] at h
    obtain ⟨_, _, rfl, rfl, rfl⟩ := h
    rfl
  · rfl
  · exact rput_any n w hn

theorem put_ct (l : List Nat) (hl : ∀ n ∈ l, n < 2 ^ 64) (hlen : l.length ≤ 1000000000) : Ct Try.prog 15 [.slice 0 0 l.length 1 false] [.cells false (l.map aU)] (.str (Vy.put l)) [.cells false (l.map aU)] := by
  intro j w cs hR hcs
  simp only [VRs, VR] at hcs
  obtain ⟨v, vs, e, ⟨p, a, cap, hp, rfl, h1, h2, h3, h4⟩, rfl⟩ := hcs
  have e' : cs = #[.slice (some a) l.length cap] := by apply Array.ext'; exact e
  subst e'
  have hrd : Rd w 1 (some a) l.length (l.map vU) := by
    refine ⟨by simp, fun h0 => ?_⟩
    obtain ⟨cs', T, fz, g1, g2, g3, g4, g5⟩ := hR.blk 0 _ p rfl hp
    rcases h4 with h5 | ⟨rfl, h5⟩
    · simp at h0; omega
    · refine ⟨p.blk, p.base + 0, rfl, (Array.getElem?_eq_some_iff.1 g1).1, fun k u hk => ?_⟩
      rw [List.getElem?_map] at hk
      obtain ⟨n, hn, rfl⟩ := Option.map_eq_some_iff.1 hk
      obtain ⟨v, hv, hr⟩ := g4 k (aU n) (by rw [List.getElem?_map, hn]; rfl)
      simp only [aU, VR] at hr
      subst hr
      simp [World.cell?, g1, hv, vU]
  refine (put_any l (some a) cap w hl hlen hrd).mono ?_
  rintro e w' ⟨rfl, hb⟩
  exact ⟨_, j, rfl, rfl, hR.same fun c hc => hb.block c hc, fun _ _ => rfl, Nat.le_refl _, ⟨hb.os, hb.tape, hb.output, hb.size, fun c hc _ => hb.block c hc⟩, fun b l' p hb' hy => by
    cases b with
    | zero => cases hb'; cases hy
    | succ b => simp at hb'⟩

def getS : Summ := pureS fun | [.str s, .int .i64 a] => if s.length ≤ 140737488351232 then some (.tuple [.int .u64 (Vy.get s a).1, .int .i64 (Vy.get s a).2.1, .int .i64 (Vy.get s a).2.2]) else none | _ => none
theorem get_sound : Sound Try.prog 20 getS := by
  refine sound_pure (enter_of Try.func20 rfl (by decide)) fun args v h => ?_
  split at h <;> try cases h
  rename_i s a
  split at h <;> cases h
  exact ⟨get_ct s a ‹_›, by simp, by simp⟩
theorem rget_sound : Sound Try.prog 38 getS := by
  refine sound_pure (enter_of Try.func38 rfl (by decide)) fun args v h => ?_
  split at h <;> try cases h
  rename_i s a
  split at h <;> cases h
  exact ⟨rget_ct s a ‹_›, by simp, by simp⟩
def rputS : Summ := pureS fun | [.int .u64 n] => if 0 ≤ n ∧ n.toNat < 18446744073709551616 then some (.str (Vy.enc n.toNat)) else none | _ => none
theorem rput_sound : Sound Try.prog 18 rputS := by
  refine sound_pure (enter_of Try.func18 rfl (by decide)) fun args v h => ?_
  split at h <;> try cases h
  rename_i n
  split at h <;> cases h
  rename_i hc
  have h0 := rput_ct n.toNat (by omega)
  rw [show ((n.toNat : Nat) : Int) = n by omega] at h0
  exact ⟨h0, by simp, by simp⟩
def putS' : Summ := readS fun args H => match args with
  | [.slice b off len 1 _] => match H[b]? with
    | some (.cells _ l) => match natsOf .u64 ((l.drop off).take len) with
      | some ns => if off + len ≤ l.length ∧ (ns.all (· < 18446744073709551616)) = true ∧ len ≤ 1000000000 then some (.str (Vy.put ns)) else none
      | none => none
    | _ => none
  | _ => none
theorem put_sound : Sound Try.prog 15 putS' := by
  refine sound_read (enter_of Try.func15 rfl (by decide)) fun args H v h => ?_
  split at h <;> try cases h
  rename_i b off len c
  split at h <;> try cases h
  rename_i o l hb
  split at h <;> try cases h
  rename_i ns hns
  split at h <;> cases h
  rename_i hc
  obtain ⟨c2, c3, c6⟩ := hc
  have e := natsOf_eq hns
  have hlen : ns.length = len := by have := congrArg List.length e; simp at this; omega
  have h0 := put_ct ns (by simpa using c3) (by omega)
  rw [hlen] at h0
  refine ct_win h0 rfl [(b, off)] (by simp) ?_
  simp only [winH, hb]
  refine ⟨⟨by simp; omega, ?_⟩, by simp, trivial⟩
  rw [List.length_map, hlen, e]
  rfl

end Go.Proofs.Ytmoegdjpmcjhcaa
