/- Rows of segments as summaries read them; slices.Equal, manifest's way. -/
import Derived.Test.YtbbgmaklmlagcaaMa
namespace Go.Proofs.Ytbbgmaklmlagcaa
open Go
set_option maxRecDepth 100000

/-- Segments of cells. -/
def sgsOf : List AV → Option (List Sg)
  | [] => some []
  | .int .i64 a :: .int .i64 b :: .int .i64 c :: l => (sgsOf l).map ((a, b, c) :: ·)
  | _ => none

theorem sgsOf_eq : ∀ {xs : List AV} {l : List Sg}, sgsOf xs = some l → xs = sgsA l
  | [], l, h => by cases h; rfl
  | x :: xs, l, h => by
    unfold sgsOf at h
    split at h
    · cases ‹_ = []›
    · rename_i a b c ys e
      cases e
      obtain ⟨l', hl', rfl⟩ := Option.map_eq_some_iff.1 h
      rw [sgsOf_eq hl']
      rfl
    · cases h

@[simp] theorem sgsOf_sgsA : ∀ l : List Sg, sgsOf (sgsA l) = some l
  | [] => rfl
  | s :: l => by simp [sgsA, sgA, sgsOf, sgsOf_sgsA l]

@[simp] theorem take_sgsA (l : List Sg) : (sgsA l).take (l.length * 3) = sgsA l := by rw [← sgsA_length, List.take_length]
@[simp] theorem sgsA_append (a b : List Sg) : sgsA (a ++ b) = sgsA a ++ sgsA b := by
  induction a with
  | nil => rfl
  | cons x a ih => simp [sgsA, ih]

/-- The segments of a slice. -/
def rowSgs (H : AHeap) : AV → Option (List Sg)
  | .nils => some []
  | .slice b off len 3 _ => match H[b]? with
    | some (.cells _ l) => if off + len * 3 ≤ l.length then sgsOf ((l.drop off).take (len * 3)) else none
    | _ => none
  | .sl b off len 3 _ => match H[b]? with
    | some (.cells _ l) => if off + len * 3 ≤ l.length then sgsOf ((l.drop off).take (len * 3)) else none
    | _ => none
  | _ => none

/-- A window for it. -/
theorem rowSgs_win {H : AHeap} {x : AV} {a : List Sg} (h : rowSgs H x = some a) : ∃ b off, (∀ (i : Nat) (wd : List (Nat × Nat)), wd[i]? = some (b, off) → winA wd (.sl i 0 a.length 3 false) x) ∧
    (match H[b]? with | some (.cells _ l) => off + (sgsA a).length ≤ l.length ∧ sgsA a = (l.drop off).take (sgsA a).length | none => True | _ => False) := by
  have key : ∀ (b off len : Nat) (o : Bool) (l : List AV), H[b]? = some (.cells o l) → off + len * 3 ≤ l.length → sgsOf ((l.drop off).take (len * 3)) = some a → len = a.length ∧ off + (sgsA a).length ≤ l.length ∧ sgsA a = (l.drop off).take (sgsA a).length := by
    intro b off len o l hb hle hs
    have e := sgsOf_eq hs
    have hlen : len = a.length := by
      have := congrArg List.length e
      simp at this
      omega
    subst hlen
    exact ⟨rfl, by simpa using hle, by rw [sgsA_length]; exact e.symm⟩
  unfold rowSgs at h
  split at h
  · cases h
    exact ⟨H.length, 0, fun i wd _ => by simp [winA], by simp⟩
  · rename_i b off len c
    split at h
    rotate_left
    · cases h
    rename_i o l hb
    split at h
    rotate_left
    · cases h
    rename_i hle
    obtain ⟨rfl, h1, h2⟩ := key b off len o l hb hle h
    exact ⟨b, off, fun i wd hw => by simp [winA, hw], by rw [hb]; exact ⟨h1, h2⟩⟩
  · rename_i b off len c
    split at h
    rotate_left
    · cases h
    rename_i o l hb
    split at h
    rotate_left
    · cases h
    rename_i hle
    obtain ⟨rfl, h1, h2⟩ := key b off len o l hb hle h
    exact ⟨b, off, fun i wd hw => by simp [winA, hw], by rw [hb]; exact ⟨h1, h2⟩⟩
  · cases h

def equalS : Summ := readS fun args H => match args with
  | [x, y] => match rowSgs H x, rowSgs H y with
    | some a, some b => if a.length ≤ 1000000000000 then some (.bool (decide (a = b))) else none
    | _, _ => none
  | _ => none

theorem equal_sound : Sound Try.prog 65 equalS := by
  refine sound_read (enter_of Try.func65 rfl (by decide)) fun args H v h => ?_
  split at h <;> try cases h
  rename_i x y
  split at h <;> try cases h
  rename_i a b hx hy
  split at h <;> cases h
  rename_i hc
  obtain ⟨b1, o1, w1, g1⟩ := rowSgs_win hx
  obtain ⟨b2, o2, w2, g2⟩ := rowSgs_win hy
  refine ct_win (equal_ct a b hc) rfl [(b1, o1), (b2, o2)] ?_ ?_
  · exact ⟨w1 0 _ rfl, w2 1 _ rfl, trivial⟩
  · exact ⟨g1, frees_sgs _, g2, frees_sgs _, trivial⟩

end Go.Proofs.Ytbbgmaklmlagcaa
