/- Entries: rows of them, as cells. -/
import Derived.Test.YtndkhkponamplaaBz
import Derived.Test.YtndkhkponamplaaTypes
namespace Go.Proofs.Ytndkhkponamplaa
open Go
set_option maxRecDepth 100000
attribute [-simp] drawOk_eq adraw qrun acode aops

/-- An entry: its word, its weight, and whether it is gone. -/
abbrev En := List UInt8 × Int × Bool

def enA (s : En) : List AV := [.str s.1, .int .u32 s.2.1, .bool s.2.2]
def ensA : List En → List AV
  | [] => []
  | s :: l => enA s ++ ensA l

@[simp] theorem ensA_length : ∀ l : List En, (ensA l).length = l.length * 3
  | [] => rfl
  | s :: l => by simp [ensA, enA, ensA_length l]; omega

@[simp] theorem frees_ens : ∀ l : List En, frees (ensA l) = true
  | [] => rfl
  | s :: l => by simp [ensA, enA, frees_ens l]

theorem ens_get : ∀ (l : List En) (k : Nat) (h : k < l.length), ((ensA l).drop (k * 3)).take 3 = enA l[k]
  | s :: l, 0, _ => by simp [ensA, enA]
  | s :: l, k + 1, h => by
    have := ens_get l k (by simpa using h)
    rw [show (k + 1) * 3 = k * 3 + 3 by omega]
    simpa [ensA, enA] using this

/-- Entries of cells. -/
def ensOf : List AV → Option (List En)
  | [] => some []
  | .str a :: .int .u32 b :: .bool c :: l => (ensOf l).map ((a, b, c) :: ·)
  | _ => none

theorem ensOf_eq : ∀ {xs : List AV} {l : List En}, ensOf xs = some l → xs = ensA l
  | [], l, h => by cases h; rfl
  | x :: xs, l, h => by
    unfold ensOf at h
    split at h
    · cases ‹_ = []›
    · rename_i a b c ys e
      cases e
      obtain ⟨l', hl', rfl⟩ := Option.map_eq_some_iff.1 h
      rw [ensOf_eq hl']
      rfl
    · cases h

@[simp] theorem ensOf_ensA : ∀ l : List En, ensOf (ensA l) = some l
  | [] => rfl
  | s :: l => by simp [ensA, enA, ensOf, ensOf_ensA l]

@[simp] theorem take_ensA (l : List En) : (ensA l).take (l.length * 3) = ensA l := by rw [← ensA_length, List.take_length]
@[simp] theorem ensA_append (a b : List En) : ensA (a ++ b) = ensA a ++ ensA b := by
  induction a with
  | nil => rfl
  | cons x a ih => simp [ensA, ih]

/-- The entries of a slice. -/
def rowEns (H : AHeap) : AV → Option (List En)
  | .nils => some []
  | .slice b off len 3 _ => match H[b]? with
    | some (.cells _ l) => if off + len * 3 ≤ l.length then ensOf ((l.drop off).take (len * 3)) else none
    | _ => none
  | .sl b off len 3 _ => match H[b]? with
    | some (.cells _ l) => if off + len * 3 ≤ l.length then ensOf ((l.drop off).take (len * 3)) else none
    | _ => none
  | _ => none

/-- A window for it. -/
theorem rowEns_win {H : AHeap} {x : AV} {a : List En} (h : rowEns H x = some a) : ∃ b off, (∀ (i : Nat) (wd : List (Nat × Nat)), wd[i]? = some (b, off) → winA wd (.sl i 0 a.length 3 false) x) ∧
    (match H[b]? with | some (.cells _ l) => off + (ensA a).length ≤ l.length ∧ ensA a = (l.drop off).take (ensA a).length | none => True | _ => False) := by
  have key : ∀ (b off len : Nat) (o : Bool) (l : List AV), H[b]? = some (.cells o l) → off + len * 3 ≤ l.length → ensOf ((l.drop off).take (len * 3)) = some a → len = a.length ∧ off + (ensA a).length ≤ l.length ∧ ensA a = (l.drop off).take (ensA a).length := by
    intro b off len o l hb hle hs
    have e := ensOf_eq hs
    have hlen : len = a.length := by
      have := congrArg List.length e
      simp at this
      omega
    subst hlen
    exact ⟨rfl, by simpa using hle, by rw [ensA_length]; exact e.symm⟩
  unfold rowEns at h
  split at h
  · cases h
    exact ⟨H.length, 0, fun i wd _ => by simp [winA], by simp⟩
  · rename_i b off len c
    split at h
    rotate_left
    · cases h
    rename_i o l hb
    split at h
    rotate_left
    · cases h
    rename_i hle
    obtain ⟨rfl, h1, h2⟩ := key b off len o l hb hle h
    exact ⟨b, off, fun i wd hw => by simp [winA, hw], by rw [hb]; exact ⟨h1, h2⟩⟩
  · rename_i b off len c
    split at h
    rotate_left
    · cases h
    rename_i o l hb
    split at h
    rotate_left
    · cases h
    rename_i hle
    obtain ⟨rfl, h1, h2⟩ := key b off len o l hb hle h
    exact ⟨b, off, fun i wd hw => by simp [winA, hw], by rw [hb]; exact ⟨h1, h2⟩⟩
  · cases h

@[simp] theorem cells_ens : ∀ l : List En, (ensA l).all isCell = true
  | [] => rfl
  | s :: l => by simp [ensA, enA, cells_ens l]

theorem ens_splice (x : En) : ∀ (l : List En) (i : Nat), i < l.length → (ensA l).take (i * 3) ++ enA x ++ (ensA l).drop (i * 3 + 3) = ensA (l.set i x)
  | [], i, h => by simp at h
  | s :: l, 0, _ => by simp [ensA, enA]
  | s :: l, i + 1, h => by
    have := ens_splice x l i (by simpa using h)
    rw [show (i + 1) * 3 = i * 3 + 3 by omega]
    simpa [ensA, enA] using this

theorem ens_take : ∀ (l : List En) (n : Nat), (ensA l).take (n * 3) = ensA (l.take n)
  | [], n => by simp [ensA]
  | s :: l, 0 => by simp [ensA]
  | s :: l, n + 1 => by
    rw [show (n + 1) * 3 = n * 3 + 3 by omega]
    simp [ensA, enA, ens_take l n]

theorem ens_drop : ∀ (l : List En) (n : Nat), (ensA l).drop (n * 3) = ensA (l.drop n)
  | [], n => by simp [ensA]
  | s :: l, 0 => by simp [ensA]
  | s :: l, n + 1 => by
    rw [show (n + 1) * 3 = n * 3 + 3 by omega]
    simp [ensA, enA, ens_drop l n]

end Go.Proofs.Ytndkhkponamplaa
