/- Folders: the plain laws of what the chapter's statements ask. -/
import Derived.Test.YtjolihoakdifoaaHa
namespace Go.Proofs.Ytjolihoakdifoaa
open Go Go.Lib
set_option maxRecDepth 100000

/-- An act as it is drawn: what (by threes), two names by their numbers. -/
structure FA where
  w : Nat
  a : Nat
  b : Nat
  n : Int
  r : List UInt8

def nameL : List (List UInt8) := [[97], [98], [109, 97, 110, 105, 102, 101, 115, 116], [119, 97, 108, 45, 49], [115, 101, 103, 45, 50], [116, 109, 112], [99]]
def nameF (n : Nat) : List UInt8 := nameL.getD (n % 7) []
theorem nameF_mem (n : Nat) : nameF n ∈ nameL := by
  unfold nameF
  have h : n % 7 < nameL.length := Nat.mod_lt _ (by decide)
  rw [List.getD_eq_getElem?_getD, List.getElem?_eq_getElem h]
  exact List.getElem_mem h
theorem nameF_may (n : Nat) : mayF (nameF n) := by
  have : ∀ s ∈ nameL, mayF s := by decide
  exact this _ (nameF_mem n)
theorem nameF_len (n : Nat) : (nameF n).length ≤ 8 := by
  have : ∀ s ∈ nameL, s.length ≤ 8 := by decide
  exact this _ (nameF_mem n)
def ownW : List UInt8 := [111, 119, 110]
theorem nameF_own (n : Nat) : nameF n ≠ ownW := by
  have : ∀ s ∈ nameL, s ≠ ownW := by decide
  exact this _ (nameF_mem n)

def FD.does (f : FD) (x : FA) : FD :=
  if x.w % 3 = 0 then (f.create (nameF x.a)).1 else if x.w % 3 = 1 then (f.rename (nameF x.a) (nameF x.b)).1 else (f.remove (nameF x.a)).1

/-- An act adds one act or none; the rest stays. -/
inductive FD.More (f g : FD) : Prop where
  | same (h : g = f)
  | one (x : DAct) (hd : g.d = f.d) (ha : g.acts = f.acts ++ [x]) (hl : f.last ≤ g.last)

theorem FD.create_more (f : FD) (k : List UInt8) : f.More (f.create k).1 := by
  unfold FD.create
  split
  · split
    · exact .same rfl
    · exact .one _ rfl rfl (by dsimp only; omega)
  · exact .same rfl
theorem FD.rename_more (f : FD) (a b : List UInt8) : f.More (f.rename a b).1 := by
  unfold FD.rename
  split
  · split
    · exact .one _ rfl rfl (Int.le_refl _)
    · exact .same rfl
  · exact .same rfl
theorem FD.remove_more (f : FD) (k : List UInt8) : f.More (f.remove k).1 := by
  unfold FD.remove
  split
  · exact .one _ rfl rfl (Int.le_refl _)
  · exact .same rfl
theorem FD.does_more (f : FD) (x : FA) : f.More (f.does x) := by
  unfold FD.does
  split
  · exact f.create_more _
  split
  · exact f.rename_more _ _
  · exact f.remove_more _

theorem FD.More.len {f g : FD} (h : f.More g) : f.acts.length ≤ g.acts.length ∧ g.acts.length ≤ f.acts.length + 1 := by
  cases h with
  | same h => subst h; omega
  | one x hd ha hl => rw [ha]; simp
theorem FD.More.pre {f g : FD} (h : f.More g) : f.acts <+: g.acts ∧ g.d = f.d := by
  cases h with
  | same h => subst h; exact ⟨List.prefix_refl _, rfl⟩
  | one x hd ha hl => rw [ha]; exact ⟨List.prefix_append _ _, hd⟩

def FD.doAll (f : FD) (l : List FA) : FD := l.foldl FD.does f
theorem FD.doAll_snoc (f : FD) (l : List FA) (i : Nat) (x : FA) (h : l[i]? = some x) : f.doAll (l.take (i + 1)) = (f.doAll (l.take i)).does x := by
  unfold FD.doAll
  rw [List.take_add_one, h, List.foldl_append]; rfl
theorem FD.doAll_pre (f : FD) (l : List FA) : f.acts <+: (f.doAll l).acts ∧ (f.doAll l).d = f.d := by
  induction l generalizing f with
  | nil => exact ⟨List.prefix_refl _, rfl⟩
  | cons x l ih =>
    obtain ⟨h1, h2⟩ := (f.does_more x).pre
    obtain ⟨h3, h4⟩ := ih (f.does x)
    exact ⟨h1.trans h3, h4.trans h2⟩
theorem FD.doAll_take (f : FD) (l : List FA) (i L : Nat) (h : i ≤ L) : (f.doAll (l.take i)).acts <+: (f.doAll (l.take L)).acts ∧ (f.doAll (l.take L)).d = (f.doAll (l.take i)).d := by
  have e : l.take L = l.take i ++ (l.take L).drop i := by
    conv => lhs; rw [← List.take_append_drop i (l.take L), List.take_take, Nat.min_eq_left h]
  rw [e]
  unfold FD.doAll
  rw [List.foldl_append]
  exact FD.doAll_pre _ _

/-- FolderSurvives: what survives of acts is what was there behind as many of them. -/
theorem FD.survive_same {f : FD} (l : List FA) (i L : Nat) (n : Int) (hi : i ≤ L) {F G : FD} (hF : F = f.doAll (l.take L)) (hG : G = f.doAll (l.take i)) (hk : G.acts.length ≤ F.clamp n) (hend : F.clamp n ≤ G.acts.length ∨ i = L) :
    (F.survive n).now = G.now := by
  obtain ⟨h1, h2⟩ := FD.doAll_take f l i L hi
  rw [← hF, ← hG] at h1 h2
  have hcl : F.clamp n ≤ F.acts.length := by unfold FD.clamp; omega
  have hlen : G.acts.length = F.clamp n := by
    rcases hend with h | h
    · omega
    · subst h
      rw [← hF] at hG
      subst hG
      omega
  have e : F.acts.take (F.clamp n) = G.acts := by
    rw [← hlen]
    exact (List.prefix_iff_eq_take.1 h1).symm
  unfold FD.survive FD.now
  simp only [druns, e, h2]

/-- Numbers as they must be: from 1 to the last one, each once. -/
structure NumOk (l : NM) (last : Int) : Prop where
  nd : NM.nd l
  rng : ∀ k v, NM.get l k = some v → 1 ≤ v ∧ v ≤ last
  inj : ∀ k k' v, NM.get l k = some v → NM.get l k' = some v → k = k'

theorem NumOk.mono {l : NM} {a b : Int} (h : NumOk l a) (hab : a ≤ b) : NumOk l b :=
  ⟨h.nd, fun k v hk => by have := h.rng k v hk; omega, h.inj⟩
theorem NumOk.nil (a : Int) : NumOk [] a := ⟨List.nodup_nil, (fun _ _ h => by cases h), (fun _ _ _ h => by cases h)⟩
theorem NumOk.cre {l : NM} {a : Int} (h : NumOk l a) (h0 : 0 ≤ a) (k : List UInt8) (_hk : NM.get l k = none) : NumOk (NM.put l k (a + 1)) (a + 1) := by
  refine ⟨NM.nd_put h.nd _ _, fun k' v hv => ?_, fun k1 k2 v h1 h2 => ?_⟩
  · rw [NM.get_put] at hv
    split at hv
    · cases hv; omega
    · have := h.rng k' v hv; omega
  · rw [NM.get_put] at h1 h2
    split at h1 <;> split at h2
    · rename_i e1 e2; rw [e1, e2]
    · cases h1; have := h.rng k2 _ h2; omega
    · cases h2; have := h.rng k1 _ h1; omega
    · exact h.inj k1 k2 v h1 h2
theorem NumOk.del {l : NM} {a : Int} (h : NumOk l a) (k : List UInt8) : NumOk (NM.del l k) a := by
  have key : ∀ k' v, NM.get (NM.del l k) k' = some v → NM.get l k' = some v := by
    intro k' v hv
    rw [NM.get_del h.nd] at hv
    split at hv
    · cases hv
    · exact hv
  exact ⟨NM.nd_del h.nd _, fun k' v hv => h.rng k' v (key _ _ hv), fun k1 k2 v h1 h2 => h.inj k1 k2 v (key _ _ h1) (key _ _ h2)⟩
theorem NumOk.ren {l : NM} {a : Int} (h : NumOk l a) (k b : List UInt8) (n : Int) (hk : NM.get l k = some n) : NumOk (NM.put (NM.del l k) b n) a := by
  have h1 := h.del k
  have hno : ∀ k', NM.get (NM.del l k) k' ≠ some n := by
    intro k' e
    rw [NM.get_del h.nd] at e
    split at e
    · cases e
    · rename_i hne; exact hne (h.inj _ _ _ e hk)
  refine ⟨NM.nd_put h1.nd _ _, fun k' v hv => ?_, fun k1 k2 v e1 e2 => ?_⟩
  · rw [NM.get_put] at hv
    split at hv
    · cases hv; exact h.rng k _ hk
    · exact h1.rng k' v hv
  · rw [NM.get_put] at e1 e2
    split at e1 <;> split at e2
    · rename_i q1 q2; rw [q1, q2]
    · cases e1; exact absurd e2 (hno k2)
    · cases e2; exact absurd e1 (hno k1)
    · exact h1.inj k1 k2 v e1 e2

/-- A property of the names behind any number of acts, so also behind what survives. -/
def FD.each (f : FD) (p : NM → Int → Prop) : Prop := ∀ i, i ≤ f.acts.length → p (druns f.d (f.acts.take i)) f.last

theorem FD.each_now {f : FD} {p : NM → Int → Prop} (h : f.each p) : p f.now f.last := by
  have := h f.acts.length (Nat.le_refl _)
  rw [List.take_length] at this
  exact this
theorem FD.each_survive {f : FD} {p : NM → Int → Prop} (h : f.each p) (n : Int) : (f.survive n).each p := by
  intro i hi
  have hcl : f.clamp n ≤ f.acts.length := by unfold FD.clamp; omega
  simp only [FD.survive, List.length_nil, Nat.le_zero] at hi
  subst hi
  exact h _ hcl
theorem FD.each_one {f g : FD} {p : NM → Int → Prop} (h : f.each p) (hm : ∀ l a b, a ≤ b → p l a → p l b) (x : DAct) (hd : g.d = f.d) (ha : g.acts = f.acts ++ [x]) (hl : f.last ≤ g.last) (hx : p (x.run f.now) g.last) : g.each p := by
  intro i hi
  rw [ha, List.length_append] at hi
  simp only [List.length_cons, List.length_nil] at hi
  rw [hd, ha]
  by_cases h1 : i ≤ f.acts.length
  · rw [List.take_append_of_le_length h1]
    exact hm _ _ _ hl (h i h1)
  · rw [List.take_of_length_le (by simp; omega), druns_append]
    exact hx

def FD.numOk (f : FD) : Prop := 0 ≤ f.last ∧ f.each NumOk
theorem FD.numOk_new : FD.new.numOk := ⟨by decide, fun i _ => by simp only [FD.new, List.take_nil, druns]; exact NumOk.nil _⟩
theorem FD.numOk_survive {f : FD} (h : f.numOk) (n : Int) : (f.survive n).numOk := ⟨h.1, FD.each_survive h.2 n⟩
theorem FD.numOk_create {f : FD} (h : f.numOk) (k : List UInt8) : (f.create k).1.numOk := by
  unfold FD.create
  split
  · split
    · exact h
    · rename_i hk
      exact ⟨by have := h.1; dsimp only; omega, FD.each_one h.2 (fun l a b hab hl => NumOk.mono hl hab) _ rfl rfl (by dsimp only; omega) ((FD.each_now h.2).cre h.1 k hk)⟩
  · exact h
theorem FD.numOk_rename {f : FD} (h : f.numOk) (a b : List UInt8) : (f.rename a b).1.numOk := by
  unfold FD.rename
  split
  · split
    · rename_i n hn
      exact ⟨h.1, FD.each_one h.2 (fun l a b hab hl => NumOk.mono hl hab) _ rfl rfl (Int.le_refl _) ((FD.each_now h.2).ren a b n hn)⟩
    · exact h
  · exact h
theorem FD.numOk_remove {f : FD} (h : f.numOk) (k : List UInt8) : (f.remove k).1.numOk := by
  unfold FD.remove
  split
  · exact ⟨h.1, FD.each_one h.2 (fun l a b hab hl => NumOk.mono hl hab) _ rfl rfl (Int.le_refl _) ((FD.each_now h.2).del k)⟩
  · exact h
theorem FD.numOk_does {f : FD} (h : f.numOk) (x : FA) : (f.does x).numOk := by
  unfold FD.does
  split
  · exact FD.numOk_create h _
  split
  · exact FD.numOk_rename h _ _
  · exact FD.numOk_remove h _

/-- FolderApart: a name of its own is as it was. -/
def ownP (q : Option Int) (l : NM) (_ : Int) : Prop := NM.nd l ∧ NM.get l ownW = q
theorem FD.own_does {f : FD} {q : Option Int} (h : f.each (ownP q)) (x : FA) : (f.does x).each (ownP q) := by
  have hn := FD.each_now h
  have mono : ∀ (l : NM) (a b : Int), a ≤ b → ownP q l a → ownP q l b := fun l a b _ h => h
  unfold FD.does
  split
  · unfold FD.create
    split
    · split
      · exact h
      · refine FD.each_one h mono _ rfl rfl (by dsimp only; omega) ⟨NM.nd_put hn.1 _ _, ?_⟩
        simp only [DAct.run]
        rw [NM.get_put, if_neg (nameF_own _).symm]
        exact hn.2
    · exact h
  split
  · unfold FD.rename
    split
    · split
      · refine FD.each_one h mono _ rfl rfl (Int.le_refl _) ⟨NM.nd_put (NM.nd_del hn.1 _) _ _, ?_⟩
        simp only [DAct.run]
        rw [NM.get_put, if_neg (nameF_own _).symm, NM.get_del hn.1, if_neg (nameF_own _).symm]
        exact hn.2
      · exact h
    · exact h
  · unfold FD.remove
    split
    · refine FD.each_one h mono _ rfl rfl (Int.le_refl _) ⟨NM.nd_del hn.1 _, ?_⟩
      simp only [DAct.run]
      rw [NM.get_del hn.1, if_neg (nameF_own _).symm]
      exact hn.2
    · exact h

/-- A name that is renamed takes its number with it. -/
theorem FD.rename_takes {f : FD} (x : FA) (hx : x.w % 3 = 1) {n : Int} (hn : f.now.get (nameF x.a) = some n) : (f.does x).now.get (nameF x.b) = some n := by
  unfold FD.does
  rw [if_neg (by omega), if_pos hx]
  unfold FD.rename
  rw [if_pos (nameF_may _), hn]
  dsimp only [FD.now]
  rw [druns_append]
  simp only [druns, DAct.run]
  rw [NM.get_put, if_pos rfl]

end Go.Proofs.Ytjolihoakdifoaa
