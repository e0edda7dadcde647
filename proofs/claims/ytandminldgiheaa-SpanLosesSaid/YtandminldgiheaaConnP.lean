/- Plain: what edges link. -/
import Derived.Test.YtandminldgiheaaSortP
namespace Go.Proofs.Ytandminldgiheaa

/-- Edges lead from a to b. -/
inductive Conn (l : List Edge) : Int → Int → Prop
  | refl (a : Int) : Conn l a a
  | edge {e : Edge} (h : e ∈ l) : Conn l e.a e.b
  | symm {a b : Int} (h : Conn l a b) : Conn l b a
  | trans {a b c : Int} (h : Conn l a b) (k : Conn l b c) : Conn l a c

noncomputable def linked (l : List Edge) (a b : Int) : Bool := @decide (Conn l a b) (Classical.propDecidable _)
theorem linked_iff {l : List Edge} {a b : Int} : linked l a b = true ↔ Conn l a b := by
  unfold linked; exact @decide_eq_true_iff _ (Classical.propDecidable _)
theorem linked_false {l : List Edge} {a b : Int} : linked l a b = false ↔ ¬ Conn l a b := by
  rw [← linked_iff]; simp

theorem Conn.mono {l m : List Edge} (h : ∀ e ∈ l, e ∈ m) {a b : Int} (c : Conn l a b) : Conn m a b := by
  induction c with
  | refl a => exact .refl a
  | edge he => exact .edge (h _ he)
  | symm _ ih => exact ih.symm
  | trans _ _ i1 i2 => exact i1.trans i2
theorem Conn.of_all {l m : List Edge} (h : ∀ e ∈ l, Conn m e.a e.b) {a b : Int} (c : Conn l a b) : Conn m a b := by
  induction c with
  | refl a => exact .refl a
  | edge he => exact h _ he
  | symm _ ih => exact ih.symm
  | trans _ _ i1 i2 => exact i1.trans i2

theorem conn_nil {a b : Int} : Conn [] a b ↔ a = b := by
  constructor
  · intro h
    induction h with
    | refl a => rfl
    | edge h => cases h
    | symm _ ih => exact ih.symm
    | trans _ _ i1 i2 => exact i1.trans i2
  · rintro rfl; exact .refl _

theorem conn_snoc {l : List Edge} {e : Edge} {x y : Int} : Conn (l ++ [e]) x y ↔ (Conn l x y ∨ (Conn l x e.a ∧ Conn l e.b y) ∨ (Conn l x e.b ∧ Conn l e.a y)) := by
  constructor
  · intro h
    induction h with
    | refl a => exact .inl (.refl a)
    | edge h =>
      rcases List.mem_append.1 h with h | h
      · exact .inl (.edge h)
      · simp at h; subst h; exact .inr (.inl ⟨.refl _, .refl _⟩)
    | symm _ ih =>
      rcases ih with h | ⟨h, k⟩ | ⟨h, k⟩
      · exact .inl h.symm
      · exact .inr (.inr ⟨k.symm, h.symm⟩)
      · exact .inr (.inl ⟨k.symm, h.symm⟩)
    | trans _ _ i1 i2 =>
      rcases i1 with h | ⟨h, k⟩ | ⟨h, k⟩ <;> rcases i2 with h' | ⟨h', k'⟩ | ⟨h', k'⟩
      · exact .inl (h.trans h')
      · exact .inr (.inl ⟨h.trans h', k'⟩)
      · exact .inr (.inr ⟨h.trans h', k'⟩)
      · exact .inr (.inl ⟨h, k.trans h'⟩)
      · exact .inr (.inl ⟨h, k'⟩)
      · exact .inl (h.trans k')
      · exact .inr (.inr ⟨h, k.trans h'⟩)
      · exact .inl (h.trans k')
      · exact .inr (.inr ⟨h, k'⟩)
  · have hl : ∀ {a b : Int}, Conn l a b → Conn (l ++ [e]) a b := fun h => h.mono (fun x hx => List.mem_append_left _ hx)
    have he : Conn (l ++ [e]) e.a e.b := .edge (by simp)
    rintro (h | ⟨h, k⟩ | ⟨h, k⟩)
    · exact hl h
    · exact ((hl h).trans he).trans (hl k)
    · exact ((hl h).trans he.symm).trans (hl k)
theorem conn_perm {l m : List Edge} (h : ∀ e, e ∈ l ↔ e ∈ m) {a b : Int} : Conn l a b ↔ Conn m a b :=
  ⟨fun c => c.mono fun e he => (h e).1 he, fun c => c.mono fun e he => (h e).2 he⟩
/-- An edge between two that are linked links no more. -/
theorem conn_snoc_linked {l : List Edge} {e : Edge} (h : Conn l e.a e.b) {x y : Int} : Conn (l ++ [e]) x y ↔ Conn l x y := by
  rw [conn_snoc]
  constructor
  · rintro (h1 | ⟨h1, h2⟩ | ⟨h1, h2⟩)
    · exact h1
    · exact (h1.trans h).trans h2
    · exact (h1.trans h.symm).trans h2
  · exact .inl

/-! ### edges taken one by one, each that links what was not linked -/
noncomputable def grow1 (out : List Edge) (e : Edge) : List Edge := if linked out e.a e.b then out else out ++ [e]
noncomputable def growAll (l : List Edge) : List Edge := l.foldl grow1 []
noncomputable def least (l : List Edge) : List Edge := growAll (sortE l)

theorem growAll_snoc (l : List Edge) (e : Edge) : growAll (l ++ [e]) = grow1 (growAll l) e := by simp [growAll]
theorem growAll_nil : growAll [] = [] := rfl
theorem rev_ind {α : Type} {C : List α → Prop} (h0 : C []) (h1 : ∀ l e, C l → C (l ++ [e])) (l : List α) : C l := by
  have : ∀ m : List α, C m.reverse := by
    intro m
    induction m with
    | nil => exact h0
    | cons x m ih => rw [List.reverse_cons]; exact h1 _ _ ih
  simpa using this l.reverse
theorem growAll_sub (l : List Edge) : (growAll l).Sublist l := by
  induction l using rev_ind with
  | h0 => exact List.nil_sublist _
  | h1 l e ih =>
    rw [growAll_snoc, grow1]
    split
    · exact ih.trans (List.sublist_append_left _ _)
    · exact ih.append (List.Sublist.refl _)
/-- They link what the edges link. -/
theorem growAll_conn (l : List Edge) {a b : Int} : Conn (growAll l) a b ↔ Conn l a b := by
  induction l using rev_ind generalizing a b with
  | h0 => rfl
  | h1 l e ih =>
    rw [growAll_snoc, grow1]
    split
    · rename_i h
      rw [linked_iff, ih] at h
      rw [conn_snoc_linked h, ih]
    · rw [conn_snoc, conn_snoc, ih, ih, ih, ih, ih]
theorem linked_growAll (l : List Edge) (a b : Int) : linked (growAll l) a b = linked l a b := by
  rw [Bool.eq_iff_iff, linked_iff, linked_iff, growAll_conn]

/-- The edges that link what those ahead of them don't. -/
noncomputable def forest (l : List Edge) : Bool := @decide (∀ i, (h : i < l.length) → ¬ Conn (l.take i) l[i].a l[i].b) (Classical.propDecidable _)
theorem forest_iff {l : List Edge} : forest l = true ↔ ∀ i, (h : i < l.length) → ¬ Conn (l.take i) l[i].a l[i].b := by
  unfold forest; exact @decide_eq_true_iff _ (Classical.propDecidable _)

end Go.Proofs.Ytandminldgiheaa
