/- Plain: what is reached in 64 rounds over the edges is what they link. -/
import Derived.Test.YtandminldgiheaaConnP
namespace Go.Proofs.Ytandminldgiheaa

def hit (S : Nat → Bool) (e : Edge) : Bool := S e.a.toNat || S e.b.toNat
def stepS (S : Nat → Bool) (e : Edge) : Nat → Bool := if hit S e then fun i => (i == e.b.toNat) || ((i == e.a.toNat) || S i) else S
def passS (S : Nat → Bool) (l : List Edge) : Nat → Bool := l.foldl stepS S
def roundsS (l : List Edge) (S : Nat → Bool) : Nat → (Nat → Bool)
  | 0 => S
  | n + 1 => passS (roundsS l S n) l
def startS (a : Nat) : Nat → Bool := fun i => i == a
def reachS (l : List Edge) (a : Nat) : Nat → Bool := roundsS l (startS a) 64

theorem passS_snoc (S : Nat → Bool) (l : List Edge) (e : Edge) : passS S (l ++ [e]) = stepS (passS S l) e := by simp [passS]
theorem stepS_mono {S : Nat → Bool} {e : Edge} {i : Nat} (h : S i = true) : stepS S e i = true := by
  unfold stepS; split
  · simp [h]
  · exact h
theorem passS_mono {S : Nat → Bool} {i : Nat} (l : List Edge) (h : S i = true) : passS S l i = true := by
  induction l using rev_ind with
  | h0 => exact h
  | h1 l e ih => rw [passS_snoc]; exact stepS_mono ih
/-- What is in: nodes that are linked with a. -/
def Within (l : List Edge) (a : Nat) (S : Nat → Bool) : Prop := ∀ i, S i = true → 1 ≤ i ∧ i < 65 ∧ Conn l a i
theorem may_nodes {e : Edge} (h : may e = true) : 1 ≤ e.a ∧ e.a < 65 ∧ 1 ≤ e.b ∧ e.b < 65 := by unfold may node at h; simp at h; omega
theorem Within.step {l : List Edge} {a : Nat} {S : Nat → Bool} (h : Within l a S) {e : Edge} (he : e ∈ l) (hm : may e = true) : Within l a (stepS S e) := by
  have hb := may_nodes hm
  have ea : ((e.a.toNat : Nat) : Int) = e.a := by omega
  have eb : ((e.b.toNat : Nat) : Int) = e.b := by omega
  have hc : Conn l e.a e.b := .edge he
  intro i hi
  unfold stepS at hi
  split at hi
  · rename_i hh
    have hboth : Conn l a e.a ∧ Conn l a e.b := by
      unfold hit at hh
      rw [Bool.or_eq_true] at hh
      rcases hh with hh | hh
      · have := (h _ hh).2.2; rw [ea] at this; exact ⟨this, this.trans hc⟩
      · have := (h _ hh).2.2; rw [eb] at this; exact ⟨this.trans hc.symm, this⟩
    simp only [Bool.or_eq_true, beq_iff_eq] at hi
    rcases hi with rfl | rfl | hi
    · exact ⟨by omega, by omega, by rw [eb]; exact hboth.2⟩
    · exact ⟨by omega, by omega, by rw [ea]; exact hboth.1⟩
    · exact h i hi
  · exact h i hi
theorem Within.pass {l : List Edge} {a : Nat} {S : Nat → Bool} (h : Within l a S) (m : List Edge) (hm : ∀ e ∈ m, e ∈ l ∧ may e = true) : Within l a (passS S m) := by
  induction m using rev_ind with
  | h0 => exact h
  | h1 m e ih =>
    rw [passS_snoc]
    have := hm e (by simp)
    exact (ih (fun x hx => hm x (List.mem_append_left _ hx))).step this.1 this.2

def Closed (l : List Edge) (S : Nat → Bool) : Prop := ∀ e ∈ l, S e.a.toNat = S e.b.toNat
def count (S : Nat → Bool) : Nat := ((List.range 65).filter S).length
theorem closed_pass {l : List Edge} {S : Nat → Bool} (h : Closed l S) : ∀ m : List Edge, (∀ e ∈ m, e ∈ l) → passS S m = S := by
  intro m
  induction m using rev_ind with
  | h0 => intro _; rfl
  | h1 m e ih =>
    intro hm
    rw [passS_snoc, ih (fun x hx => hm x (List.mem_append_left _ hx))]
    have he := h e (hm e (by simp))
    unfold stepS
    split
    · rename_i hh
      unfold hit at hh
      rw [he, Bool.or_self] at hh
      funext i
      by_cases h1 : i = e.b.toNat
      · subst h1; simp [hh]
      · by_cases h2 : i = e.a.toNat
        · subst h2; simp [he, hh]
        · have h1' : (i == e.b.toNat) = false := by simpa using h1
          have h2' : (i == e.a.toNat) = false := by simpa using h2
          rw [h1', h2']; rfl
    · rfl
/-- A round in which nothing comes in ends it. -/
theorem closed_of_still {l : List Edge} {S : Nat → Bool} (hm : ∀ e ∈ l, may e = true) (h : ∀ i, i < 65 → passS S l i = true → S i = true) : Closed l S := by
  intro e he
  obtain ⟨l1, l2, rfl⟩ := List.append_of_mem he
  have hb := may_nodes (hm e he)
  have e1 : passS S (l1 ++ e :: l2) = passS (stepS (passS S l1) e) l2 := by simp [passS]
  have up : ∀ i, stepS (passS S l1) e i = true → i < 65 → S i = true := fun i hi hlt => h i hlt (by rw [e1]; exact passS_mono l2 hi)
  have key : S e.a.toNat = true ∨ S e.b.toNat = true → S e.a.toNat = true ∧ S e.b.toNat = true := by
    intro hh
    have hhit : hit (passS S l1) e = true := by
      unfold hit; rw [Bool.or_eq_true]
      exact hh.imp (passS_mono l1) (passS_mono l1)
    exact ⟨up _ (by unfold stepS; rw [if_pos hhit]; simp) (by omega), up _ (by unfold stepS; rw [if_pos hhit]; simp) (by omega)⟩
  cases ha : S e.a.toNat <;> cases hb' : S e.b.toNat
  · rfl
  · have := (key (.inr hb')).1; rw [ha] at this; cases this
  · have := (key (.inl ha)).2; rw [hb'] at this; cases this
  · rfl
theorem count_lt {S T : Nat → Bool} (h : ∀ i, S i = true → T i = true) {k : Nat} (hk : k < 65) (h1 : S k = false) (h2 : T k = true) : count S + 1 ≤ count T := by
  unfold count
  obtain ⟨r1, r2, hr⟩ := List.append_of_mem (List.mem_range.2 hk)
  have mono : ∀ r : List Nat, (r.filter S).length ≤ (r.filter T).length := by
    intro r
    induction r with
    | nil => simp
    | cons x r ih =>
      simp only [List.filter_cons]
      split
      · rename_i hx; rw [if_pos (h x hx)]; simpa using ih
      · split
        · simp; omega
        · exact ih
  rw [hr]
  simp only [List.filter_append, List.filter_cons, h1, h2, List.length_append, if_true, List.length_cons, Bool.false_eq_true, if_false]
  have := mono r1
  have := mono r2
  omega
theorem rounds_closed {l : List Edge} (hm : ∀ e ∈ l, may e = true) (S : Nat → Bool) (h0 : 1 ≤ count S) : ∀ n, Closed l (roundsS l S n) ∨ n + 1 ≤ count (roundsS l S n)
  | 0 => .inr (by simpa [roundsS] using h0)
  | n + 1 => by
    rcases rounds_closed hm S h0 n with h | h
    · left
      show Closed l (passS (roundsS l S n) l)
      rw [closed_pass h l (fun _ h => h)]; exact h
    · by_cases hs : ∀ i, i < 65 → passS (roundsS l S n) l i = true → roundsS l S n i = true
      · left
        have hc := closed_of_still hm hs
        show Closed l (passS (roundsS l S n) l)
        rw [closed_pass hc l (fun _ h => h)]; exact hc
      · right
        have : ∃ i, i < 65 ∧ passS (roundsS l S n) l i = true ∧ roundsS l S n i = false := by
          apply Classical.byContradiction
          intro hno
          apply hs
          intro i hi hp
          cases hq : roundsS l S n i with
          | true => rfl
          | false => exact absurd ⟨i, hi, hp, hq⟩ hno
        obtain ⟨i, hi, hp, hq⟩ := this
        have := count_lt (T := passS (roundsS l S n) l) (fun j hj => passS_mono l hj) hi hq hp
        show n + 1 + 1 ≤ count (passS (roundsS l S n) l)
        omega
theorem count_le {S : Nat → Bool} (h : S 0 = false) : count S ≤ 64 := by
  unfold count
  rw [List.range_eq_range', show (65 : Nat) = 64 + 1 from rfl, List.range'_succ, List.filter_cons, h]
  simp only [Bool.false_eq_true, if_false]
  have := List.length_filter_le S (List.range' 1 64)
  simpa using this
theorem rounds_within {l : List Edge} {a : Nat} (hm : ∀ e ∈ l, may e = true) {S : Nat → Bool} (h : Within l a S) : ∀ n, Within l a (roundsS l S n)
  | 0 => h
  | n + 1 => (rounds_within hm h n).pass l (fun e he => ⟨he, hm e he⟩)
theorem rounds_mono {l : List Edge} {S : Nat → Bool} {i : Nat} (h : S i = true) : ∀ n, roundsS l S n i = true
  | 0 => h
  | n + 1 => passS_mono l (rounds_mono h n)
theorem reachS_ok {l : List Edge} (hm : ∀ e ∈ l, may e = true) {a : Nat} (ha1 : 1 ≤ a) (ha : a < 65) {x : Nat} : reachS l a x = linked l a x := by
  have hw0 : Within l a (startS a) := by
    intro i hi
    simp [startS] at hi
    subst hi
    exact ⟨ha1, ha, .refl _⟩
  have hw := rounds_within hm hw0 64
  have hc0 : 1 ≤ count (startS a) := by
    have := count_lt (S := fun _ => false) (T := startS a) (fun i h => by cases h) ha rfl (by simp [startS])
    omega
  have hcl : Closed l (reachS l a) := by
    rcases rounds_closed hm (startS a) hc0 64 with h | h
    · exact h
    · exfalso
      have : roundsS l (startS a) 64 0 = false := by
        cases hq : roundsS l (startS a) 64 0 with
        | false => rfl
        | true => exact absurd (hw 0 hq).1 (by omega)
      have := count_le this
      omega
  rw [Bool.eq_iff_iff, linked_iff]
  constructor
  · intro h; exact (hw x h).2.2
  · intro h
    have key : ∀ {p q : Int}, Conn l p q → (reachS l a p.toNat = reachS l a q.toNat) := by
      intro p q c
      induction c with
      | refl _ => rfl
      | edge he => exact hcl _ he
      | symm _ ih => exact ih.symm
      | trans _ _ i1 i2 => exact i1.trans i2
    have hs : reachS l a a = true := rounds_mono (by simp [startS]) 64
    have := key h
    simp only [Int.toNat_natCast] at this
    rw [← this]; exact hs

end Go.Proofs.Ytandminldgiheaa
