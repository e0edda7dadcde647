/- Plain: the least forest of a forest and one edge more; of edges without one that is not in it. -/
import Derived.Test.YtandminldgiheaaConnP
namespace Go.Proofs.Ytandminldgiheaa

def Strict (l : List Edge) : Prop := l.Pairwise (fun x y => ltE x y = true)
theorem apart_perm {l m : List Edge} (h : l.Perm m) : apart l = true ↔ apart m = true := by
  rw [apart_iff, apart_iff]
  exact h.pairwise_iff (fun h1 h2 => h1 ⟨h2.1.symm, h2.2.symm⟩)
theorem apart_sub {l m : List Edge} (h : l.Sublist m) (hm : apart m = true) : apart l = true := by
  rw [apart_iff] at hm ⊢
  exact hm.sublist h
theorem strict_of {l : List Edge} (h : InOrder l) (ha : apart l = true) : Strict l := by
  rw [apart_iff] at ha
  unfold InOrder at h
  refine (h.and ha).imp ?_
  rintro x y ⟨h1, h2⟩
  cases hxy : ltE x y with
  | true => rfl
  | false =>
    have := ltE_total x y hxy h1
    subst this
    exact absurd ⟨rfl, rfl⟩ h2
theorem strict_sortE {l : List Edge} (ha : apart l = true) : Strict (sortE l) := strict_of (sortE_inOrder l) ((apart_perm (sortE_perm l)).2 ha)
theorem Strict.nodup {l : List Edge} (h : Strict l) : ∀ x y, List.Sublist [x, y] l → x ≠ y := by
  intro x y hs e
  subst e
  have := h.sublist hs
  simp [ltE_irrefl] at this
theorem strict_ext : ∀ {l m : List Edge}, Strict l → Strict m → (∀ x, x ∈ l ↔ x ∈ m) → l = m
  | [], [], _, _, _ => rfl
  | [], y :: m, _, _, h => absurd ((h y).2 (by simp)) (by simp)
  | x :: l, [], _, _, h => absurd ((h x).1 (by simp)) (by simp)
  | x :: l, y :: m, hl, hm, h => by
    unfold Strict at hl hm
    rw [List.pairwise_cons] at hl hm
    have hxy : x = y := by
      have h1 := (h x).1 (by simp)
      have h2 := (h y).2 (by simp)
      rw [List.mem_cons] at h1 h2
      rcases h1 with h1 | h1
      · exact h1
      · rcases h2 with h2 | h2
        · exact h2.symm
        · have a1 := hm.1 x h1
          have a2 := hl.1 y h2
          rw [ltE_asymm a1] at a2; cases a2
    subst hxy
    congr 1
    refine strict_ext hl.2 hm.2 (fun z => ?_)
    constructor
    · intro hz
      have := (h z).1 (List.mem_cons_of_mem _ hz)
      rcases List.mem_cons.1 this with e | e
      · subst e; have := hl.1 z hz; rw [ltE_irrefl] at this; cases this
      · exact e
    · intro hz
      have := (h z).2 (List.mem_cons_of_mem _ hz)
      rcases List.mem_cons.1 this with e | e
      · subst e; have := hm.1 z hz; rw [ltE_irrefl] at this; cases this
      · exact e

/-- Those ahead of x. -/
def ahead (l : List Edge) (x : Edge) : List Edge := l.filter (fun y => ltE y x)
theorem mem_ahead {l : List Edge} {x y : Edge} : y ∈ ahead l x ↔ y ∈ l ∧ ltE y x = true := by simp [ahead]

theorem mem_growAll {s : List Edge} (hs : Strict s) (x : Edge) : x ∈ growAll s ↔ (x ∈ s ∧ ¬ Conn (ahead s x) x.a x.b) := by
  induction s using rev_ind with
  | h0 => simp [growAll]
  | h1 s e ih =>
    have hs0 : Strict s := hs.sublist (List.sublist_append_left _ _)
    have hlt : ∀ y ∈ s, ltE y e = true := fun y hy => by
      unfold Strict at hs
      rw [List.pairwise_append] at hs
      exact hs.2.2 y hy e (by simp)
    have he : e ∉ s := fun h => by have := hlt e h; rw [ltE_irrefl] at this; cases this
    have ih := ih hs0
    have a1 : ∀ x ∈ s, ahead (s ++ [e]) x = ahead s x := fun x hx => by
      unfold ahead
      rw [List.filter_append]
      have : ltE e x = false := ltE_asymm (hlt x hx)
      simp [this]
    have a2 : ahead (s ++ [e]) e = s := by
      unfold ahead
      rw [List.filter_append, List.filter_eq_self.2 (fun y hy => by simpa using hlt y hy)]
      simp [ltE_irrefl]
    rw [growAll_snoc, grow1, linked_growAll]
    by_cases hx : x = e
    · subst hx
      rw [a2]
      cases hq : linked s x.a x.b
      · rw [linked_false] at hq
        simp [hq]
      · rw [linked_iff] at hq
        simp only [if_true, hq, not_true_eq_false, and_false, iff_false]
        intro h
        exact he ((growAll_sub s).subset h)
    · have hm : x ∈ s ++ [e] ↔ x ∈ s := by simp [hx]
      rw [hm]
      have hg : x ∈ (if linked s e.a e.b = true then growAll s else growAll s ++ [e]) ↔ x ∈ growAll s := by
        split
        · rfl
        · simp [hx]
      rw [hg, ih]
      constructor
      · rintro ⟨h1, h2⟩; exact ⟨h1, by rw [a1 x h1]; exact h2⟩
      · rintro ⟨h1, h2⟩; exact ⟨h1, by rw [a1 x h1] at h2; exact h2⟩

theorem ahead_conn {l m : List Edge} (h : ∀ x, x ∈ l ↔ x ∈ m) (x : Edge) {a b : Int} : Conn (ahead l x) a b ↔ Conn (ahead m x) a b :=
  conn_perm fun e => by rw [mem_ahead, mem_ahead, h e]
theorem mem_sortE {l : List Edge} {x : Edge} : x ∈ sortE l ↔ x ∈ l := (sortE_perm l).mem_iff
theorem mem_least {l : List Edge} (ha : apart l = true) (x : Edge) : x ∈ least l ↔ (x ∈ l ∧ ¬ Conn (ahead l x) x.a x.b) := by
  rw [least, mem_growAll (strict_sortE ha), mem_sortE, ahead_conn (fun x => mem_sortE) x]
theorem least_sub (l : List Edge) : (least l).Sublist (sortE l) := growAll_sub _
theorem least_mem {l : List Edge} {x : Edge} (h : x ∈ least l) : x ∈ l := mem_sortE.1 ((least_sub l).subset h)
theorem least_apart {l : List Edge} (ha : apart l = true) : apart (least l) = true := apart_sub (least_sub l) ((apart_perm (sortE_perm l)).2 ha)
theorem least_strict {l : List Edge} (ha : apart l = true) : Strict (least l) := (strict_sortE ha).sublist (least_sub l)
theorem least_ext {l m : List Edge} (hl : apart l = true) (hm : apart m = true) (h : ∀ x, x ∈ least l ↔ x ∈ least m) : least l = least m :=
  strict_ext (least_strict hl) (least_strict hm) h
theorem least_length (l : List Edge) : (least l).length ≤ l.length := by
  have := (least_sub l).length_le
  rw [(sortE_perm l).length_eq] at this; exact this

/-- The least forest links, of those ahead of x, what they link. -/
theorem ahead_least {l : List Edge} (ha : apart l = true) (x : Edge) {a b : Int} : Conn (ahead (least l) x) a b ↔ Conn (ahead l x) a b := by
  constructor
  · exact Conn.mono fun e he => by rw [mem_ahead] at he ⊢; exact ⟨least_mem he.1, he.2⟩
  · refine Conn.of_all fun e he => ?_
    rw [mem_ahead] at he
    have hs := strict_sortE ha
    have hes : e ∈ sortE l := mem_sortE.2 he.1
    obtain ⟨i, hi, rfl⟩ := List.getElem_of_mem hes
    have hc : Conn (growAll ((sortE l).take (i + 1))) (sortE l)[i].a (sortE l)[i].b := by
      rw [growAll_conn]
      exact .edge (by rw [take_succ_at hi]; exact List.mem_append_right _ (List.mem_singleton.2 rfl))
    refine hc.mono fun y hy => ?_
    rw [mem_ahead]
    have hyt := (growAll_sub _).subset hy
    constructor
    · have hpre : ∀ (r : List Edge), y ∈ growAll ((sortE l).take (i + 1) ++ r) := by
        intro r
        induction r using rev_ind with
        | h0 => simpa using hy
        | h1 r e ih =>
          rw [← List.append_assoc, growAll_snoc, grow1]
          split
          · exact ih
          · exact List.mem_append_left _ ih
      have := hpre ((sortE l).drop (i + 1))
      rwa [List.take_append_drop] at this
    · rw [take_succ_at hi, List.mem_append] at hyt
      rcases hyt with h | h
      · obtain ⟨j, hj, rfl⟩ := List.getElem_of_mem h
        rw [List.length_take] at hj
        have hji : j < i := by omega
        have : ltE (sortE l)[j] (sortE l)[i] = true := List.pairwise_iff_getElem.1 hs j i (by omega) hi hji
        rw [List.getElem_take]
        exact ltE_trans this he.2
      · simp at h; subst h; exact he.2

theorem apart_left {l m : List Edge} (h : apart (l ++ m) = true) : apart l = true := apart_sub (List.sublist_append_left _ _) h
theorem least_more {l : List Edge} {e : Edge} (ha : apart (l ++ [e]) = true) : apart (least l ++ [e]) = true := by
  rw [apart_snoc] at ha ⊢
  exact ⟨least_apart ha.1, fun x hx => ha.2 x (least_mem hx)⟩
theorem ahead_append (l m : List Edge) (x : Edge) : ahead (l ++ m) x = ahead l x ++ ahead m x := by simp [ahead]
theorem conn_append {l l' m : List Edge} (h : ∀ {a b : Int}, Conn l a b ↔ Conn l' a b) {a b : Int} : Conn (l ++ m) a b ↔ Conn (l' ++ m) a b := by
  constructor
  · refine Conn.of_all fun e he => ?_
    rcases List.mem_append.1 he with he | he
    · exact (h.1 (.edge he)).mono fun x hx => List.mem_append_left _ hx
    · exact .edge (List.mem_append_right _ he)
  · refine Conn.of_all fun e he => ?_
    rcases List.mem_append.1 he with he | he
    · exact (h.2 (.edge he)).mono fun x hx => List.mem_append_left _ hx
    · exact .edge (List.mem_append_right _ he)
/-- Of edges and one more: of their least forest and it. -/
theorem least_grows {l : List Edge} {e : Edge} (ha : apart (l ++ [e]) = true) : least (l ++ [e]) = least (least l ++ [e]) := by
  have hal := apart_left ha
  have hm := least_more ha
  refine least_ext ha hm fun x => ?_
  rw [mem_least ha, mem_least hm, ahead_append, ahead_append, conn_append (fun {a b} => (ahead_least hal x (a := a) (b := b)).symm)]
  constructor
  · rintro ⟨h1, h2⟩
    refine ⟨?_, h2⟩
    rcases List.mem_append.1 h1 with h | h
    · refine List.mem_append_left _ ((mem_least hal x).2 ⟨h, fun hc => h2 ?_⟩)
      exact (((ahead_least hal x).2 hc).mono fun y hy => List.mem_append_left _ hy)
    · exact List.mem_append_right _ h
  · rintro ⟨h1, h2⟩
    exact ⟨by
      rcases List.mem_append.1 h1 with h | h
      · exact List.mem_append_left _ (least_mem h)
      · exact List.mem_append_right _ h, h2⟩
/-- Of edges without some that are not in it: the same. -/
theorem least_less {l m : List Edge} (hl : apart l = true) (hm : apart m = true) (h1 : ∀ x ∈ m, x ∈ l) (h2 : ∀ x ∈ least l, x ∈ m) : least m = least l := by
  refine least_ext hm hl fun x => ?_
  have hc : ∀ {a b : Int}, Conn (ahead m x) a b ↔ Conn (ahead l x) a b := by
    intro a b
    constructor
    · exact Conn.mono fun y hy => by rw [mem_ahead] at hy ⊢; exact ⟨h1 y hy.1, hy.2⟩
    · intro c
      exact ((ahead_least hl x).2 c).mono fun y hy => by rw [mem_ahead] at hy ⊢; exact ⟨h2 y hy.1, hy.2⟩
  rw [mem_least hm, mem_least hl, hc]
  constructor
  · rintro ⟨a1, a2⟩; exact ⟨h1 x a1, a2⟩
  · rintro ⟨a1, a2⟩; exact ⟨h2 x ((mem_least hl x).2 ⟨a1, a2⟩), a2⟩

theorem apart_of_check {l : List Edge} (h : check l = 0) : apart l = true := by
  unfold check at h
  split at h
  · rename_i hh
    simp only [Bool.and_eq_true] at hh
    exact hh.2
  · cases h
theorem mays_of_check {l : List Edge} (h : check l = 0) : ∀ e ∈ l, may e = true := by
  unfold check at h
  split at h
  · rename_i hh
    simp only [Bool.and_eq_true, List.all_eq_true] at hh
    exact hh.1
  · cases h
theorem check_sub {l m : List Edge} (h : check l = 0) (h1 : ∀ x ∈ m, x ∈ l) (h2 : apart m = true) (h3 : m.length ≤ 512) : check m = 0 := by
  rw [check_of (fun x hx => mays_of_check h x (h1 x hx)) h2, if_neg (by omega)]
theorem apart_cut {l : List Edge} (h : apart l = true) (i : Nat) : apart (l.take i ++ l.drop (i + 1)) = true :=
  apart_sub (by
    have h1 : (l.drop (i + 1)).Sublist (l.drop i) := by
      rw [← List.drop_drop]
      exact List.drop_sublist _ _
    have := (List.Sublist.refl (l.take i)).append h1
    rwa [List.take_append_drop] at this) h
/-- One that is not in the least forest taken out. -/
theorem least_cut {l : List Edge} (ha : apart l = true) {i : Nat} (hi : i < l.length) (hn : l[i] ∉ least l) : least (l.take i ++ l.drop (i + 1)) = least l := by
  refine least_less ha (apart_cut ha i) (fun x hx => ?_) (fun x hx => ?_)
  · rcases List.mem_append.1 hx with h | h
    · exact List.mem_of_mem_take h
    · exact List.mem_of_mem_drop h
  · have hxl := least_mem hx
    obtain ⟨j, hj, rfl⟩ := List.getElem_of_mem hxl
    have hne : j ≠ i := fun e => by subst e; exact hn hx
    rw [List.mem_append]
    by_cases hlt : j < i
    · left
      rw [List.mem_iff_getElem]
      exact ⟨j, by rw [List.length_take]; omega, by rw [List.getElem_take]⟩
    · right
      rw [List.mem_iff_getElem]
      exact ⟨j - (i + 1), by rw [List.length_drop]; omega, by rw [List.getElem_drop]; congr 1; omega⟩

end Go.Proofs.Ytandminldgiheaa
