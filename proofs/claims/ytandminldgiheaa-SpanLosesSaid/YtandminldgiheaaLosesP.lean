/- Plain: what comes in place of an edge that is lost. -/
import Derived.Test.YtandminldgiheaaGrowsP
namespace Go.Proofs.Ytandminldgiheaa

/-- All but x. -/
def but (l : List Edge) (x : Edge) : List Edge := l.filter (fun y => !decide (y = x))
theorem mem_but {l : List Edge} {x y : Edge} : y ∈ but l x ↔ y ∈ l ∧ y ≠ x := by simp [but]
theorem but_sub (l : List Edge) (x : Edge) : (but l x).Sublist l := List.filter_sublist

/-- No circle. -/
def Free (l : List Edge) : Prop := ∀ e ∈ l, ¬ Conn (but l e) e.a e.b
theorem free_snoc {l : List Edge} {e : Edge} (h : Free l) (he : ¬ Conn l e.a e.b) : Free (l ++ [e]) := by
  have hel : e ∉ l := fun hm => he (.edge hm)
  intro x hx hc
  rcases List.mem_append.1 hx with hx | hx
  · have hc' : Conn (but l x ++ [e]) x.a x.b := hc.mono fun y hy => by
      rw [mem_but] at hy
      rcases List.mem_append.1 hy.1 with h1 | h1
      · exact List.mem_append_left _ (mem_but.2 ⟨h1, hy.2⟩)
      · exact List.mem_append_right _ h1
    have up : ∀ {a b : Int}, Conn (but l x) a b → Conn l a b := fun c => c.mono fun y hy => (mem_but.1 hy).1
    have hxe : Conn l x.a x.b := .edge hx
    rcases conn_snoc.1 hc' with h1 | ⟨h1, h2⟩ | ⟨h1, h2⟩
    · exact h x hx h1
    · exact he ((((up h1).symm).trans hxe).trans (up h2).symm)
    · exact he (((up h2).trans hxe.symm).trans (up h1))
  · simp at hx
    subst hx
    refine he (hc.mono fun y hy => ?_)
    rw [mem_but] at hy
    rcases List.mem_append.1 hy.1 with h1 | h1
    · exact h1
    · simp at h1; exact absurd h1 hy.2
theorem free_growAll (s : List Edge) : Free (growAll s) := by
  induction s using rev_ind with
  | h0 => intro e he; simp [growAll] at he
  | h1 s e ih =>
    rw [growAll_snoc, grow1]
    split
    · exact ih
    · rename_i h
      exact free_snoc ih (by rw [linked_iff] at h; exact h)
theorem apart_inj {l : List Edge} (ha : apart l = true) {x y : Edge} (hx : x ∈ l) (hy : y ∈ l) (h1 : x.a = y.a) (h2 : x.b = y.b) : x = y := by
  rw [apart_iff] at ha
  obtain ⟨i, hi, rfl⟩ := List.getElem_of_mem hx
  obtain ⟨j, hj, rfl⟩ := List.getElem_of_mem hy
  rcases Nat.lt_trichotomy i j with h | h | h
  · exact absurd ⟨h1.symm, h2.symm⟩ (List.pairwise_iff_getElem.1 ha i j hi hj h)
  · subst h; rfl
  · exact absurd ⟨h1, h2⟩ (List.pairwise_iff_getElem.1 ha j i hj hi h)

section
variable {l : List Edge} {cut : Edge}
/-- One that bridges what the cut has parted, is linked with the cut's two ends by what is ahead of it. -/
theorem bridge (ha : apart l = true) {x : Edge} (hx : x ∈ but l cut) (hn : ¬ Conn (but (least l) cut) x.a x.b) :
    (Conn (ahead (but (least l) cut) x) x.a cut.a ∧ Conn (ahead (but (least l) cut) x) cut.b x.b) ∨ (Conn (ahead (but (least l) cut) x) x.a cut.b ∧ Conn (ahead (but (least l) cut) x) cut.a x.b) := by
  rw [mem_but] at hx
  have hxl : x ∉ least l := fun h => hn (.edge (mem_but.2 ⟨h, hx.2⟩))
  have hc : Conn (ahead l x) x.a x.b := by
    apply Classical.byContradiction
    intro h
    exact hxl ((mem_least ha x).2 ⟨hx.1, h⟩)
  have hc2 := (ahead_least ha x).2 hc
  have hc3 : Conn (ahead (but (least l) cut) x ++ [cut]) x.a x.b := hc2.mono fun y hy => by
    rw [mem_ahead] at hy
    by_cases e : y = cut
    · subst e; simp
    · exact List.mem_append_left _ (mem_ahead.2 ⟨mem_but.2 ⟨hy.1, e⟩, hy.2⟩)
  rcases conn_snoc.1 hc3 with h | h | h
  · exact absurd (h.mono fun y hy => (mem_ahead.1 hy).1) hn
  · exact .inl h
  · exact .inr h

theorem kept_in (ha : apart l = true) {x : Edge} (hx : x ∈ but (least l) cut) : x ∈ least (but l cut) := by
  rw [mem_but] at hx
  have h1 := (mem_least ha x).1 hx.1
  refine (mem_least (apart_sub (but_sub l cut) ha) x).2 ⟨mem_but.2 ⟨h1.1, hx.2⟩, fun c => h1.2 (c.mono fun y hy => ?_)⟩
  rw [mem_ahead, mem_but] at hy
  exact mem_ahead.2 ⟨hy.1.1, hy.2⟩
theorem new_cand (ha : apart l = true) {x : Edge} (hx : x ∈ least (but l cut)) (hk : x ∉ but (least l) cut) : ¬ Conn (but (least l) cut) x.a x.b := by
  intro c
  refine free_growAll (sortE (but l cut)) x hx (c.mono fun y hy => ?_)
  exact mem_but.2 ⟨kept_in ha hy, fun e => hk (by subst e; exact hy)⟩

theorem loses_none (ha : apart l = true) (h : ∀ y ∈ but l cut, Conn (but (least l) cut) y.a y.b) : least (but l cut) = sortE (but (least l) cut) := by
  have hk : apart (but (least l) cut) = true := apart_sub (but_sub _ _) (least_apart ha)
  refine strict_ext (least_strict (apart_sub (but_sub l cut) ha)) (strict_sortE hk) fun x => ?_
  rw [mem_sortE]
  constructor
  · intro hx
    apply Classical.byContradiction
    intro hn
    exact new_cand ha hx hn (h x (least_mem hx))
  · exact kept_in ha

theorem loses_some (ha : apart l = true) {best : Edge} (hb : best ∈ but l cut) (hbn : ¬ Conn (but (least l) cut) best.a best.b)
    (hmin : ∀ y ∈ but l cut, ¬ Conn (but (least l) cut) y.a y.b → ltE y best = false) : least (but l cut) = sortE (but (least l) cut ++ [best]) := by
  have hr : apart (but l cut) = true := apart_sub (but_sub l cut) ha
  have hk : apart (but (least l) cut ++ [best]) = true := by
    rw [apart_snoc]
    refine ⟨apart_sub (but_sub _ _) (least_apart ha), fun y hy hh => ?_⟩
    have : best = y := apart_inj ha (mem_but.1 hb).1 (least_mem (mem_but.1 hy).1) hh.1 hh.2
    subst this
    exact hbn (.edge hy)
  refine strict_ext (least_strict hr) (strict_sortE hk) fun x => ?_
  rw [mem_sortE, List.mem_append, List.mem_singleton]
  constructor
  · intro hx
    by_cases hxk : x ∈ but (least l) cut
    · exact .inl hxk
    · right
      have hxc := new_cand ha hx hxk
      have hxr := least_mem hx
      have h1 := hmin x hxr hxc
      cases h2 : ltE best x with
      | false => exact ltE_total x best h1 h2
      | true =>
        exfalso
        refine ((mem_least hr x).1 hx).2 ?_
        have up : ∀ {a b : Int}, Conn (ahead (but (least l) cut) x) a b → Conn (ahead (but l cut) x) a b := fun c => c.mono fun y hy => by
          rw [mem_ahead, mem_but] at hy
          exact mem_ahead.2 ⟨mem_but.2 ⟨least_mem hy.1.1, hy.1.2⟩, hy.2⟩
        have up2 : ∀ {a b : Int}, Conn (ahead (but (least l) cut) best) a b → Conn (ahead (but l cut) x) a b := fun c => up (c.mono fun y hy => by
          rw [mem_ahead] at hy
          exact mem_ahead.2 ⟨hy.1, ltE_trans hy.2 h2⟩)
        have hbe : Conn (ahead (but l cut) x) best.a best.b := .edge (mem_ahead.2 ⟨hb, h2⟩)
        have hcut : Conn (ahead (but l cut) x) cut.a cut.b := by
          rcases bridge ha hb hbn with ⟨c1, c2⟩ | ⟨c1, c2⟩
          · exact (((up2 c1).symm).trans hbe).trans (up2 c2).symm
          · exact ((up2 c2).trans hbe.symm).trans (up2 c1)
        rcases bridge ha hxr hxc with ⟨c1, c2⟩ | ⟨c1, c2⟩
        · exact ((up c1).trans hcut).trans (up c2)
        · exact ((up c1).trans hcut.symm).trans (up c2)
  · rintro (hx | rfl)
    · exact kept_in ha hx
    · refine (mem_least hr x).2 ⟨hb, fun c => hbn (c.of_all fun y hy => ?_)⟩
      rw [mem_ahead] at hy
      apply Classical.byContradiction
      intro hn
      have := hmin y hy.1 hn
      rw [hy.2] at this; cases this
end

end Go.Proofs.Ytandminldgiheaa
