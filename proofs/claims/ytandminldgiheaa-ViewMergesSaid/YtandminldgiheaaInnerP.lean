/- Plain: the links that both ends know alike; those to other nodes. -/
import Derived.Test.YtandminldgiheaaMergeP
namespace Go.Proofs.Ytandminldgiheaa

/-- A link the other way round. -/
def backK (k : Known) : Known := ⟨k.peer, k.node, 0, 0, false⟩
/-- What the other end knows. -/
def backOf (l : List Known) (k : Known) : Option Known := l.find? fun o => decide (o.node = k.peer) && decide (o.peer = k.node)
def innerOne (l : List Known) (k : Known) : Option Known :=
  match backOf l k with
  | some o => if k.node ≤ k.peer ∧ o.w = k.w ∧ o.session = k.session then some { k with marked := k.marked && o.marked } else none
  | none => none
def innerV (v : View) : List Known := v.links.filterMap (innerOne v.links)
def outerV (v : View) : List Known := v.links.filter fun k => !decide (k.peer ∈ v.nodes)
theorem cmpK_zero (x y : Known) : cmpK x y = 0 ↔ x.node = y.node ∧ x.peer = y.peer := by
  unfold cmpK cmpI orI
  repeat' split
  all_goals (constructor <;> intro h <;> omega)
/-- Where the search ends, it tells of the other end. -/
theorem back_at {l : List Known} (ho : l.Pairwise (fun x y => aheadK x y = true)) {k : Known} {i : Nat}
    (h1 : ∀ (j : Nat) (x : Known), j < i → l[j]? = some x → aheadK x (backK k) = true) (h2 : ∀ (j : Nat) (x : Known), i ≤ j → l[j]? = some x → aheadK x (backK k) = false) :
    (∀ o, l[i]? = some o → cmpK o (backK k) = 0 → backOf l k = some o) ∧ (((l[i]?.map fun x => decide (cmpK x (backK k) = 0)).getD false) = false → backOf l k = none) := by
  have key : ∀ (j : Nat) (x : Known), l[j]? = some x → x.node = k.peer → x.peer = k.node → j = i := by
    intro j x hx e1 e2
    have hz : cmpK x (backK k) = 0 := (cmpK_zero _ _).2 ⟨e1, e2⟩
    by_cases hji : j < i
    · have := h1 j x hji hx
      rw [← cmpK_lt] at this; omega
    · by_cases hij : i < j
      · have hjl := (List.getElem?_eq_some_iff.1 hx).1
        have hil : i < l.length := by omega
        have ha := List.pairwise_iff_getElem.1 ho i j hil hjl hij
        have hn := h2 i _ (Nat.le_refl _) (List.getElem?_eq_getElem hil)
        rw [List.getElem?_eq_getElem hjl] at hx
        obtain rfl := Option.some.inj hx
        have h3 : aheadK l[i] (backK k) = true := by
          unfold aheadK backK at *
          simp at *
          omega
        rw [hn] at h3; cases h3
      · omega
  constructor
  · intro o ho1 hz
    obtain ⟨e1, e2⟩ := (cmpK_zero _ _).1 hz
    have : backOf l k = some o := by
      unfold backOf
      rw [List.find?_eq_some_iff_getElem]
      refine ⟨by simp; exact ⟨e1, e2⟩, i, (List.getElem?_eq_some_iff.1 ho1).1, (List.getElem?_eq_some_iff.1 ho1).2, fun j hj => ?_⟩
      simp only [Bool.not_eq_true', Bool.and_eq_false_iff, decide_eq_false_iff_not]
      have hjl : j < l.length := Nat.lt_trans hj (List.getElem?_eq_some_iff.1 ho1).1
      by_cases h3 : l[j].node = k.peer
      · right
        intro h4
        have := key j _ (List.getElem?_eq_getElem (Nat.lt_trans hj (List.getElem?_eq_some_iff.1 ho1).1)) h3 h4
        omega
      · exact .inl h3
    exact this
  · intro hf
    unfold backOf
    rw [List.find?_eq_none]
    intro x hx hh
    simp at hh
    obtain ⟨j, hj, rfl⟩ := List.getElem_of_mem hx
    have := key j _ (List.getElem?_eq_getElem hj) hh.1 hh.2
    subst this
    rw [List.getElem?_eq_getElem hj] at hf
    simp at hf
    exact hf ((cmpK_zero _ _).2 ⟨hh.1, hh.2⟩)
theorem filterMap_take_succ {α β : Type} (f : α → Option β) {l : List α} {k : Nat} (h : k < l.length) : (l.take (k + 1)).filterMap f = (l.take k).filterMap f ++ (f l[k]).toList := by
  rw [take_succ_at h, List.filterMap_append]
  cases hf : f l[k] <;> simp [hf]
theorem innerV_length (v : View) (k : Nat) : ((v.links.take k).filterMap (innerOne v.links)).length ≤ k := by
  refine Nat.le_trans (List.length_filterMap_le _ _) ?_
  exact List.length_take_le _ _

end Go.Proofs.Ytandminldgiheaa
