/- The plain side of order: the sorted list is one; insertion. -/
import Derived.Test.YtandminldgiheaaSortW
namespace Go.Proofs.Ytandminldgiheaa

/-- Neither is ahead of the one before it. -/
def InOrder (l : List Edge) : Prop := l.Pairwise (fun x y => ltE y x = false)
theorem ltE_total (x y : Edge) (h1 : ltE x y = false) (h2 : ltE y x = false) : x = y :=
  totE x y (by rw [ltOf_cmpE]; exact h1) (by rw [ltOf_cmpE]; exact h2)
theorem ltE_irrefl (x : Edge) : ltE x x = false := by rw [ltE_not]; omega
theorem ltE_asymm {x y : Edge} (h : ltE x y = true) : ltE y x = false := by rw [ltE_iff] at h; rw [ltE_not]; omega
theorem ltE_trans {x y z : Edge} (h1 : ltE x y = true) (h2 : ltE y z = true) : ltE x z = true := by rw [ltE_iff] at *; omega
theorem ltE_ntrans {x y z : Edge} (h1 : ltE x y = false) (h2 : ltE y z = false) : ltE x z = false := by rw [ltE_not] at *; omega
theorem inOrder_unique : ∀ {l m : List Edge}, InOrder l → InOrder m → l.Perm m → l = m
  | [], m, _, _, h => by have := h.length_eq; cases m with | nil => rfl | cons _ _ => simp at this
  | x :: l, [], _, _, h => by have := h.length_eq; simp at this
  | x :: l, y :: m, hl, hm, h => by
    unfold InOrder at hl hm
    rw [List.pairwise_cons] at hl hm
    have hxy : x = y := by
      have h1 := h.mem_iff.1 (List.mem_cons_self (a := x) (l := l))
      have h2 := h.mem_iff.2 (List.mem_cons_self (a := y) (l := m))
      rw [List.mem_cons] at h1 h2
      rcases h1 with h1 | h1
      · exact h1
      · rcases h2 with h2 | h2
        · exact h2.symm
        · exact ltE_total x y (hm.1 x h1) (hl.1 y h2)
    subst hxy
    congr 1
    exact inOrder_unique hl.2 hm.2 (List.Perm.cons_inv h)
theorem sortE_inOrder (l : List Edge) : InOrder (sortE l) := by
  have := List.pairwise_mergeSort (le := fun x y : Edge => !ltE y x) (fun a b c h1 h2 => by simp at *; exact ltE_ntrans h2 h1) (fun a b => by
    simp
    cases h : ltE b a with
    | false => exact .inl rfl
    | true => exact .inr (ltE_asymm h)) l
  exact this.imp (fun h => by simpa using h)
theorem sortE_perm (l : List Edge) : (sortE l).Perm l := List.mergeSort_perm ..
theorem sortE_of {l m : List Edge} (h : InOrder m) (hp : m.Perm l) : m = sortE l :=
  inOrder_unique h (sortE_inOrder l) (hp.trans (sortE_perm l).symm)
/-- One more goes in at its place. -/
theorem insert_ok {P : List Edge} {x : Edge} {k : Nat} (hk : k ≤ P.length) (hP : InOrder P) (h1 : ∀ y ∈ P.drop k, ltE x y = true) (h2 : ∀ y, 0 < k → P[k - 1]? = some y → ltE x y = false) (l : List Edge) (hl : P.Perm l) :
    P.take k ++ x :: P.drop k = sortE (l ++ [x]) := by
  apply sortE_of
  · unfold InOrder at *
    rw [← List.take_append_drop k P, List.pairwise_append] at hP
    obtain ⟨a1, a2, a3⟩ := hP
    rw [List.pairwise_append, List.pairwise_cons]
    refine ⟨a1, ⟨fun y hy => ltE_asymm (h1 y hy), a2⟩, fun y hy z hz => ?_⟩
    rw [List.mem_cons] at hz
    rcases hz with rfl | hz
    · obtain ⟨i, hi, rfl⟩ := List.getElem_of_mem hy
      have hik : i < k := by rw [List.length_take] at hi; omega
      have hlast := h2 _ (by omega) (List.getElem?_eq_getElem (by omega))
      rw [List.getElem_take]
      by_cases hi2 : i = k - 1
      · subst hi2; exact hlast
      · have hlt : i < k - 1 := by omega
        have := List.pairwise_iff_getElem.1 a1 i (k - 1) hi (by rw [List.length_take]; omega) hlt
        rw [List.getElem_take, List.getElem_take] at this
        exact ltE_ntrans hlast this
    · exact a3 y hy z hz
  · have : (P.take k ++ x :: P.drop k).Perm (x :: P) := by
      have h := List.perm_middle (a := x) (l₁ := P.take k) (l₂ := P.drop k)
      rwa [List.take_append_drop] at h
    exact this.trans ((List.Perm.cons x hl).trans (List.perm_append_singleton x l).symm)

/-- x on its way down through P, R behind. -/
def ins (P : List Edge) (x : Edge) (R : List Edge) (k : Nat) : List Edge := (P.take k ++ x :: P.drop k) ++ R
theorem ins_length (P : List Edge) (x : Edge) (R : List Edge) (k : Nat) : (ins P x R k).length = P.length + 1 + R.length := by
  simp [ins]; omega
theorem ins_start {l P : List Edge} {i : Nat} (hi : i < l.length) (hP : P.length = i) : P ++ l.drop i = ins P l[i] (l.drop (i + 1)) i := by
  subst hP
  unfold ins
  rw [List.take_length, List.drop_length, List.drop_eq_getElem_cons hi]
  simp
theorem ins_at {P : List Edge} {x : Edge} {R : List Edge} {k : Nat} (hk : k ≤ P.length) : (ins P x R k)[k]? = some x := by
  unfold ins
  rw [List.append_assoc, List.getElem?_append_right (by rw [List.length_take]; omega)]
  have : k - (P.take k).length = 0 := by rw [List.length_take]; omega
  rw [this]; simp
theorem ins_before {P : List Edge} {x : Edge} {R : List Edge} {k j : Nat} (hk : k ≤ P.length) (hj : j < k) : (ins P x R k)[j]? = P[j]? := by
  unfold ins
  rw [List.append_assoc, List.getElem?_append_left (by rw [List.length_take]; omega), List.getElem?_take, if_pos hj]
theorem ins_step {P : List Edge} {x y : Edge} {R : List Edge} {k : Nat} (hk : k < P.length) (hy : P[k]? = some y) : ((ins P x R (k + 1)).set (k + 1) y).set k x = ins P x R k := by
  have h1 : P.take (k + 1) = P.take k ++ [y] := by
    rw [List.take_succ_eq_append_getElem hk]
    have := List.getElem?_eq_getElem hk
    rw [this] at hy; rw [Option.some.inj hy]
  have h2 : P.drop k = y :: P.drop (k + 1) := by
    rw [List.drop_eq_getElem_cons hk]
    have := List.getElem?_eq_getElem hk
    rw [this] at hy; rw [Option.some.inj hy]
  have hl : (P.take k).length = k := by rw [List.length_take]; omega
  unfold ins
  rw [h1, h2]
  have e : (P.take k ++ [y] ++ x :: P.drop (k + 1)) ++ R = P.take k ++ (y :: x :: (P.drop (k + 1) ++ R)) := by simp
  have e2 : (P.take k ++ x :: y :: P.drop (k + 1)) ++ R = P.take k ++ (x :: y :: (P.drop (k + 1) ++ R)) := by simp
  rw [e, e2, List.set_append_right _ _ (by omega), List.set_append_right _ _ (by omega), hl]
  have e3 : k + 1 - k = 1 := by omega
  rw [e3, Nat.sub_self]
  rfl

end Go.Proofs.Ytandminldgiheaa
