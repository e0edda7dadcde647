/- An element of a row of the call's own is stored anew; a row's cells; clear. -/
import Derived.Test.YtandminldgiheaaOwn
namespace Go.Proofs.Ytandminldgiheaa
open Go.RowKit

def setMany {α : Type} (xs : List α) : Nat → List α → List α
  | _, [] => xs
  | o, v :: r => setMany (xs.set o v) (o + 1) r
theorem setMany_length {α : Type} : ∀ (vs xs : List α) (o : Nat), (setMany xs o vs).length = xs.length
  | [], _, _ => rfl
  | v :: r, xs, o => by rw [setMany, setMany_length r]; simp
theorem setMany_get {α : Type} : ∀ (vs xs : List α) (o t : Nat), o + vs.length ≤ xs.length → (setMany xs o vs)[t]? = if o ≤ t ∧ t < o + vs.length then vs[t - o]? else xs[t]?
  | [], xs, o, t, _ => by simp [setMany]; intro h1 h2; omega
  | v :: r, xs, o, t, h => by
    simp only [List.length_cons] at h
    rw [setMany, setMany_get r _ _ _ (by simp; omega)]
    by_cases h1 : t = o
    · subst h1
      rw [if_neg (by omega), if_pos (by simp), List.getElem?_set_self (by omega)]
      simp
    · by_cases h2 : o + 1 ≤ t ∧ t < o + 1 + r.length
      · rw [if_pos h2, if_pos (by simp; omega)]
        have : t - o = (t - (o + 1)) + 1 := by omega
        rw [this]; simp
      · rw [if_neg h2, if_neg (by simp; omega), List.getElem?_set_ne (fun e => h1 e.symm)]
section
variable {α : Type} {E : α → List Value} {k : Nat} {w : World} {base g n cap : Nat} {e : TypeId} {l : List α}
theorem flat_set (hk : ∀ x, (E x).length = k) (l : List α) (j : Nat) (hj : j < l.length) (x : α) : (l.set j x).flatMap E = setMany (l.flatMap E) (j * k) (E x) := by
  have hle : j * k + k ≤ l.length * k := by
    have := Nat.mul_le_mul_right k (show j + 1 ≤ l.length by omega)
    rw [Nat.add_mul] at this; omega
  apply List.ext_getElem?
  intro t
  rw [setMany_get _ _ _ _ (by rw [flat_length hk, hk]; exact hle), hk]
  by_cases ht : t < l.length * k
  · have hk0 : 0 < k := by
      rcases Nat.eq_zero_or_pos k with h | h
      · subst h; simp at ht
      · exact h
    have hq : t / k < l.length := (Nat.div_lt_iff_lt_mul hk0).2 ht
    have hm : t % k < k := Nat.mod_lt _ hk0
    have e0 : t / k * k + t % k = t := by rw [Nat.mul_comm]; exact Nat.div_add_mod t k
    have r1 := flat_get hk (l.set j x) (t / k) _ (t % k) (List.getElem?_eq_getElem (by simpa using hq)) hm
    have r2 := flat_get hk l (t / k) _ (t % k) (List.getElem?_eq_getElem hq) hm
    rw [e0] at r1 r2
    rw [r1]
    by_cases hjt : j = t / k
    · subst hjt
      rw [if_pos (by omega)]
      have : (l.set (t / k) x)[t / k]'(by simpa using hq) = x := by simp
      rw [this]
      congr 1; omega
    · rw [List.getElem_set_ne hjt, if_neg, r2]
      intro h
      apply hjt
      have a1 : j * k ≤ t := h.1
      have a2 : t < (j + 1) * k := by rw [Nat.add_mul]; omega
      exact ((Nat.div_eq_iff hk0).2 ⟨by omega, by rw [Nat.add_mul] at a2; omega⟩).symm
  · rw [if_neg (by omega), List.getElem?_eq_none (by rw [flat_length hk]; simp; omega), List.getElem?_eq_none (by rw [flat_length hk]; omega)]
theorem row_setMany : ∀ (vs : List Value) (o : Nat) (w : World) (xs : List Value), w.ownsRow base e k (.slice (some ⟨g, 0, none⟩) n cap) n xs → (w.setCells g o vs).ownsRow base e k (.slice (some ⟨g, 0, none⟩) n cap) n (setMany xs o vs)
  | [], _, _, _, h => h
  | v :: r, o, w, xs, h => row_setMany r (o + 1) _ _ (World.ownsRow.stored h o v).1
/-- An element stored anew. -/
theorem Own.set (hk : ∀ x, (E x).length = k) (h : Own E k w base e (.slice (some ⟨g, 0, none⟩) n cap) l) (hn : n = l.length) (j : Nat) (hj : j < l.length) (x : α) :
    Own E k (w.setCells g (j * k) (E x)) base e (.slice (some ⟨g, 0, none⟩) n cap) (l.set j x) := by
  subst hn
  have h1 := row_setMany (E x) (j * k) w _ h
  rw [← flat_set hk l j hj x] at h1
  show World.ownsRow _ base e k _ (l.set j x).length _
  rw [List.length_set]
  exact h1
/-- The cells of an element, which may be written. -/
theorem Own.cellOf (hk : ∀ x, (E x).length = k) (h : Own E k w base e (.slice (some ⟨g, 0, none⟩) n cap) l) (hn : n = l.length) (j : Nat) (hj : j < l.length) (i : Nat) (u : Value) (hu : (E l[j])[i]? = some u) :
    w.cell? ⟨g, j * k + i, none⟩ = some u ∧ w.frozen? ⟨g, j * k + i, none⟩ = false := by
  subst hn
  have hi : i < k := by
    have := (List.getElem?_eq_some_iff.1 hu).1
    rwa [hk] at this
  have hle : j * k + k ≤ l.length * k := by
    have := Nat.mul_le_mul_right k (show j + 1 ≤ l.length by omega)
    rw [Nat.add_mul] at this; omega
  have h1 := World.ownsRow.cellAt h (j * k + i) (by omega)
  have h2 := World.ownsRow.frozenAt h (j * k + i)
  rw [flat_get hk l j _ i (List.getElem?_eq_getElem hj) hi, hu] at h1
  exact ⟨h1, h2⟩
theorem own_clear (hn : n = l.length) (vs : List Value) : ∀ (o : Nat) (w : World), Own E k w base e (.slice (some ⟨g, 0, none⟩) n cap) l → (l.flatMap E).length ≤ o → Own E k (w.setCells g o vs) base e (.slice (some ⟨g, 0, none⟩) n cap) l := by
  subst hn
  induction vs with
  | nil => exact fun o w h _ => h
  | cons v r ih =>
    intro o w h ho
    refine ih (o + 1) _ ?_ (by omega)
    have h1 := (World.ownsRow.stored h o v).1
    rw [List.set_eq_of_length_le ho] at h1
    exact h1
theorem below_setCells {B : Nat} (hg : B ≤ g) : ∀ (vs : List Value) (o : Nat) (w0 w : World), Below B w0 w → Below B w0 (w.setCells g o vs)
  | [], _, _, _, h => h
  | v :: r, o, _, _, h => below_setCells hg r (o + 1) _ _ (h.setCell hg v)
end

end Go.Proofs.Ytandminldgiheaa
