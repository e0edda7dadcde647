/- The plain side of sets that are joined: parents, and what stands for a set. -/
import Derived.Test.YtandminldgiheaaOwn
namespace Go.Proofs.Ytandminldgiheaa

def encN (x : Nat) : List Value := [.int .i64 (x : Int)]
theorem encN_len (x : Nat) : (encN x).length = 1 := rfl
theorem encN_one (x : Nat) : ∀ v ∈ encN x, v.oneCell' = true := by
  intro v hv; simp [encN] at hv; subst hv; rfl
abbrev OwnN := Own encN 1

/-- l holds each number's parent; R x stands for x's set. -/
def UpK (l : List Nat) (R rk : Nat → Nat) : Prop :=
  l.length = 65 ∧ ∀ x y, l[x]? = some y → y < 65 ∧ R y = R x ∧ (y = x → R x = x) ∧ (y ≠ x → rk y < rk x)
def Up (l : List Nat) (R : Nat → Nat) : Prop := ∃ rk : Nat → Nat, UpK l R rk

namespace UpK
variable {l : List Nat} {R rk : Nat → Nat}
theorem len (h : UpK l R rk) : l.length = 65 := h.1
theorem at_lt (h : UpK l R rk) {x y : Nat} (hx : l[x]? = some y) : x < 65 := by
  have := (List.getElem?_eq_some_iff.1 hx).1; rw [h.1] at this; exact this
theorem lt (h : UpK l R rk) {x y : Nat} (hx : l[x]? = some y) : y < 65 := (h.2 x y hx).1
theorem same (h : UpK l R rk) {x y : Nat} (hx : l[x]? = some y) : R y = R x := (h.2 x y hx).2.1
theorem top (h : UpK l R rk) {x : Nat} (hx : l[x]? = some x) : R x = x := (h.2 x x hx).2.2.1 rfl
/-- A parent's parent in a parent's place. -/
theorem half (h : UpK l R rk) {x y z : Nat} (hx : l[x]? = some y) (hy : l[y]? = some z) (hne : y ≠ x) : UpK (l.set x z) R rk ∧ rk z < rk x := by
  obtain ⟨hl, hr⟩ := h
  have hlt : rk z < rk x := by
    obtain ⟨a1, a2, a3, a4⟩ := hr x y hx
    obtain ⟨b1, b2, b3, b4⟩ := hr y z hy
    by_cases he : z = y
    · subst he; exact a4 hne
    · exact Nat.lt_trans (b4 he) (a4 hne)
  refine ⟨⟨by simpa using hl, fun u v hu => ?_⟩, hlt⟩
  rw [List.getElem?_set] at hu
  by_cases hxu : x = u
  · subst hxu
    rw [if_pos rfl] at hu
    split at hu
    · obtain rfl := Option.some.inj hu
      obtain ⟨a1, a2, a3, a4⟩ := hr x y hx
      obtain ⟨b1, b2, b3, b4⟩ := hr y z hy
      exact ⟨b1, b2.trans a2, fun e => absurd hlt (by rw [e]; omega), fun _ => hlt⟩
    · cases hu
  · rw [if_neg hxu] at hu
    exact hr u v hu
end UpK

namespace Up
variable {l : List Nat} {R : Nat → Nat}
theorem len (h : Up l R) : l.length = 65 := h.choose_spec.1
theorem top (h : Up l R) {x : Nat} (hx : l[x]? = some x) : R x = x := h.choose_spec.top hx
/-- Where a climb ends: the last is its set's. -/
theorem rep_lt (h : Up l R) {x : Nat} (hx : x < 65) : R x < 65 := by
  obtain ⟨rk, hl, hr⟩ := h
  suffices H : ∀ n x, rk x = n → x < 65 → R x < 65 from H _ x rfl hx
  intro n
  induction n using Nat.strongRecOn with
  | _ n ih =>
    intro x hn hx
    have hg : l[x]? = some (l[x]'(by omega)) := List.getElem?_eq_getElem (by omega)
    obtain ⟨h1, h2, h3, h4⟩ := hr x _ hg
    by_cases he : l[x]'(by omega) = x
    · rw [h3 he]; exact hx
    · rw [← h2]; exact ih _ (by rw [← hn]; exact h4 he) _ rfl h1
theorem rep_rep (h : Up l R) {x : Nat} (hx : x < 65) : R (R x) = R x := by
  obtain ⟨rk, hl, hr⟩ := h
  suffices H : ∀ n x, rk x = n → x < 65 → R (R x) = R x from H _ x rfl hx
  intro n
  induction n using Nat.strongRecOn with
  | _ n ih =>
    intro x hn hx
    have hg : l[x]? = some (l[x]'(by omega)) := List.getElem?_eq_getElem (by omega)
    obtain ⟨h1, h2, h3, h4⟩ := hr x _ hg
    by_cases he : l[x]'(by omega) = x
    · rw [h3 he, h3 he]
    · rw [← h2]; exact ih _ (by rw [← hn]; exact h4 he) _ rfl h1
/-- Two sets made one: a stands for both. -/
theorem unite (h : Up l R) {a b : Nat} (ha : a < 65) (_hb : b < 65) (hRa : R a = a) (hRb : R b = b) (hne : a ≠ b) : Up (l.set b a) (fun x => if R x = b then a else R x) := by
  obtain ⟨rk, hl, hr⟩ := h
  refine ⟨fun x => if R x = b then rk x + rk a + 1 else rk x, by simpa using hl, fun u v hu => ?_⟩
  rw [List.getElem?_set] at hu
  by_cases hbu : b = u
  · subst hbu
    rw [if_pos rfl] at hu
    split at hu
    · obtain rfl := Option.some.inj hu
      refine ⟨ha, ?_, fun e => absurd e hne, fun _ => ?_⟩
      · simp only [hRa, hRb, if_neg hne, if_true]
      · simp only [hRa, hRb, if_neg hne, if_true]; omega
    · cases hu
  · rw [if_neg hbu] at hu
    obtain ⟨h1, h2, h3, h4⟩ := hr u v hu
    refine ⟨h1, by simp only [h2], fun e => ?_, fun e => ?_⟩
    · have := h3 e
      simp only [this]
      rw [if_neg (Ne.symm hbu)]
    · have := h4 e
      simp only [h2]
      split <;> omega
/-- Each number alone. -/
theorem alone : Up (List.range 65) id := by
  refine ⟨fun _ => 0, by simp, fun x y h => ?_⟩
  obtain ⟨hx, rfl⟩ := List.getElem?_eq_some_iff.1 h
  simp at hx ⊢; exact hx
end Up

end Go.Proofs.Ytandminldgiheaa
