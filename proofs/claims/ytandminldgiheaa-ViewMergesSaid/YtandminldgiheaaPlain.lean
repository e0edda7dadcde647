/- The plain side of edges: which may be, their order, and what a check answers. -/
import Derived.Test.YtandminldgiheaaBase
namespace Go.Proofs.Ytandminldgiheaa

def node (n : Int) : Bool := decide (1 ≤ n) && decide (n ≤ 64)
def may (e : Edge) : Bool := node e.a && node e.b && decide (e.a < e.b) && decide (0 ≤ e.w) && decide (e.w ≤ 2147483647)
/-- An error's number: 0 where it holds, else 1. -/
def eArg (b : Bool) : Int := if b then 0 else 1
def cmpI (x y : Int) : Int := if x < y then -1 else if y < x then 1 else 0
def orI (a b : Int) : Int := if a = 0 then b else a
def cmpE (x y : Edge) : Int := orI (cmpI x.w y.w) (orI (cmpI x.a y.a) (cmpI x.b y.b))
def ltE (x y : Edge) : Bool := decide (x.w < y.w ∨ x.w = y.w ∧ (x.a < y.a ∨ x.a = y.a ∧ x.b < y.b))
/-- No two edges of the same ends. -/
def apart : List Edge → Bool
  | [] => true
  | e :: l => l.all (fun x => !(x.a == e.a && x.b == e.b)) && apart l
/-- Why edges may not be together: 0: they may; 1: one may not be, or two have the same ends; 3: they are too many. -/
def check (l : List Edge) : Int := if l.all may && apart l then (if 512 < l.length then 3 else 0) else 1

theorem apart_iff (l : List Edge) : apart l = true ↔ l.Pairwise (fun x y => ¬ (y.a = x.a ∧ y.b = x.b)) := by
  induction l with
  | nil => simp [apart]
  | cons e l ih =>
    simp only [apart, Bool.and_eq_true, ih, List.pairwise_cons, List.all_eq_true, Bool.not_eq_true', Bool.and_eq_false_iff, beq_eq_false_iff_ne]
    exact ⟨fun ⟨h1, h2⟩ => ⟨fun x hx hh => (h1 x hx).elim (· hh.1) (· hh.2), h2⟩, fun ⟨h1, h2⟩ => ⟨fun x hx => by
      by_cases h : x.a = e.a
      · exact .inr fun h' => h1 x hx ⟨h, h'⟩
      · exact .inl h, h2⟩⟩
theorem take_succ_at {α : Type} {l : List α} {k : Nat} (h : k < l.length) : l.take (k + 1) = l.take k ++ [l[k]] := by
  rw [List.take_succ_eq_append_getElem h]
theorem flatMap_take_succ {α β : Type} (f : α → List β) {l : List α} {k : Nat} (h : k < l.length) : (l.take (k + 1)).flatMap f = (l.take k).flatMap f ++ f l[k] := by
  rw [take_succ_at h, List.flatMap_append, List.flatMap_cons, List.flatMap_nil, List.append_nil]
theorem apart_snoc {l : List Edge} {e : Edge} : apart (l ++ [e]) = true ↔ apart l = true ∧ ∀ x ∈ l, ¬ (e.a = x.a ∧ e.b = x.b) := by
  rw [apart_iff, apart_iff, List.pairwise_append]
  simp
theorem apart_take {l : List Edge} (k : Nat) (h : apart l = true) : apart (l.take k) = true := by
  rw [apart_iff] at h ⊢
  exact h.sublist (List.take_sublist k l)
theorem may_bounds {e : Edge} (h : may e = true) : 0 ≤ e.a ∧ e.a < 65 ∧ 0 ≤ e.b ∧ e.b < 65 ∧ e.a < e.b := by
  unfold may node at h; simp at h; omega
theorem check_of_not_may {l : List Edge} {e : Edge} (he : e ∈ l) (h : may e = false) : check l = 1 := by
  unfold check
  rw [if_neg]
  intro hh
  simp only [Bool.and_eq_true, List.all_eq_true] at hh
  rw [hh.1 e he] at h; cases h
theorem check_of_not_apart {l : List Edge} (h : apart l = false) : check l = 1 := by
  unfold check; rw [h]; simp
theorem check_of {l : List Edge} (h1 : ∀ x ∈ l, may x = true) (h2 : apart l = true) : check l = if 512 < l.length then 3 else 0 := by
  unfold check
  rw [if_pos]
  simp only [Bool.and_eq_true, List.all_eq_true]
  exact ⟨h1, h2⟩

theorem cmpE_lt (x y : Edge) : decide (cmpE x y < 0) = ltE x y := by
  unfold cmpE ltE cmpI orI
  rw [Bool.eq_iff_iff]; simp only [decide_eq_true_eq]
  repeat' split
  all_goals (constructor <;> intro h <;> omega)

end Go.Proofs.Ytandminldgiheaa
