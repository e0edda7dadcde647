/- The plain side: all ends of edges. -/
import Derived.Test.YtandminldgiheaaPlain
import Derived.Lib.SlicesCompact
namespace Go.Proofs.Ytandminldgiheaa

def isEnd (l : List Edge) (n : Int) : Bool := l.any (fun e => e.a == n || e.b == n)
def nodesTo (l : List Edge) : Nat → List Int
  | 0 => []
  | m + 1 => nodesTo l m ++ (if isEnd l (m + 1 : Nat) then [((m + 1 : Nat) : Int)] else [])
/-- All ends of edges that are nodes, rising. -/
def nodesOf (l : List Edge) : List Int := nodesTo l 64
theorem isEnd_snoc (l : List Edge) (e : Edge) (n : Int) : isEnd (l ++ [e]) n = (isEnd l n || (e.a == n || e.b == n)) := by simp [isEnd]
theorem nodesTo_length (l : List Edge) (m : Nat) : (nodesTo l m).length ≤ m := by
  induction m with
  | zero => simp [nodesTo]
  | succ m ih =>
    unfold nodesTo
    split <;> simp <;> omega
theorem mem_nodesTo (l : List Edge) (m : Nat) (n : Int) : n ∈ nodesTo l m ↔ 1 ≤ n ∧ n ≤ m ∧ isEnd l n = true := by
  induction m with
  | zero => simp [nodesTo]; omega
  | succ m ih =>
    unfold nodesTo
    rw [List.mem_append, ih]
    constructor
    · rintro (h | h)
      · exact ⟨h.1, by omega, h.2.2⟩
      · split at h
        · simp at h; subst h; rename_i h2; exact ⟨by omega, by omega, by simpa using h2⟩
        · simp at h
    · rintro ⟨h1, h2, h3⟩
      by_cases h : n ≤ m
      · exact .inl ⟨h1, h, h3⟩
      · right
        have : n = ((m + 1 : Nat) : Int) := by omega
        subst this
        rw [if_pos h3]; simp
theorem nodesTo_sorted (l : List Edge) (m : Nat) : (nodesTo l m).Pairwise (· < ·) := by
  induction m with
  | zero => simp [nodesTo]
  | succ m ih =>
    unfold nodesTo
    rw [List.pairwise_append]
    refine ⟨ih, by split <;> simp, fun x hx y hy => ?_⟩
    rw [mem_nodesTo] at hx
    split at hy
    · simp at hy; omega
    · simp at hy
/-- Two rising lists with the same members are one. -/
theorem rising_ext : ∀ {l m : List Int}, l.Pairwise (· < ·) → m.Pairwise (· < ·) → (∀ x, x ∈ l ↔ x ∈ m) → l = m
  | [], [], _, _, _ => rfl
  | [], y :: m, _, _, h => by have := (h y).2 (by simp); simp at this
  | x :: l, [], _, _, h => by have := (h x).1 (by simp); simp at this
  | x :: l, y :: m, hl, hm, h => by
    rw [List.pairwise_cons] at hl hm
    have hxy : x = y := by
      have h1 := (h x).1 (by simp)
      have h2 := (h y).2 (by simp)
      rw [List.mem_cons] at h1 h2
      rcases h1 with h1 | h1
      · exact h1
      · rcases h2 with h2 | h2
        · exact h2.symm
        · have a := hm.1 x h1; have b := hl.1 y h2; omega
    subst hxy
    congr 1
    refine rising_ext hl.2 hm.2 (fun z => ?_)
    have := h z
    simp only [List.mem_cons] at this
    constructor
    · intro hz
      have h1 := hl.1 z hz
      rcases this.1 (.inr hz) with h2 | h2
      · omega
      · exact h2
    · intro hz
      have h1 := hm.1 z hz
      rcases this.2 (.inr hz) with h2 | h2
      · omega
      · exact h2

/-- One edge's ends that are nodes. -/
def endsOf (e : Edge) : List Int := (if node e.a then [e.a] else []) ++ (if node e.b then [e.b] else [])
theorem endsOf_length (e : Edge) : (endsOf e).length ≤ 2 := by unfold endsOf; split <;> split <;> simp
theorem ends_length (l : List Edge) : (l.flatMap endsOf).length ≤ 2 * l.length := by
  induction l with
  | nil => simp
  | cons e l ih =>
    have := endsOf_length e
    rw [List.flatMap_cons, List.length_append, List.length_cons]
    omega
theorem mem_ends (l : List Edge) (n : Int) : n ∈ l.flatMap endsOf ↔ 1 ≤ n ∧ n ≤ 64 ∧ isEnd l n = true := by
  rw [List.mem_flatMap]
  unfold isEnd
  rw [List.any_eq_true]
  have hn : ∀ x : Int, node x = true ↔ 1 ≤ x ∧ x ≤ 64 := by intro x; simp [node]
  constructor
  · rintro ⟨e, he, h⟩
    unfold endsOf at h
    rw [List.mem_append] at h
    rcases h with h | h
    · split at h
      · simp at h; subst h; rename_i h2; rw [hn] at h2; exact ⟨h2.1, h2.2, e, he, by simp⟩
      · simp at h
    · split at h
      · simp at h; subst h; rename_i h2; rw [hn] at h2; exact ⟨h2.1, h2.2, e, he, by simp⟩
      · simp at h
  · rintro ⟨h1, h2, e, he, h⟩
    refine ⟨e, he, ?_⟩
    unfold endsOf
    rw [List.mem_append]
    rw [Bool.or_eq_true, beq_iff_eq, beq_iff_eq] at h
    rcases h with h | h
    · left; rw [h, if_pos ((hn n).2 ⟨h1, h2⟩)]; simp
    · right; rw [h, if_pos ((hn n).2 ⟨h1, h2⟩)]; simp
/-- What stays of a list in order once neighbours that are equal go: it rises, and has the same members. -/
theorem compact_rises (l : List Int) (h : l.Pairwise (· ≤ ·)) : (Go.Lib.compact l).Pairwise (· < ·) ∧ ∀ x, x ∈ Go.Lib.compact l ↔ x ∈ l := by
  have hmono : ∀ i j, i ≤ j → j < l.length → l.toArray[i]! ≤ l.toArray[j]! := by
    intro i j hij hj
    rw [getElem!_pos _ i (by simp; omega), getElem!_pos _ j (by simpa using hj)]
    simp only [List.getElem_toArray]
    rcases Nat.lt_or_ge i j with hlt | hge
    · exact List.pairwise_iff_getElem.1 h i j (by omega) hj hlt
    · obtain rfl : i = j := by omega
      omega
  have key : ∀ m, m ≤ l.length → (Go.Lib.compactUpTo l.toArray m).Pairwise (· < ·) ∧ (∀ x, x ∈ Go.Lib.compactUpTo l.toArray m ↔ ∃ i, i < m ∧ l.toArray[i]! = x) := by
    intro m
    induction m with
    | zero => intro _; simp [Go.Lib.compactUpTo]
    | succ m ih =>
      intro hm
      obtain ⟨ih1, ih2⟩ := ih (by omega)
      rw [Go.Lib.compactUpTo_succ]
      cases hk : Go.Lib.keeps l.toArray m with
      | false =>
        rw [if_neg (by simp), List.append_nil]
        refine ⟨ih1, fun x => ?_⟩
        rw [ih2]
        have hk' : m ≠ 0 ∧ l.toArray[m]! = l.toArray[m - 1]! := by
          unfold Go.Lib.keeps at hk
          rw [decide_eq_false_iff_not, not_or] at hk
          exact ⟨hk.1, Classical.not_not.1 hk.2⟩
        constructor
        · rintro ⟨i, hi, rfl⟩; exact ⟨i, by omega, rfl⟩
        · rintro ⟨i, hi, rfl⟩
          by_cases h2 : i = m
          · subst h2; exact ⟨i - 1, by omega, hk'.2.symm⟩
          · exact ⟨i, by omega, rfl⟩
      | true =>
        rw [if_pos (by simp)]
        refine ⟨?_, fun x => ?_⟩
        · rw [List.pairwise_append]
          refine ⟨ih1, by simp, fun x hx y hy => ?_⟩
          simp only [List.mem_singleton] at hy
          subst hy
          obtain ⟨i, hi, rfl⟩ := (ih2 x).1 hx
          have hk' : m = 0 ∨ l.toArray[m]! ≠ l.toArray[m - 1]! := by
            unfold Go.Lib.keeps at hk
            rwa [decide_eq_true_eq] at hk
          rcases hk' with h0 | h0
          · omega
          · have h1 := hmono i (m - 1) (by omega) (by omega)
            have h2 := hmono (m - 1) m (by omega) (by omega)
            omega
        · rw [List.mem_append, ih2, List.mem_singleton]
          constructor
          · rintro (⟨i, hi, rfl⟩ | rfl)
            · exact ⟨i, by omega, rfl⟩
            · exact ⟨m, by omega, rfl⟩
          · rintro ⟨i, hi, rfl⟩
            by_cases h2 : i = m
            · subst h2; exact .inr rfl
            · exact .inl ⟨i, by omega, rfl⟩
  obtain ⟨k1, k2⟩ := key l.length (Nat.le_refl _)
  refine ⟨k1, fun x => ?_⟩
  show x ∈ Go.Lib.compactUpTo l.toArray l.length ↔ _
  rw [k2]
  constructor
  · rintro ⟨i, hi, rfl⟩
    rw [getElem!_pos _ i (by simpa using hi)]
    simp only [List.getElem_toArray]
    exact List.getElem_mem hi
  · intro hx
    obtain ⟨i, hi, rfl⟩ := List.getElem_of_mem hx
    exact ⟨i, hi, by rw [getElem!_pos _ i (by simpa using hi)]; simp⟩
theorem sort_rises (l : List Int) : (l.mergeSort fun x y => decide (x ≤ y)).Pairwise (· ≤ ·) := by
  have := List.pairwise_mergeSort (le := fun x y : Int => decide (x ≤ y)) (fun a b c h1 h2 => by simp at *; omega) (fun a b => by simp; omega) l
  exact this.imp (fun h => by simpa using h)
/-- All ends of edges in order, each once. -/
theorem nodes_eq (l : List Edge) : Go.Lib.compact ((l.flatMap endsOf).mergeSort fun x y => decide (x ≤ y)) = nodesOf l := by
  have h := compact_rises _ (sort_rises (l.flatMap endsOf))
  refine rising_ext h.1 (nodesTo_sorted l 64) (fun x => ?_)
  rw [h.2, List.mem_mergeSort, mem_ends]
  unfold nodesOf
  rw [mem_nodesTo]
  exact Iff.rfl

end Go.Proofs.Ytandminldgiheaa
