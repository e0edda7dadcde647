/- Three rows that grow, one element each, in whatever order: what stands in between. -/
import Derived.Test.YtandminldgiheaaJoinB
import Derived.Deep.AppendLies
namespace Go.Proofs.Ytandminldgiheaa
open Go.RowKit

/-- 'append(v, y)' at a step of a region that draws: y lies in a block of its own. -/
theorem step_append1 {α : Type} {E : α → List Value} {k : Nat} {P : Program} {w : World} (hk : ∀ x, (E x).length = k) (h1c : ∀ x, ∀ v ∈ E x, v.oneCell' = true) {ops : Array Oper} {o : Oper} {a : Act} {K : Act → World → Prop} {Q : Exit → Act → World → Prop} {X : Prop}
    (hgd : o.guard = none) (s x : Operand) (t e : TypeId) (z : Value) (bytes : Nat)
    (ho : o.op = .call { callee := .builtin .append, args := #[s, x], argTypes := #[t, t] }) (ht : P.underlying t = some (.slice e))
    (hinfo : (P.info? e).map (fun i => (i.zero, i.size, i.bytes)) = some (some z, k, bytes)) (hz : z.cells.size = k) (hk0 : 0 < k)
    {base : Nat} {v : Value} {l : List α} {y : α} {B : Nat} {cs : Array Value} {t' : TypeId} {fr : Nat × Nat} (HO : Own E k w base e v l) (hB : w.heap[B]? = some (.cells cs t' fr)) (hcs : cs.toList = E y)
    (hs : a.eval s = v) (hx : a.eval x = .slice (some ⟨B, 0, none⟩) 1 1) (hbase : base ≤ w.heap.size) (hl : (l.length + 1) * bytes ≤ 140737488355328) (hl2 : l.length ≤ 1000000)
    (h : ∀ g cap w1, Own E k w1 base e (.slice (some ⟨g, 0, none⟩) (l.length + 1) cap) (l ++ [y]) → w.grownBy w1 v.ownBlock → (v.ownBlock = some g ∨ g = w.heap.size) → g < w1.heap.size → K (a.put o.dst (.slice (some ⟨g, 0, none⟩) (l.length + 1) cap)) w1) :
    if Region.wanted o (yielded ops a.tmps) = true then Oper.wp P o a w K Q else X := by
  obtain ⟨i0, hi, hzz⟩ := Option.map_eq_some_iff.1 hinfo
  simp only [Prod.mk.injEq] at hzz
  obtain ⟨hz0, hz1, hz2⟩ := hzz
  refine step_append_lies w hgd s x t ho base e i0 z k bytes ht hi hz0 hz1 hz2 hz hk0 v l.length (l.flatMap E) hs HO ⟨B, 0, none⟩ 1 1 (E y) hx (by rw [hk]; omega)
    (fun j u hu => World.news_of_block hB j u (by rw [hcs]; exact hu)) (h1c y) (by omega) (by simp only [maxLen]; omega) hl hbase _ rfl fun g cap w1 h1 h2 h3 h4 => h g cap w1 ?_ h2 h3 h4
  have e1 : (l ++ [y]).flatMap E = l.flatMap E ++ E y := by simp
  show w1.ownsRow base e k _ (l ++ [y]).length _
  rw [e1, List.length_append]
  exact h1

def t3 {α : Type} (a b c : α) : Fin 3 → α := fun i => if i = 0 then a else if i = 1 then b else c
def up3 {α : Type} (f : Fin 3 → α) (i : Fin 3) (v : α) : Fin 3 → α := fun j => if j = i then v else f j
theorem up3_0 {α : Type} (a b c v : α) : up3 (t3 a b c) 0 v = t3 v b c := by funext j; revert j; simp only [up3, t3]; intro j; split <;> simp_all
theorem up3_1 {α : Type} (a b c v : α) : up3 (t3 a b c) 1 v = t3 a v c := by funext j; simp only [up3, t3]; split <;> simp_all
theorem up3_2 {α : Type} (a b c v : α) : up3 (t3 a b c) 2 v = t3 a b v := by
  funext j
  simp only [up3, t3]
  split
  · rename_i h; subst h; rfl
  · rename_i h
    split
    · rfl
    · split
      · rfl
      · exfalso; revert h; omega

/-- In between: J's own cells cs; row i stands in c i and holds l i; what is to come behind it, x i, lies in block p i. -/
structure Mid (w0 w : World) (B base J : Nat) (cs : Array Value) (c : Fin 3 → Value) (l : Fin 3 → List Int) (p : Fin 3 → Option Nat) (x : Fin 3 → Int) : Prop where
  row : w.heap[J]? = some (.cells cs 99 (0, 0))
  jb : base ≤ J
  own : ∀ i, OwnI w base 3 (c i) (l i)
  pend : ∀ i g, p i = some g → w.heap[g]? = some (.cells #[.int .i64 (x i)] 3 (0, 0)) ∧ base ≤ g ∧ g ≠ J
  cJ : ∀ i, (c i).ownBlock ≠ some J
  cc : ∀ i j, i ≠ j → (c i).ownBlock = none ∨ (c i).ownBlock ≠ (c j).ownBlock
  cp : ∀ i j g, p i = some g → (c j).ownBlock ≠ some g
  below : Below B w0 w
  bs : B ≤ base

namespace Mid
variable {w0 w : World} {B base J : Nat} {cs : Array Value} {c : Fin 3 → Value} {l : Fin 3 → List Int} {p : Fin 3 → Option Nat} {x : Fin 3 → Int}
theorem jlt (h : Mid w0 w B base J cs c l p x) : J < w.heap.size := (Array.getElem?_eq_some_iff.1 h.row).1
theorem drew (h : Mid w0 w B base J cs c l p x) : Mid w0 w.drew B base J cs c l p x := ⟨h.row, h.jb, h.own, h.pend, h.cJ, h.cc, h.cp, below_drew h.below, h.bs⟩
theorem build (h : Mid w0 w B base J cs c l p x) (i : Fin 3) : Mid w0 (w.alloc (.cells #[.int .i64 (x i)] 3)) B base J cs c l (up3 p i (some w.heap.size)) x := by
  have hj := h.jlt
  have hjb := h.jb
  refine ⟨?_, h.jb, fun j => (h.own j).alloc _, fun j g hg => ?_, h.cJ, h.cc, fun j k g hg => ?_, h.below.alloc (by have := h.bs; omega) _, h.bs⟩
  · rw [((Below.refl _ w).alloc (Nat.le_refl _) _).block J hj]; exact h.row
  · simp only [up3] at hg
    by_cases e : j = i
    · subst e
      rw [if_pos rfl] at hg
      obtain rfl := Option.some.inj hg
      exact ⟨heap_alloc_new w _, by omega, by omega⟩
    · rw [if_neg e] at hg
      obtain ⟨h1, h2, h3⟩ := h.pend j g hg
      have hlt := (Array.getElem?_eq_some_iff.1 h1).1
      exact ⟨by rw [((Below.refl _ w).alloc (Nat.le_refl _) _).block g hlt]; exact h1, h2, h3⟩
  · simp only [up3] at hg
    by_cases e : j = i
    · subst e
      rw [if_pos rfl] at hg
      obtain rfl := Option.some.inj hg
      intro hh
      have := ((h.own k).lt _ hh).2
      omega
    · rw [if_neg e] at hg
      exact h.cp j k g hg
theorem grow (h : Mid w0 w B base J cs c l p x) (i : Fin 3) {g cap n : Nat} {w1 : World} (ho : OwnI w1 base 3 (.slice (some ⟨g, 0, none⟩) n cap) (l i ++ [x i])) (hg : w.grownBy w1 (c i).ownBlock)
    (hat : (c i).ownBlock = some g ∨ g = w.heap.size) :
    Mid w0 w1 B base J cs (up3 c i (.slice (some ⟨g, 0, none⟩) n cap)) (up3 l i (l i ++ [x i])) (up3 p i none) x := by
  have hj := h.jlt
  have hjb := h.jb
  have hbs := h.bs
  have hob : (Value.slice (some ⟨g, 0, none⟩) n cap).ownBlock = some g := rfl
  have hgJ : g ≠ J := by
    rcases hat with e | e
    · intro e2; subst e2; exact h.cJ i e
    · omega
  refine ⟨?_, h.jb, fun j => ?_, fun j q hq => ?_, fun j => ?_, fun j k hjk => ?_, fun j k q hq => ?_, h.below.grown hg (by omega) (fun b hb => by have := ((h.own i).lt b hb).1; omega), h.bs⟩
  · rw [hg.block J hj (fun e => h.cJ i e.symm)]; exact h.row
  · simp only [up3]
    by_cases e : j = i
    · subst e; rw [if_pos rfl, if_pos rfl]; exact ho
    · rw [if_neg e, if_neg e]
      exact (h.own j).kept hg (h.cc j i e)
  · simp only [up3] at hq
    by_cases e : j = i
    · subst e; rw [if_pos rfl] at hq; cases hq
    · rw [if_neg e] at hq
      obtain ⟨h1, h2, h3⟩ := h.pend j q hq
      have hql := (Array.getElem?_eq_some_iff.1 h1).1
      exact ⟨by rw [hg.block q hql (fun e => h.cp j i q hq e.symm)]; exact h1, h2, h3⟩
  · simp only [up3]
    by_cases e : j = i
    · subst e; rw [if_pos rfl, hob]; exact fun e => hgJ (Option.some.inj e)
    · rw [if_neg e]; exact h.cJ j
  · have other : ∀ m, m ≠ i → (c m).ownBlock ≠ some g := fun m hm e => by
      rcases hat with e2 | e2
      · rcases h.cc m i hm with e3 | e3
        · rw [e3] at e; cases e
        · exact e3 (e.trans e2.symm)
      · have := ((h.own m).lt g e).2; omega
    simp only [up3]
    by_cases e : j = i
    · subst e
      rw [if_pos rfl, hob, if_neg (fun e => hjk e.symm)]
      exact .inr fun e => other k (fun e => hjk e.symm) e.symm
    · rw [if_neg e]
      by_cases e2 : k = i
      · subst e2
        rw [if_pos rfl, hob]
        exact .inr (other j e)
      · rw [if_neg e2]; exact h.cc j k hjk
  · simp only [up3] at hq ⊢
    by_cases e : j = i
    · subst e; rw [if_pos rfl] at hq; cases hq
    · rw [if_neg e] at hq
      have h1 := (h.pend j q hq).1
      have hql := (Array.getElem?_eq_some_iff.1 h1).1
      by_cases e2 : k = i
      · subst e2
        rw [if_pos rfl, hob]
        intro e3
        obtain rfl := Option.some.inj e3
        rcases hat with e4 | e4
        · exact h.cp j k _ hq e4
        · omega
      · rw [if_neg e2]; exact h.cp j k q hq
theorem none_ (h : Mid w0 w B base J cs c l (t3 none none none) x) (y : Fin 3 → Int) : Mid w0 w B base J cs c l (t3 none none none) y := by
  have hn : ∀ i g, ¬ (t3 none none none : Fin 3 → Option Nat) i = some g := by intro i g; simp only [t3]; split <;> (try split) <;> simp
  exact ⟨h.row, h.jb, h.own, fun i g hg => absurd hg (hn i g), h.cJ, h.cc, fun i j g hg => absurd hg (hn i g), h.below, h.bs⟩
theorem fresh (w0 : World) (cs : Array Value) (x : Fin 3 → Int) : Mid w0 (w0.alloc (.cells cs 99)) w0.heap.size w0.heap.size w0.heap.size cs (t3 (.slice none 0 0) (.slice none 0 0) (.slice none 0 0)) (t3 [] [] []) (t3 none none none) x := by
  have hn : ∀ i g, ¬ (t3 none none none : Fin 3 → Option Nat) i = some g := by intro i g; simp only [t3]; split <;> (try split) <;> simp
  have hc : ∀ i, (t3 (.slice none 0 0) (.slice none 0 0) (.slice none 0 0) : Fin 3 → Value) i = .slice none 0 0 := by intro i; simp only [t3]; split <;> (try split) <;> rfl
  have hl : ∀ i, (t3 [] [] [] : Fin 3 → List Int) i = [] := by intro i; simp only [t3]; split <;> (try split) <;> rfl
  refine ⟨heap_alloc_new w0 _, Nat.le_refl _, fun i => by rw [hc, hl]; exact Own.nil _ _ _, fun i g hg => absurd hg (hn i g), fun i => by rw [hc]; simp [Value.ownBlock], fun i j _ => .inl (by rw [hc]; rfl), fun i j g hg => absurd hg (hn i g), (Below.refl _ _).alloc (Nat.le_refl _) _, Nat.le_refl _⟩
theorem cell (h : Mid w0 w B base J cs c l p x) (i : Nat) : w.cell? ⟨J, i, none⟩ = cs[i]? := by rw [cell_of_row w J i cs _ (0, 0) h.row]
theorem frozen (h : Mid w0 w B base J cs c l p x) (i : Nat) : w.frozen? ⟨J, i, none⟩ = false := frozen_of_row w J i cs _ h.row
theorem stored (h : Mid w0 w B base J cs c l p x) (i : Nat) (v : Value) : Mid w0 (w.setCell ⟨J, i, none⟩ v) B base J (cs.setIfInBounds i v) c l p x := by
  have hJ := h.jb
  have hB := h.bs
  refine ⟨heap_setCell_same w J i cs _ v h.row, h.jb, fun j => ownsRow_setCell_other (h.own j) (fun e => h.cJ j e) v, fun j g hg => ?_, h.cJ, h.cc, h.cp, h.below.setCell (by show B ≤ J; omega) v, h.bs⟩
  obtain ⟨h1, h2, h3⟩ := h.pend j g hg
  exact ⟨by rw [Below.heap_setCell _ _ _ _ (by exact h3)]; exact h1, h2, h3⟩
end Mid

end Go.Proofs.Ytandminldgiheaa
