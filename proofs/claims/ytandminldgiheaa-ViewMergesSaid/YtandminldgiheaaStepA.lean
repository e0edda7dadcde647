/- An append of one at a step of a region that draws its order. -/
import Derived.Test.YtandminldgiheaaOwn
import Derived.Deep.AppendLies
namespace Go.Proofs.Ytandminldgiheaa
open Go.RowKit

/-- 'append(v, y)' at a step of a region that draws: y lies in a block of its own. -/
theorem step_append1 {α : Type} {E : α → List Value} {k : Nat} {P : Program} {w : World} (hk : ∀ x, (E x).length = k) (h1c : ∀ x, ∀ v ∈ E x, v.oneCell' = true) {ops : Array Oper} {o : Oper} {a : Act} {K : Act → World → Prop} {Q : Exit → Act → World → Prop} {X : Prop}
    (hgd : o.guard = none) (s x : Operand) (t e : TypeId) (z : Value) (bytes : Nat)
    (ho : o.op = .call { callee := .builtin .append, args := #[s, x], argTypes := #[t, t] }) (ht : P.underlying t = some (.slice e))
    (hinfo : (P.info? e).map (fun i => (i.zero, i.size, i.bytes)) = some (some z, k, bytes)) (hz : z.cells.size = k) (hk0 : 0 < k)
    {base : Nat} {v : Value} {l : List α} {y : α} {B : Nat} {cs : Array Value} {t' : TypeId} {fr : Nat × Nat} (HO : Own E k w base e v l) (hB : w.heap[B]? = some (.cells cs t' fr)) (hcs : cs.toList = E y)
    (hs : a.eval s = v) (hx : a.eval x = .slice (some ⟨B, 0, none⟩) 1 1) (hbase : base ≤ w.heap.size) (hl : (l.length + 1) * bytes ≤ 140737488355328) (hl2 : l.length ≤ 1000000)
    (h : ∀ g cap w1, Own E k w1 base e (.slice (some ⟨g, 0, none⟩) (l.length + 1) cap) (l ++ [y]) → w.grownBy w1 v.ownBlock → (v.ownBlock = some g ∨ g = w.heap.size) → g < w1.heap.size → K (a.put o.dst (.slice (some ⟨g, 0, none⟩) (l.length + 1) cap)) w1) :
    if Region.wanted o (yielded ops a.tmps) = true then Oper.wp P o a w K Q else X := by
  obtain ⟨i0, hi, hzz⟩ := Option.map_eq_some_iff.1 hinfo
  simp only [Prod.mk.injEq] at hzz
  obtain ⟨hz0, hz1, hz2⟩ := hzz
  refine step_append_lies w hgd s x t ho base e i0 z k bytes ht hi hz0 hz1 hz2 hz hk0 v l.length (l.flatMap E) hs HO ⟨B, 0, none⟩ 1 1 (E y) hx (by rw [hk]; omega)
    (fun j u hu => World.news_of_block hB j u (by rw [hcs]; exact hu)) (h1c y) (by omega) (by simp only [maxLen]; omega) hl hbase _ rfl fun g cap w1 h1 h2 h3 h4 => h g cap w1 ?_ h2 h3 h4
  have e1 : (l ++ [y]).flatMap E = l.flatMap E ++ E y := by simp
  show w1.ownsRow base e k _ (l ++ [y]).length _
  rw [e1, List.length_append]
  exact h1

end Go.Proofs.Ytandminldgiheaa
