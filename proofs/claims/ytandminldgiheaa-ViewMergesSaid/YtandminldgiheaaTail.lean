/- A region that draws its order: what only reads first, in the text's order, then its end. -/
import Derived.Test.YtandminldgiheaaBase
import Derived.StillTailTactics
namespace Go.Proofs.Ytandminldgiheaa
open Go.RowKit

theorem still_S {P : Program} {f : FuncId} {args : Array Value} {w : World} {v : Value} (h : Calls P f args w fun e w' => e = .returned v ∧ w = w') : Calls P f args w fun e w'' => e = .returned v ∧ w'' = w :=
  h.mono fun _ _ h => ⟨h.1, h.2.symm⟩
theorem region_tail {P : Program} {id : Nat} {Q : Exit → Act → World → Prop} {a : Act} {w : World} {l : List Oper} (n : Nat) (hm : P.follows .mixedOrders = true) (hB : Region.lexTailB .any l.toArray n = true)
    (h : wpStill P l.toArray w.drew (fun a' => wpList P l.toArray Q (l.drop n) a' w.drew) (l.take n) a) : (Code.region id l.toArray true).wp P Q a w :=
  wp_region_still_tail n hm hB h

/-- What a new block leaves. -/
theorem alloc_facts {w : World} {o : Obj} {W : World} (hW : w.alloc o = W) : W.heap[w.heap.size]? = some o ∧ W.heap.size = w.heap.size + 1 ∧ Below w.heap.size w W ∧ ∀ (b : Nat) (x : Obj), w.heap[b]? = some x → W.heap[b]? = some x := by
  subst hW
  exact ⟨heap_alloc_new w o, by simp, (Below.refl _ w).alloc (Nat.le_refl _) o, fun b x h => (heap_alloc_old w o (Array.getElem?_eq_some_iff.1 h).1).trans h⟩
theorem cell_in {w : World} {b : Nat} {cs : Array Value} {t : TypeId} {x : Nat × Nat} (h : w.heap[b]? = some (.cells cs t x)) (i : Nat) (v : Value) (hv : cs[i]? = some v) : w.cell? ⟨b, i, none⟩ = some v := by
  rw [cell_of_row w b i cs t x h]; exact hv
theorem block_of_below {w w1 : World} {b : Nat} {x : Obj} (h : w.heap[b]? = some x) (hb : Below w.heap.size w w1) : w1.heap[b]? = some x :=
  (hb.block b (Array.getElem?_eq_some_iff.1 h).1).trans h

theorem b_alloc {w X : World} {o : Obj} (h : Below w.heap.size w X) : Below w.heap.size w (X.alloc o) := h.alloc h.size o
theorem b_drew {w X : World} (h : Below w.heap.size w X) : Below w.heap.size w X.drew := below_drew h
theorem b_drewN {w X : World} {n : Nat} (h : Below w.heap.size w X) : Below w.heap.size w (X.drewN n) := below_drewN h n

end Go.Proofs.Ytandminldgiheaa
