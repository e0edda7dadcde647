/- A view that grows in a block of the call's own. -/
import Derived.Test.YtandminldgiheaaMergeP
import Derived.Test.YtandminldgiheaaSortKW
import Derived.Test.YtandminldgiheaaTail
namespace Go.Proofs.Ytandminldgiheaa
open Go.RowKit

/-- Block g holds a view's two slices, each the call's own. -/
structure VAt (w0 w : World) (H g : Nat) (vn vl : Value) (ns : List Int) (ks : List Known) : Prop where
  row : w.heap[g]? = some (.cells #[vn, vl] 43 (0, 0))
  hg : H ≤ g
  n : OwnI w H 3 vn ns
  l : OwnK w H 51 vl ks
  below : Below H w0 w
  le : H ≤ w.heap.size
namespace VAt
variable {w0 w w1 : World} {H g : Nat} {vn vl v1 : Value} {ns : List Int} {ks : List Known} {x : Int} {y : Known}
theorem on (h : VAt w0 w H g vn vl ns ks) (hb : Below w.heap.size w w1) : VAt w0 w1 H g vn vl ns ks :=
  ⟨block_of_below h.row hb, h.hg, h.n.below hb, h.l.below hb, h.below.trans (hb.mono h.le), Nat.le_trans h.le hb.size⟩
theorem c0 (h : VAt w0 w H g vn vl ns ks) : w.cell? ⟨g, 0, none⟩ = some vn := cell_in h.row 0 _ rfl
theorem c1 (h : VAt w0 w H g vn vl ns ks) : w.cell? ⟨g, 1, none⟩ = some vl := cell_in h.row 1 _ rfl
theorem f0 (h : VAt w0 w H g vn vl ns ks) : w.frozen? ⟨g, 0, none⟩ = false := frozen_of_row w g 0 _ _ h.row
theorem f1 (h : VAt w0 w H g vn vl ns ks) : w.frozen? ⟨g, 1, none⟩ = false := frozen_of_row w g 1 _ _ h.row
theorem addN (h : VAt w0 w H g vn vl ns ks) (ho : OwnI w1 H 3 v1 (ns ++ [x])) (hb : Below H w0 w1) (hw : w.grownBy w1 vn.ownBlock) :
    (w1.cell? ⟨g, 0, none⟩ = some vn ∧ w1.frozen? ⟨g, 0, none⟩ = false) ∧ VAt w0 (w1.setCell ⟨g, 0, none⟩ v1) H g v1 vl (ns ++ [x]) ks := by
  have hr : w1.heap[g]? = some (.cells #[vn, vl] 43 (0, 0)) := (hw.block g (Array.getElem?_eq_some_iff.1 h.row).1 (fun e => h.n.apart_of h.row (by decide) e.symm)).trans h.row
  have hl := h.l.kept hw (h.l.apart_own h.n (by decide))
  refine ⟨⟨cell_in hr 0 _ rfl, frozen_of_row w1 g 0 _ _ hr⟩, heap_setCell_same w1 g 0 _ _ v1 hr, h.hg, ho.setCell_other (ho.apart_of hr (by decide)), hl.setCell_other (hl.apart_of hr (by decide)), hb.setCell (by exact h.hg) _, by have := hw.size; have := h.le; simp; omega⟩
theorem addL (h : VAt w0 w H g vn vl ns ks) (ho : OwnK w1 H 51 v1 (ks ++ [y])) (hb : Below H w0 w1) (hw : w.grownBy w1 vl.ownBlock) :
    (w1.cell? ⟨g, 1, none⟩ = some vl ∧ w1.frozen? ⟨g, 1, none⟩ = false) ∧ VAt w0 (w1.setCell ⟨g, 1, none⟩ v1) H g vn v1 ns (ks ++ [y]) := by
  have hr : w1.heap[g]? = some (.cells #[vn, vl] 43 (0, 0)) := (hw.block g (Array.getElem?_eq_some_iff.1 h.row).1 (fun e => h.l.apart_of h.row (by decide) e.symm)).trans h.row
  have hn := h.n.kept hw (h.n.apart_own h.l (by decide))
  refine ⟨⟨cell_in hr 1 _ rfl, frozen_of_row w1 g 1 _ _ hr⟩, heap_setCell_same w1 g 1 _ _ v1 hr, h.hg, hn.setCell_other (hn.apart_of hr (by decide)), ho.setCell_other (ho.apart_of hr (by decide)), hb.setCell (by exact h.hg) _, by have := hw.size; have := h.le; simp; omega⟩
end VAt

/-- What a count more looks at. -/
theorem rmClash_succ (a b : View) (n : Nat) : rmClash a b (n + 1) = (rmClash a b n || (decide ((n : Int) + 1 ∈ a.nodes) && decide ((n : Int) + 1 ∈ b.nodes))) := by
  simp [rmClash, upTo_succ]
theorem rmNodes_succ (a b : View) (n : Nat) : rmNodes a b (n + 1) = rmNodes a b n ++ (if (decide ((n : Int) + 1 ∈ a.nodes) || decide ((n : Int) + 1 ∈ b.nodes)) then [(n : Int) + 1] else []) := by
  simp only [rmNodes, upTo_succ, List.filter_append]
  congr 1
  simp only [List.filter_cons, List.filter_nil]
theorem rmLinks_succ (a b : View) (n : Nat) : rmLinks a b (n + 1) = rmLinks a b n ++ (a.links.filter (fun k => decide (k.node = (n : Int) + 1)) ++ b.links.filter (fun k => decide (k.node = (n : Int) + 1))) := by
  simp [rmLinks, upTo_succ]
theorem rmNodes_length (a b : View) (n : Nat) : (rmNodes a b n).length ≤ n := by
  refine Nat.le_trans (List.length_filter_le _ _) ?_
  simp [upTo]
theorem filter_snoc {l : List Known} {k : Nat} (h : k < l.length) (n : Int) : (l.take (k + 1)).filter (fun k => decide (k.node = n)) = (l.take k).filter (fun k => decide (k.node = n)) ++ (if l[k].node = n then [l[k]] else []) := by
  rw [take_succ_at h, List.filter_append]
  congr 1
  by_cases hn : l[k].node = n <;> simp [hn]
/-- Links of n nodes are no more than there are. -/
theorem links_of_upTo (l : List Known) (n : Nat) : ((upTo n).flatMap fun x => l.filter (fun k => decide (k.node = x))).length ≤ l.length := by
  induction l with
  | nil =>
    have : ∀ u : List Int, (u.flatMap fun x => ([] : List Known).filter (fun k => decide (k.node = x))) = [] := fun u => by induction u <;> simp_all
    rw [this]
    exact Nat.le_refl _
  | cons k l ih =>
    have : ((upTo n).flatMap fun x => (k :: l).filter (fun k => decide (k.node = x))).length ≤ ((upTo n).flatMap fun x => l.filter (fun k => decide (k.node = x))).length + ((upTo n).filter fun x => decide (k.node = x)).length := by
      clear ih
      induction (upTo n) with
      | nil => simp
      | cons x u ih =>
        simp only [List.flatMap_cons, List.length_append, List.filter_cons]
        by_cases h : k.node = x
        · subst h
          simp only [decide_true, if_true, List.length_cons]
          simp only [List.filter_cons] at ih
          omega
        · simp only [h, decide_false, Bool.false_eq_true, if_false]
          simp only [List.filter_cons] at ih
          omega
    have h1 : ((upTo n).filter fun x => decide (k.node = x)).length ≤ 1 := by
      have hp := (upTo_rise n).filter (fun x => decide (k.node = x))
      match hq : (upTo n).filter (fun x => decide (k.node = x)) with
      | [] => simp
      | [_] => simp
      | x :: y :: t =>
        rw [hq] at hp
        have hx : x ∈ (upTo n).filter (fun x => decide (k.node = x)) := by rw [hq]; simp
        have hy : y ∈ (upTo n).filter (fun x => decide (k.node = x)) := by rw [hq]; simp
        simp at hx hy
        have := (List.pairwise_cons.1 hp).1 y (by simp)
        omega
    simp only [List.length_cons]
    omega
theorem rmLinks_length (a b : View) (n : Nat) : (rmLinks a b n).length ≤ a.links.length + b.links.length := by
  have h1 := links_of_upTo a.links n
  have h2 := links_of_upTo b.links n
  have : (rmLinks a b n).length = ((upTo n).flatMap fun x => a.links.filter (fun k => decide (k.node = x))).length + ((upTo n).flatMap fun x => b.links.filter (fun k => decide (k.node = x))).length := by
    unfold rmLinks
    induction (upTo n) with
    | nil => simp
    | cons x u ih => simp only [List.flatMap_cons, List.length_append]; omega
  omega

end Go.Proofs.Ytandminldgiheaa
