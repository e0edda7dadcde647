/- Plain: views, which may be, and their links' order. -/
import Derived.Test.YtandminldgiheaaKnownEq
namespace Go.Proofs.Ytandminldgiheaa
open Go.RowKit

structure View where
  nodes : List Int
  links : List Known
/-- A view's two slices, read. -/
def RdV (w : World) (vn vl : Value) (v : View) : Prop := RdI w vn v.nodes ∧ RdK w vl v.links
theorem RdV.below {w w1 : World} {vn vl : Value} {v : View} (h : RdV w vn vl v) (hb : Below w.heap.size w w1) : RdV w1 vn vl v := ⟨h.1.below hb, h.2.below hb⟩
theorem RdV.ns {w : World} {vn vl : Value} {v : View} (h : RdV w vn vl v) : RdI w vn v.nodes := h.1
theorem RdV.ls {w : World} {vn vl : Value} {v : View} (h : RdV w vn vl v) : RdK w vl v.links := h.2
theorem RdV.nil (w : World) : RdV w (.slice none 0 0) (.slice none 0 0) ⟨[], []⟩ := ⟨Rd.nil w, Rd.nil w⟩

/-- Each is so to the next. -/
def chain {α : Type} (r : α → α → Bool) : List α → Bool
  | [] => true
  | [_] => true
  | x :: y :: l => r x y && chain r (y :: l)
theorem chain_snoc {α : Type} (r : α → α → Bool) : ∀ (l : List α) (x : α), chain r (l ++ [x]) = (chain r l && (l.getLast?.map (fun y => r y x)).getD true)
  | [], x => rfl
  | [y], x => by simp [chain]
  | y :: z :: l, x => by
    have ih := chain_snoc r (z :: l) x
    simp only [List.cons_append] at ih
    simp only [List.cons_append, chain, ih, Bool.and_assoc]
    simp [List.getLast?_cons_cons]
theorem chain_take {α : Type} (r : α → α → Bool) {l : List α} {k : Nat} (h : k < l.length) : chain r (l.take (k + 1)) = (chain r (l.take k) && (if h0 : 0 < k then r l[k - 1] l[k] else true)) := by
  rw [take_succ_at h, chain_snoc]
  congr 1
  rw [List.getLast?_take]
  by_cases h0 : 0 < k
  · rw [if_neg (by omega), dif_pos h0, List.getElem?_eq_getElem (by omega)]
    rfl
  · have : k = 0 := by omega
    subst this
    simp
theorem chain_left {α : Type} (r : α → α → Bool) : ∀ {l m : List α}, chain r (l ++ m) = true → chain r l = true
  | [], _, _ => rfl
  | [_], _, _ => rfl
  | x :: y :: l, m, h => by
    simp only [List.cons_append, chain, Bool.and_eq_true] at h ⊢
    exact ⟨h.1, chain_left r (l := y :: l) (m := m) h.2⟩
theorem chain_take_false {α : Type} (r : α → α → Bool) {l : List α} (k : Nat) (h : chain r (l.take k) = false) : chain r l = false := by
  cases hc : chain r l with
  | false => rfl
  | true =>
    rw [← List.take_append_drop k l] at hc
    rw [chain_left r hc] at h; cases h

def ltI (x y : Int) : Bool := decide (x < y)
def aheadK (x y : Known) : Bool := decide (x.node < y.node ∨ x.node = y.node ∧ x.peer < y.peer)
def cmpK (x y : Known) : Int := orI (cmpI x.node y.node) (cmpI x.peer y.peer)
theorem cmpK_lt (x y : Known) : cmpK x y < 0 ↔ aheadK x y = true := by
  unfold cmpK aheadK cmpI orI
  rw [decide_eq_true_iff]
  repeat' split
  all_goals (constructor <;> intro h <;> omega)
theorem cmpK_ge (x y : Known) : 0 ≤ cmpK x y ↔ aheadK x y = false := by
  have := cmpK_lt x y
  cases h : aheadK x y with
  | true => rw [h] at this; simp at this ⊢; omega
  | false => rw [h] at this; simp at this ⊢; omega
def linkOk (ns : List Int) (k : Known) : Bool :=
  node k.peer && !decide (k.peer = k.node) && decide (0 ≤ k.w) && decide (k.w ≤ 2147483647) && decide (1 ≤ k.session) && decide (k.session ≤ 2147483647) && decide (k.node ∈ ns)
/-- May a view be? -/
def mayV (v : View) : Bool := v.nodes.all node && chain ltI v.nodes && v.links.all (linkOk v.nodes) && chain aheadK v.links
/-- So far all is well. -/
def nodesTill (l : List Int) : Bool := l.all node && chain ltI l
def linksTill (ns : List Int) (l : List Known) : Bool := l.all (linkOk ns) && chain aheadK l
theorem mayV_eq (v : View) : mayV v = (nodesTill v.nodes && linksTill v.nodes v.links) := by
  unfold mayV nodesTill linksTill; simp [Bool.and_assoc]
theorem nodesTill_succ {l : List Int} {k : Nat} (h : k < l.length) : nodesTill (l.take (k + 1)) = (nodesTill (l.take k) && (node l[k] && (if h0 : 0 < k then ltI l[k - 1] l[k] else true))) := by
  unfold nodesTill
  rw [chain_take ltI h, take_succ_at h, List.all_append]
  simp only [List.all_cons, List.all_nil, Bool.and_true]
  cases (l.take k).all node <;> cases node l[k] <;> cases chain ltI (l.take k) <;> simp
theorem linksTill_succ (ns : List Int) {l : List Known} {k : Nat} (h : k < l.length) : linksTill ns (l.take (k + 1)) = (linksTill ns (l.take k) && (linkOk ns l[k] && (if h0 : 0 < k then aheadK l[k - 1] l[k] else true))) := by
  unfold linksTill
  rw [chain_take aheadK h, take_succ_at h, List.all_append]
  simp only [List.all_cons, List.all_nil, Bool.and_true]
  cases (l.take k).all (linkOk ns) <;> cases linkOk ns l[k] <;> cases chain aheadK (l.take k) <;> simp
theorem all_take_false {α : Type} {p : α → Bool} {l : List α} {k : Nat} (h : (l.take k).all p = false) : l.all p = false := by
  rw [← List.take_append_drop k l, List.all_append, h, Bool.false_and]
theorem nodesTill_false {l : List Int} (k : Nat) (h : nodesTill (l.take k) = false) : nodesTill l = false := by
  unfold nodesTill at h ⊢
  rw [Bool.and_eq_false_iff] at h ⊢
  exact h.imp all_take_false (chain_take_false ltI k)
theorem linksTill_false {ns : List Int} {l : List Known} (k : Nat) (h : linksTill ns (l.take k) = false) : linksTill ns l = false := by
  unfold linksTill at h ⊢
  rw [Bool.and_eq_false_iff] at h ⊢
  exact h.imp all_take_false (chain_take_false aheadK k)

end Go.Proofs.Ytandminldgiheaa
