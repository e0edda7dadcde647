/- Sets that are joined, as they stand in memory. -/
import Derived.Test.YtandminldgiheaaJoinP
import Derived.OneCell
namespace Go.Proofs.Ytandminldgiheaa
open Go.RowKit

/-- Below lo, and from hi on, what stood stands as it did. -/
def Out (lo hi : Nat) (w w' : World) : Prop := Below lo w w' ∧ ∀ b, hi ≤ b → b < w.heap.size → w'.heap[b]? = w.heap[b]?
namespace Out
variable {lo hi : Nat} {w w1 w2 : World}
theorem refl (lo hi : Nat) (w : World) : Out lo hi w w := ⟨Below.refl _ _, fun _ _ _ => rfl⟩
theorem trans (h : Out lo hi w w1) (k : Out lo hi w1 w2) : Out lo hi w w2 :=
  ⟨h.1.trans k.1, fun b hb hl => (k.2 b hb (Nat.lt_of_lt_of_le hl h.1.size)).trans (h.2 b hb hl)⟩
theorem set (h : Out lo hi w w1) {a : Addr} (hl : lo ≤ a.block) (hh : a.block < hi) (v : Value) : Out lo hi w (w1.setCell a v) :=
  ⟨h.1.setCell hl v, fun b hb hlt => (Below.heap_setCell _ _ _ _ (by omega)).trans (h.2 b hb hlt)⟩
theorem drew (h : Out lo hi w w1) : Out lo hi w w1.drew := ⟨below_drew h.1, h.2⟩
theorem drewN (h : Out lo hi w w1) (n : Nat) : Out lo hi w (w1.drewN n) := ⟨below_drewN h.1 n, h.2⟩
theorem undrew (h : Out lo hi w.drew w1) : Out lo hi w w1 := ⟨below_undrew h.1, h.2⟩
theorem undrewN {n : Nat} (h : Out lo hi (w.drewN n) w1) : Out lo hi w w1 := ⟨below_undrewN h.1, h.2⟩
theorem of_below (h : Below w.heap.size w w1) (hl : lo ≤ w.heap.size) : Out lo hi w w1 := ⟨h.mono hl, fun b _ hb => h.block b hb⟩
theorem below (h : Out lo hi w w1) : Below lo w w1 := h.1
theorem size (h : Out lo hi w w1) : w.heap.size ≤ w1.heap.size := h.1.size
theorem then_ {w0 : World} (hl : w0.heap.size ≤ lo) (h0 : Below w0.heap.size w0 w) (h : Out lo hi w w1) : Below w0.heap.size w0 w1 := h0.trans (h.1.mono hl)
end Out

theorem Own.of_block {α : Type} {E : α → List Value} {k : Nat} {w w1 : World} {base : Nat} {e : TypeId} {v : Value} {l : List α} (h : Own E k w base e v l)
    (hb : ∀ g, v.ownBlock = some g → w1.heap[g]? = w.heap[g]?) : Own E k w1 base e v l := by
  refine ⟨h.1, h.2.imp id fun ⟨g, cap, cur, h1, h2, h3, h4⟩ => ⟨g, cap, cur, h1, h2, ?_, h4⟩⟩
  rw [hb g (by rw [h1]; rfl)]; exact h3
theorem Own.out {α : Type} {E : α → List Value} {k : Nat} {w w1 : World} {base lo hi : Nat} {e : TypeId} {v : Value} {l : List α} (h : Own E k w base e v l) (ho : Out lo hi w w1)
    (hv : ∀ g, v.ownBlock = some g → g < lo ∨ hi ≤ g) : Own E k w1 base e v l :=
  h.of_block fun g hg => by
    have hlt := (h.lt g hg).2
    rcases hv g hg with h1 | h1
    · exact ho.1.block g h1
    · exact ho.2 g h1 hlt
theorem Own.setOther {α : Type} {E : α → List Value} {k : Nat} {w : World} {base : Nat} {e : TypeId} {g cap n : Nat} {l : List α} (h : Own E k w base e (.slice (some ⟨g, 0, none⟩) n cap) l)
    {a : Addr} (ha : g ≠ a.block) (u : Value) : Own E k (w.setCell a u) base e (.slice (some ⟨g, 0, none⟩) n cap) l :=
  ownsRow_setCell_other h (by simp [Value.ownBlock]; exact ha) u

/-- The four blocks of a join: its own cells; the parents; the sizes; the least. -/
structure JoinAt (w : World) (lo hi J U S L cu cs cl : Nat) (lu : List Nat) (ls ll : List Int) (n : Int) : Prop where
  bounds : lo ≤ J ∧ J < hi ∧ lo ≤ U ∧ U < hi ∧ lo ≤ S ∧ S < hi ∧ lo ≤ L ∧ L < hi ∧ hi ≤ w.heap.size
  apart : J ≠ U ∧ J ≠ S ∧ J ≠ L ∧ U ≠ S ∧ U ≠ L ∧ S ≠ L
  own : w.heap[J]? = some (.cells #[.slice (some ⟨U, 0, none⟩) 65 cu, .slice (some ⟨S, 0, none⟩) 65 cs, .slice (some ⟨L, 0, none⟩) 65 cl, .int .i64 n] 99 (0, 0))
  lens : lu.length = 65 ∧ ls.length = 65 ∧ ll.length = 65
  caps : 65 ≤ cu ∧ 65 ≤ cs ∧ 65 ≤ cl
  up : OwnN w lo 3 (.slice (some ⟨U, 0, none⟩) 65 cu) lu
  size : OwnI w lo 3 (.slice (some ⟨S, 0, none⟩) 65 cs) ls
  least : OwnI w lo 3 (.slice (some ⟨L, 0, none⟩) 65 cl) ll

theorem flat1N (l : List Nat) : l.flatMap encN = l.map (fun x : Nat => Value.int .i64 (x : Int)) := by
  induction l with
  | nil => rfl
  | cons x l ih => rw [List.flatMap_cons, ih]; rfl
theorem flat1I (l : List Int) : l.flatMap encI = l.map (fun x => Value.int .i64 x) := by
  induction l with
  | nil => rfl
  | cons x l ih => rw [List.flatMap_cons, ih]; rfl

namespace JoinAt
variable {w : World} {lo hi J U S L cu cs cl : Nat} {lu : List Nat} {ls ll : List Int} {n : Int}
theorem cellJ (h : JoinAt w lo hi J U S L cu cs cl lu ls ll n) :
    w.cell? ⟨J, 0, none⟩ = some (.slice (some ⟨U, 0, none⟩) 65 cu) ∧ w.cell? ⟨J, 1, none⟩ = some (.slice (some ⟨S, 0, none⟩) 65 cs) ∧
    w.cell? ⟨J, 2, none⟩ = some (.slice (some ⟨L, 0, none⟩) 65 cl) ∧ w.cell? ⟨J, 3, none⟩ = some (.int .i64 n) ∧ w.frozen? ⟨J, 3, none⟩ = false := by
  have := h.own
  simp [World.cell?, World.frozen?, this]
theorem cellU (h : JoinAt w lo hi J U S L cu cs cl lu ls ll n) {x y : Nat} (hx : lu[x]? = some y) : w.cell? ⟨U, x, none⟩ = some (.int .i64 (y : Int)) ∧ w.frozen? ⟨U, x, none⟩ = false := by
  have h0 := h.up
  have hl := h.lens.1
  have hlt : x < 65 := by have := (List.getElem?_eq_some_iff.1 hx).1; omega
  unfold OwnN Own at h0
  rw [hl] at h0
  refine ⟨?_, World.ownsRow.frozenAt h0 _⟩
  rw [World.ownsRow.cellAt h0 x (by omega), flat1N, List.getElem?_map, hx]
  rfl
theorem cellS (h : JoinAt w lo hi J U S L cu cs cl lu ls ll n) {x : Nat} (hx : x < 65) : ∃ y, w.cell? ⟨S, x, none⟩ = some (.int .i64 y) ∧ w.frozen? ⟨S, x, none⟩ = false := by
  have h0 := h.size
  have hl := h.lens.2.1
  unfold OwnI Own at h0
  rw [hl] at h0
  refine ⟨ls[x]'(by omega), ?_, World.ownsRow.frozenAt h0 _⟩
  rw [World.ownsRow.cellAt h0 x (by omega), flat1I, List.getElem?_map, List.getElem?_eq_getElem (by omega)]
  rfl
theorem cellL (h : JoinAt w lo hi J U S L cu cs cl lu ls ll n) {x : Nat} (hx : x < 65) : ∃ y, w.cell? ⟨L, x, none⟩ = some (.int .i64 y) ∧ w.frozen? ⟨L, x, none⟩ = false := by
  have h0 := h.least
  have hl := h.lens.2.2
  unfold OwnI Own at h0
  rw [hl] at h0
  refine ⟨ll[x]'(by omega), ?_, World.ownsRow.frozenAt h0 _⟩
  rw [World.ownsRow.cellAt h0 x (by omega), flat1I, List.getElem?_map, List.getElem?_eq_getElem (by omega)]
  rfl
theorem drew (h : JoinAt w lo hi J U S L cu cs cl lu ls ll n) : JoinAt w.drew lo hi J U S L cu cs cl lu ls ll n := ⟨h.bounds, h.apart, h.own, h.lens, h.caps, h.up, h.size, h.least⟩
theorem drewN (h : JoinAt w lo hi J U S L cu cs cl lu ls ll n) (m : Nat) : JoinAt (w.drewN m) lo hi J U S L cu cs cl lu ls ll n := ⟨h.bounds, h.apart, h.own, h.lens, h.caps, h.up, h.size, h.least⟩
theorem of_blocks {w1 : World} (h : JoinAt w lo hi J U S L cu cs cl lu ls ll n) (hs : w.heap.size ≤ w1.heap.size) (hb : ∀ g, lo ≤ g → g < hi → w1.heap[g]? = w.heap[g]?) : JoinAt w1 lo hi J U S L cu cs cl lu ls ll n := by
  have hbd := h.bounds
  refine ⟨⟨hbd.1, hbd.2.1, hbd.2.2.1, hbd.2.2.2.1, hbd.2.2.2.2.1, hbd.2.2.2.2.2.1, hbd.2.2.2.2.2.2.1, hbd.2.2.2.2.2.2.2.1, by omega⟩, h.apart, ?_, h.lens, h.caps, h.up.of_block ?_, h.size.of_block ?_, h.least.of_block ?_⟩
  · rw [hb J (by omega) (by omega)]; exact h.own
  all_goals (intro g hg; simp [Value.ownBlock] at hg; subst hg; exact hb _ (by omega) (by omega))
theorem below {w1 : World} (h : JoinAt w lo hi J U S L cu cs cl lu ls ll n) (hb : Below w.heap.size w w1) : JoinAt w1 lo hi J U S L cu cs cl lu ls ll n :=
  h.of_blocks hb.size fun g _ hg => hb.block g (by have := h.bounds; omega)
theorem setU (h : JoinAt w lo hi J U S L cu cs cl lu ls ll n) (x y : Nat) : JoinAt (w.setCell ⟨U, x, none⟩ (.int .i64 (y : Int))) lo hi J U S L cu cs cl (lu.set x y) ls ll n := by
  have hap := h.apart
  refine ⟨by simpa using h.bounds, h.apart, ?_, by simpa using h.lens, h.caps, ?_, h.size.setOther (by exact (Ne.symm hap.2.2.2.1)) _, h.least.setOther (by exact (Ne.symm hap.2.2.2.2.1)) _⟩
  · rw [Below.heap_setCell _ _ _ _ (by exact hap.1)]; exact h.own
  · have h0 := h.up
    have hl := h.lens.1
    unfold OwnN Own at h0 ⊢
    rw [List.length_set]
    rw [hl] at h0 ⊢
    have h1 := (World.ownsRow.stored h0 x (.int .i64 (y : Int))).1
    rw [flat1N] at h1 ⊢
    rw [← List.map_set] at h1
    exact h1
theorem setS (h : JoinAt w lo hi J U S L cu cs cl lu ls ll n) (x : Nat) (y : Int) : JoinAt (w.setCell ⟨S, x, none⟩ (.int .i64 y)) lo hi J U S L cu cs cl lu (ls.set x y) ll n := by
  have hap := h.apart
  refine ⟨by simpa using h.bounds, h.apart, ?_, by simpa using h.lens, h.caps, h.up.setOther (by exact hap.2.2.2.1) _, ?_, h.least.setOther (by exact (Ne.symm hap.2.2.2.2.2)) _⟩
  · rw [Below.heap_setCell _ _ _ _ (by exact hap.2.1)]; exact h.own
  · have h0 := h.size
    have hl := h.lens.2.1
    unfold OwnI Own at h0 ⊢
    rw [List.length_set]
    rw [hl] at h0 ⊢
    have h1 := (World.ownsRow.stored h0 x (.int .i64 y)).1
    rw [flat1I] at h1 ⊢
    rw [← List.map_set] at h1
    exact h1
theorem setL (h : JoinAt w lo hi J U S L cu cs cl lu ls ll n) (x : Nat) (y : Int) : JoinAt (w.setCell ⟨L, x, none⟩ (.int .i64 y)) lo hi J U S L cu cs cl lu ls (ll.set x y) n := by
  have hap := h.apart
  refine ⟨by simpa using h.bounds, h.apart, ?_, by simpa using h.lens, h.caps, h.up.setOther (by exact hap.2.2.2.2.1) _, h.size.setOther (by exact hap.2.2.2.2.2) _, ?_⟩
  · rw [Below.heap_setCell _ _ _ _ (by exact hap.2.2.1)]; exact h.own
  · have h0 := h.least
    have hl := h.lens.2.2
    unfold OwnI Own at h0 ⊢
    rw [List.length_set]
    rw [hl] at h0 ⊢
    have h1 := (World.ownsRow.stored h0 x (.int .i64 y)).1
    rw [flat1I] at h1 ⊢
    rw [← List.map_set] at h1
    exact h1
theorem setN (h : JoinAt w lo hi J U S L cu cs cl lu ls ll n) (m : Int) : JoinAt (w.setCell ⟨J, 3, none⟩ (.int .i64 m)) lo hi J U S L cu cs cl lu ls ll m := by
  have hap := h.apart
  refine ⟨by simpa using h.bounds, h.apart, ?_, h.lens, h.caps, h.up.setOther (by exact (Ne.symm hap.1)) _, h.size.setOther (by exact (Ne.symm hap.2.1)) _, h.least.setOther (by exact (Ne.symm hap.2.2.1)) _⟩
  rw [heap_setCell_same w J 3 _ _ _ h.own]
  simp
end JoinAt

end Go.Proofs.Ytandminldgiheaa
