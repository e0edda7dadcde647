/- Plain: the best one in place of an edge that is lost, found one by one; two rows of edges of the call's own. -/
import Derived.Test.YtandminldgiheaaLosesP
import Derived.Test.YtandminldgiheaaOwn
namespace Go.Proofs.Ytandminldgiheaa
open Go.RowKit

/-- One that may come in place of the cut. -/
def Cand (k : List Edge) (cut y : Edge) : Prop := y ≠ cut ∧ ¬ Conn k y.a y.b
/-- What b stands for when i were looked at. -/
def BestAt (l k : List Edge) (cut : Edge) (i : Nat) (b : Int) : Prop :=
  (b = -1 ∧ ∀ y ∈ l.take i, ¬ Cand k cut y) ∨ ∃ (j : Nat) (x : Edge), b = j ∧ j < i ∧ l[j]? = some x ∧ Cand k cut x ∧ ∀ y ∈ l.take i, Cand k cut y → ltE y x = false
section
variable {l k : List Edge} {cut : Edge} {i : Nat} {b : Int}
theorem BestAt.start (l k : List Edge) (cut : Edge) : BestAt l k cut 0 (-1) := .inl ⟨rfl, by simp⟩
theorem BestAt.skip (h : BestAt l k cut i b) (hi : i < l.length) (hn : ¬ Cand k cut l[i]) : BestAt l k cut (i + 1) b := by
  rcases h with ⟨h1, h2⟩ | ⟨j, x, h1, h2, h3, h4, h5⟩
  · refine .inl ⟨h1, fun y hy => ?_⟩
    rw [take_succ_at hi, List.mem_append, List.mem_singleton] at hy
    rcases hy with hy | rfl
    · exact h2 y hy
    · exact hn
  · refine .inr ⟨j, x, h1, by omega, h3, h4, fun y hy hc => ?_⟩
    rw [take_succ_at hi, List.mem_append, List.mem_singleton] at hy
    rcases hy with hy | rfl
    · exact h5 y hy hc
    · exact absurd hc hn
theorem BestAt.first (h : BestAt l k cut i (-1)) (hi : i < l.length) (hc : Cand k cut l[i]) : BestAt l k cut (i + 1) i := by
  rcases h with ⟨_, h2⟩ | ⟨j, x, h1, _⟩
  · refine .inr ⟨i, l[i], rfl, by omega, List.getElem?_eq_getElem hi, hc, fun y hy hcy => ?_⟩
    rw [take_succ_at hi, List.mem_append, List.mem_singleton] at hy
    rcases hy with hy | rfl
    · exact absurd hcy (h2 y hy)
    · exact ltE_irrefl _
  · omega
theorem BestAt.less {j : Nat} {x : Edge} (h : BestAt l k cut i j) (hi : i < l.length) (hx : l[j]? = some x) (hc : Cand k cut l[i]) (hl : ltE l[i] x = true) : BestAt l k cut (i + 1) i := by
  rcases h with ⟨h1, _⟩ | ⟨j', x', h1, h2, h3, h4, h5⟩
  · omega
  · obtain rfl : j = j' := by omega
    rw [hx] at h3
    obtain rfl := Option.some.inj h3
    refine .inr ⟨i, l[i], rfl, by omega, List.getElem?_eq_getElem hi, hc, fun y hy hcy => ?_⟩
    rw [take_succ_at hi, List.mem_append, List.mem_singleton] at hy
    rcases hy with hy | rfl
    · cases hq : ltE y l[i] with
      | false => rfl
      | true => have := ltE_trans hq hl; rw [h5 y hy hcy] at this; cases this
    · exact ltE_irrefl _
theorem BestAt.more {j : Nat} {x : Edge} (h : BestAt l k cut i j) (hi : i < l.length) (hx : l[j]? = some x) (hl : ltE l[i] x = false) : BestAt l k cut (i + 1) j := by
  rcases h with ⟨h1, _⟩ | ⟨j', x', h1, h2, h3, h4, h5⟩
  · omega
  · obtain rfl : j = j' := by omega
    rw [hx] at h3
    obtain rfl := Option.some.inj h3
    refine .inr ⟨j, x, rfl, by omega, hx, h4, fun y hy hcy => ?_⟩
    rw [take_succ_at hi, List.mem_append, List.mem_singleton] at hy
    rcases hy with hy | rfl
    · exact h5 y hy hcy
    · exact hl
theorem BestAt.cases (h : BestAt l k cut i b) : b = -1 ∨ ∃ (j : Nat) (x : Edge), b = j ∧ j < i ∧ l[j]? = some x := by
  rcases h with ⟨h1, _⟩ | ⟨j, x, h1, h2, h3, _⟩
  · exact .inl h1
  · exact .inr ⟨j, x, h1, h2, h3⟩
end
theorem but_snoc (l : List Edge) (x y : Edge) : but (l ++ [y]) x = if y = x then but l x else but l x ++ [y] := by
  unfold but
  rw [List.filter_append]
  by_cases h : y = x <;> simp [h]
theorem loses_at {l : List Edge} {cut : Edge} {b : Int} (ha : apart l = true) (h : BestAt l (but (least l) cut) cut l.length b) :
    (b = -1 → least (but l cut) = sortE (but (least l) cut)) ∧ (∀ (j : Nat) (x : Edge), b = j → l[j]? = some x → least (but l cut) = sortE (but (least l) cut ++ [x])) := by
  constructor
  · rintro rfl
    rcases h with ⟨_, h2⟩ | ⟨j, _, h1, _⟩
    · refine loses_none ha fun y hy => ?_
      apply Classical.byContradiction
      intro hn
      rw [mem_but] at hy
      exact h2 y (by rw [List.take_length]; exact hy.1) ⟨hy.2, hn⟩
    · omega
  · rintro j x rfl hx
    rcases h with ⟨h1, _⟩ | ⟨j', x', h1, h2, h3, h4, h5⟩
    · omega
    · obtain rfl : j = j' := by omega
      rw [hx] at h3
      obtain rfl := Option.some.inj h3
      refine loses_some ha (mem_but.2 ⟨List.mem_of_getElem? hx, h4.1⟩) h4.2 fun y hy hn => ?_
      rw [mem_but] at hy
      exact h5 y (by rw [List.take_length]; exact hy.1) ⟨hy.2, hn⟩

/-- Two rows of edges of the call's own, apart. -/
structure Two (w0 w : World) (H : Nat) (e : TypeId) (u : Value) (lu : List Edge) (v : Value) (lv : List Edge) : Prop where
  a : OwnE w H e u lu
  b : OwnE w H e v lv
  ne : ∀ g, u.ownBlock = some g → v.ownBlock ≠ some g
  below : Below H w0 w
  le : H ≤ w.heap.size
namespace Two
variable {w0 w w1 : World} {H : Nat} {e : TypeId} {u v v1 : Value} {lu lv : List Edge} {x : Edge}
theorem swap (h : Two w0 w H e u lu v lv) : Two w0 w H e v lv u lu := ⟨h.b, h.a, fun g h1 h2 => h.ne g h2 h1, h.below, h.le⟩
theorem on (h : Two w0 w H e u lu v lv) (hb : Below w.heap.size w w1) : Two w0 w1 H e u lu v lv :=
  ⟨h.a.below hb, h.b.below hb, h.ne, h.below.trans (hb.mono h.le), Nat.le_trans h.le hb.size⟩
theorem more (h : Two w0 w H e u lu v lv) (ho : OwnE w1 H e v1 (lv ++ [x])) (hb : Below H w0 w1) (hg : w.grownBy w1 v.ownBlock) (hat : v1.ownBlock = v.ownBlock ∨ ∃ b, v1.ownBlock = some b ∧ w.heap.size ≤ b) :
    Two w0 w1 H e u lu v1 (lv ++ [x]) := by
  refine ⟨h.a.kept hg ?_, ho, fun g hu hv => ?_, hb, Nat.le_trans h.le hg.size⟩
  · cases hu : u.ownBlock with
    | none => exact .inl rfl
    | some g => exact .inr fun hh => h.ne g hu hh.symm
  · rcases hat with hat | ⟨b, hb1, hb2⟩
    · rw [hat] at hv; exact h.ne g hu hv
    · rw [hb1] at hv
      obtain rfl := Option.some.inj hv
      have := (h.a.lt _ hu).2
      omega
end Two

end Go.Proofs.Ytandminldgiheaa
