/- 'append(append([]Edge{}, l...), e)' in whatever order: what stands in between. -/
import Derived.Test.YtandminldgiheaaNewB
import Derived.Test.YtandminldgiheaaSortW
namespace Go.Proofs.Ytandminldgiheaa
open Go.RowKit

theorem run_appendR {α : Type} {E : α → List Value} {k : Nat} {P : Program} (hk : ∀ x, (E x).length = k) (h1c : ∀ x, ∀ v ∈ E x, v.oneCell' = true)
    {W : World} {base : Nat} (t e ty : TypeId) (z : Value) (bytes : Nat)
    (ht : P.underlying t = some (.slice e)) (hinfo : (P.info? e).map (fun i => (i.zero, i.size, i.bytes)) = some (some z, k, bytes)) (hz : z.cells.size = k) (hk0 : 0 < k) (hb0 : 0 < bytes)
    {v u : Value} {l ys : List α} (HO : Own E k W base e v l) (HR : Rd E k W u ys) (hbase : base ≤ W.heap.size) (hl : (l.length + ys.length) * bytes ≤ 140737488355328) :
    ∃ v1 w1, (Builtin.append_ #[t, t] ty #[v, u]).run P W = .ok v1 w1 ∧ Own E k w1 base e v1 (l ++ ys) ∧ W.grownBy w1 v.ownBlock ∧ (v1.ownBlock = v.ownBlock ∨ ∃ b, v1.ownBlock = some b ∧ W.heap.size ≤ b) := by
  obtain ⟨i0, hi, hzz⟩ := Option.map_eq_some_iff.1 hinfo
  simp only [Prod.mk.injEq] at hzz
  obtain ⟨hz0, hz1, hz2⟩ := hzz
  obtain ⟨A, c, rfl, hc1, hc2, hc3⟩ := HR
  have hlen : l.length + ys.length ≤ 140737488355328 := Nat.le_trans (Nat.le_mul_of_pos_right _ hb0) hl
  rcases A with _ | ad
  · have hy : ys = [] := by
      rcases List.eq_nil_or_concat ys with h | ⟨_, _, h⟩
      · exact h
      · obtain ⟨b, o, hh, _⟩ := hc3 (by rw [h]; simp)
        cases hh
    subst hy
    refine ⟨v, W, ?_, by simpa using HO, World.grownBy.refl W _, .inl rfl⟩
    rcases HO.2 with ⟨rfl, hn⟩ | ⟨g, cap, cur, rfl, _, _, hnc, _⟩
    · simp [Builtin.append_, run_underlying ht, sizeOf, typeInfo, hi, Builtin.lenOf, Builtin.firstCells]
    · simp [Builtin.append_, run_underlying ht, sizeOf, typeInfo, hi, Builtin.lenOf, Builtin.firstCells, hnc, storeCells]
  · have hcells : ∀ j u, (ys.flatMap E)[j]? = some u → W.cell? (ad.add j) = some u := by
      intro j u hu
      have hne : ys ≠ [] := by intro h; subst h; simp at hu
      obtain ⟨b, o, he, _, hc⟩ := hc3 hne
      obtain rfl := Option.some.inj he
      have hj : j < ys.length * k := by
        have := (List.getElem?_eq_some_iff.1 hu).1
        rwa [flat_length hk] at this
      have hq : j / k < ys.length := (Nat.div_lt_iff_lt_mul hk0).2 hj
      have hm : j % k < k := Nat.mod_lt _ hk0
      have hf := flat_get hk ys (j / k) ys[j / k] (j % k) (List.getElem?_eq_getElem hq) hm
      have e : j / k * k + j % k = j := by rw [Nat.mul_comm]; exact Nat.div_add_mod j k
      rw [e, hu] at hf
      have := hc (j / k) _ (List.getElem?_eq_getElem hq) (j % k) u hf.symm
      rw [Addr.add_mid]
      have e2 : o + j / k * k + j % k = o + j := by omega
      rwa [e2] at this
    obtain ⟨v1, w1, hr, hown, hg, _, hat⟩ := run_append_own_at (P := P) W base t ty e i0 z k bytes ht hi hz0 hz1 hz2 hz hk0 v l.length (l.flatMap E) HO ad ys.length c (ys.flatMap E) (flat_length hk ys)
      hcells (fun u hu => by obtain ⟨y, _, hy⟩ := List.mem_flatMap.1 hu; exact h1c y u hy) (by simp only [maxLen]; omega) hl hbase
    refine ⟨v1, w1, hr, ?_, hg, ?_⟩
    · have : (l ++ ys).flatMap E = l.flatMap E ++ ys.flatMap E := by simp
      show w1.ownsRow base e k v1 (l ++ ys).length _
      rw [this, List.length_append]
      exact hown
    · rcases hat with hat | hat
      · exact .inl hat
      · exact .inr ⟨_, hat, Nat.le_refl _⟩

/-- 'append(v, ys...)' at a step of a region that draws. -/
theorem step_appendR {α : Type} {E : α → List Value} {k : Nat} {P : Program} {w : World} (hk : ∀ x, (E x).length = k) (h1c : ∀ x, ∀ v ∈ E x, v.oneCell' = true) {ops : Array Oper} {o : Oper} {a : Act} {K : Act → World → Prop} {Q : Exit → Act → World → Prop} {X : Prop}
    (hgd : Region.wanted o (yielded ops a.tmps) = true) (s x : Operand) (t e : TypeId) (z : Value) (bytes : Nat)
    (ho : o.op = .call { callee := .builtin .append, args := #[s, x], argTypes := #[t, t] }) (ht : P.underlying t = some (.slice e))
    (hinfo : (P.info? e).map (fun i => (i.zero, i.size, i.bytes)) = some (some z, k, bytes)) (hz : z.cells.size = k) (hk0 : 0 < k) (hb0 : 0 < bytes)
    {base : Nat} {v u : Value} {l ys : List α} (HO : Own E k w base e v l) (HR : Rd E k w u ys) (hs : a.eval s = v) (hx : a.eval x = u) (hbase : base ≤ w.heap.size) (hl : (l.length + ys.length) * bytes ≤ 140737488355328)
    (h : ∀ v1 w1, Own E k w1 base e v1 (l ++ ys) → w.grownBy w1 v.ownBlock → (v1.ownBlock = v.ownBlock ∨ ∃ b, v1.ownBlock = some b ∧ w.heap.size ≤ b) → K (a.put o.dst v1) w1) :
    if Region.wanted o (yielded ops a.tmps) = true then Oper.wp P o a w K Q else X := by
  obtain ⟨v1, w1, hr, h1, h2, h3⟩ := run_appendR (P := P) hk h1c t e o.type z bytes ht hinfo hz hk0 hb0 HO HR hbase hl
  rw [if_pos hgd]
  unfold Oper.wp execOp
  simp only [ho, resolve, invoke, builtin, Sem.run_bind, Sem.run_pure, Result.andThen_ok, List.map_toArray, List.map_cons, List.map_nil, hs, hx, hr]
  exact h v1 w1 h1 h2 h3

/-- In between: c holds l; x lies in block p, where it is there. -/
structure AppE (w0 w : World) (H : Nat) (c : Value) (l : List Edge) (p : Option Nat) (x : Edge) : Prop where
  own : OwnE w H 24 c l
  pend : ∀ g, p = some g → w.heap[g]? = some (.cells #[.int .i64 x.a, .int .i64 x.b, .int .i64 x.w] 24 (0, 0)) ∧ H ≤ g ∧ c.ownBlock ≠ some g
  below : Below H w0 w
  le : H ≤ w.heap.size

namespace AppE
variable {w0 w : World} {H : Nat} {c : Value} {l : List Edge} {p : Option Nat} {x : Edge}
theorem start (w0 : World) (x : Edge) : AppE w0 w0.drew w0.heap.size (.slice none 0 0) [] none x :=
  ⟨Own.nil _ _ _, fun g h => (by cases h), below_drew (Below.refl _ _), Nat.le_refl _⟩
theorem base_ (h : AppE w0 w H (.slice none 0 0) [] p x) : AppE w0 (w.alloc (.cells #[] 24)) H (.slice (some ⟨w.heap.size, 0, none⟩) 0 0) [] p x := by
  have hle := h.le
  refine ⟨by simpa [Own] using World.ownsRow_made w #[] 0 hle (Nat.zero_le _) (by simp), fun g hg => ?_, h.below.alloc hle _, by simp; omega⟩
  obtain ⟨h1, h2, _⟩ := h.pend g hg
  have hlt := (Array.getElem?_eq_some_iff.1 h1).1
  exact ⟨by rw [((Below.refl _ w).alloc (Nat.le_refl _) _).block g hlt]; exact h1, h2, by simp [Value.ownBlock]; omega⟩
theorem elem (h : AppE w0 w H c l none x) : AppE w0 (w.alloc (.cells #[.int .i64 x.a, .int .i64 x.b, .int .i64 x.w] 24)) H c l (some w.heap.size) x := by
  have hle := h.le
  refine ⟨h.own.alloc _, fun g hg => ?_, h.below.alloc hle _, by simp; omega⟩
  obtain rfl := Option.some.inj hg
  refine ⟨heap_alloc_new w _, hle, fun hh => ?_⟩
  have := (h.own.lt _ hh).2
  omega
theorem more (h : AppE w0 w H c l p x) {v1 : Value} {w1 : World} {ys : List Edge} (ho : OwnE w1 H 24 v1 (l ++ ys)) (hg : w.grownBy w1 c.ownBlock)
    (hat : v1.ownBlock = c.ownBlock ∨ ∃ b, v1.ownBlock = some b ∧ w.heap.size ≤ b) : AppE w0 w1 H v1 (l ++ ys) p x := by
  have hle := h.le
  refine ⟨ho, fun g hp => ?_, h.below.grown hg hle (fun b hb => (h.own.lt b hb).1), Nat.le_trans hle hg.size⟩
  obtain ⟨h1, h2, h3⟩ := h.pend g hp
  have hlt := (Array.getElem?_eq_some_iff.1 h1).1
  refine ⟨by rw [hg.block g hlt (fun e => h3 e.symm)]; exact h1, h2, fun e => ?_⟩
  rcases hat with hat | ⟨b, hb, hbl⟩
  · rw [hat] at e; exact h3 e
  · rw [hb] at e
    obtain rfl := Option.some.inj e
    omega
theorem of_at {g : Nat} {n cap : Nat} (hat : c.ownBlock = some g ∨ g = w.heap.size) : (Value.slice (some ⟨g, 0, none⟩) n cap).ownBlock = c.ownBlock ∨ ∃ b, (Value.slice (some ⟨g, 0, none⟩) n cap).ownBlock = some b ∧ w.heap.size ≤ b := by
  rcases hat with h | h
  · exact .inl h.symm
  · exact .inr ⟨g, rfl, by omega⟩
theorem rd1 (h : AppE w0 w H c l p x) (g : Nat) (hp : p = some g) : RdE w (.slice (some ⟨g, 0, none⟩) 1 1) [x] := by
  obtain ⟨h1, _, _⟩ := h.pend g hp
  have hlt := (Array.getElem?_eq_some_iff.1 h1).1
  refine ⟨some ⟨g, 0, none⟩, 1, rfl, by simp, by omega, fun _ => ⟨g, 0, rfl, hlt, fun j y hy i u hu => ?_⟩⟩
  have hj : j = 0 := by have := (List.getElem?_eq_some_iff.1 hy).1; simp at this; exact this
  subst hj
  obtain rfl : x = y := by simpa using hy
  simp only [Nat.zero_mul, Nat.zero_add]
  rw [cell_of_row w g _ _ _ _ h1]
  rw [← Array.getElem?_toList]
  exact hu
end AppE

theorem Rd.drop {α : Type} {E : α → List Value} {k : Nat} {w : World} {b o len c : Nat} {l : List α} (hlen : len = l.length) (h : Rd E k w (.slice (some ⟨b, o, none⟩) len c) l) {m : Nat} (hm : m ≤ len) : Rd E k w (.slice (some ⟨b, o + m * k, none⟩) (len - m) (c - m)) (l.drop m) := by
  subst hlen
  obtain ⟨A1, c1, e, h1, h2, h3⟩ := h
  simp only [Value.slice.injEq, true_and] at e
  obtain ⟨rfl, rfl⟩ := e
  have hl : (l.drop m).length = l.length - m := by rw [List.length_drop]
  refine ⟨_, _, by rw [hl], by rw [hl]; omega, by omega, fun hne => ?_⟩
  obtain ⟨b', o', e, hb, hc⟩ := h3 (by intro e; subst e; simp at hne)
  simp only [Option.some.injEq, Addr.mk.injEq, and_true] at e
  obtain ⟨rfl, rfl⟩ := e
  refine ⟨b, o + m * k, rfl, hb, fun j x hx i u hu => ?_⟩
  have := hc (m + j) x (by rw [List.getElem?_drop] at hx; exact hx) i u hu
  rw [Nat.add_mul] at this
  rw [← this]
  congr 2
  omega

/-- As the model reckons 'l[m:]'. -/
theorem Rd.dropIf {α : Type} {E : α → List Value} {k : Nat} {w : World} {b o c : Nat} {l : List α} (h : Rd E k w (.slice (some ⟨b, o, none⟩) l.length c) l) {m : Nat} (hm : m ≤ l.length) :
    Rd E k w (.slice (if c = m then some ⟨b, o, none⟩ else some ⟨b, o + m * k, none⟩) (l.length - m) (c - m)) (l.drop m) := by
  by_cases hc : c = m
  · rw [if_pos hc]
    obtain ⟨A1, c1, e, h1, h2, _⟩ := h
    simp only [Value.slice.injEq, true_and] at e
    obtain ⟨rfl, rfl⟩ := e
    have hl : l.drop m = [] := List.drop_eq_nil_of_le (by omega)
    rw [hl, show l.length - m = 0 by omega]
    exact ⟨_, _, rfl, by simp, by omega, fun h => absurd rfl h⟩
  · rw [if_neg hc]
    exact Rd.drop rfl h hm

end Go.Proofs.Ytandminldgiheaa
