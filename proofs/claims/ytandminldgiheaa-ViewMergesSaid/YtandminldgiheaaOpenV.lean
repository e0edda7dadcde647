/- A given view, by value: its two slices read as lists. -/
import Derived.Test.YtandminldgiheaaLaw
import Derived.Test.YtandminldgiheaaViewP
namespace Go.Proofs.Ytandminldgiheaa
open Go.ChangeShapes Go.WideShapes Go.ChangeAt Go.RowKit Go.Deep

section
variable {H : Type} {enc : TypeId × Value → H} {w : World} {base : Nat} {spare : Nat → Bool} {held : Bool}
/-- From elements that read, one by one, to a list. -/
theorem rd_of_each {α : Type} [Inhabited α] {E : α → List Value} {k : Nat} {a : Addr} {len cap : Nat} (hk : 0 < k) (hE : ∀ x, (E x).length = k) (hlc : len ≤ cap) (hm : cap ≤ 9223372036854775807)
    (hx : ∀ i, i < len → ∃ x : α, ∀ j u, (E x)[j]? = some u → w.cell? (a.add (i * k + j)) = some u) : ∃ l : List α, l.length = len ∧ Rd E k w (.slice (some a) len cap) l := by
  have hx' : ∀ i, ∃ x : α, i < len → ∀ j u, (E x)[j]? = some u → w.cell? (a.add (i * k + j)) = some u := fun i => by
    by_cases h : i < len
    · obtain ⟨x, hx1⟩ := hx i h
      exact ⟨x, fun _ => hx1⟩
    · exact ⟨default, fun h' => absurd h' h⟩
  obtain ⟨X, hX⟩ := Classical.axiomOfChoice hx'
  refine ⟨(List.range len).map X, by simp, some a, cap, by simp, by simpa using hlc, hm, fun hne => ?_⟩
  obtain ⟨b, o, spot⟩ := a
  have hlen : 0 < len := by
    rcases Nat.eq_zero_or_pos len with h0 | h0
    · subst h0; exact absurd rfl hne
    · exact h0
  have hu0 : (E (X 0))[0]? = some ((E (X 0))[0]'(by rw [hE]; exact hk)) := List.getElem?_eq_getElem _
  have hc0 := hX 0 hlen 0 _ hu0
  have hspot : spot = none := by simpa [Addr.add] using World.cell?_spot hc0
  subst hspot
  have hlt0 : b < w.heap.size := by
    have h9 := World.block_lt_of_cell? w _ hc0
    rw [add_plain] at h9
    exact h9
  refine ⟨b, o, rfl, hlt0, fun j x hx i u hu => ?_⟩
  have hj : j < len := by have := (List.getElem?_eq_some_iff.1 hx).1; simpa using this
  simp [hj] at hx
  subst hx
  have := hX j hj i u hu
  rw [add_plain] at this
  rw [← this, Nat.add_assoc]

set_option maxRecDepth 100000 in
theorem rd_ints {fuel : Nat} {cs : List Value} {y : DataW H × List MemPlace} (hf : DataW.trod enc Try.prog w base spare held fuel 39 cs = some y) :
    ∃ A len cap l, cs = [.slice A len cap] ∧ RdI w (.slice A len cap) l := by
  have hC : Try.prog.cellsOf 3 = 1 := by kernel_rfl
  rcases open_slice Try.underlying39 hf with ⟨hcs, _⟩ | ⟨a, len, cap, m, n, D, Pl, hcs, hb, hlc, hm, hmm, _, hi⟩
  · exact ⟨_, _, _, [], hcs, Rd.nil w⟩
  · obtain ⟨l, hl, hr⟩ := rd_of_each (E := encI) (k := 1) (w := w) (a := a) (len := len) (cap := cap) (by omega) (fun _ => rfl) hlc (by (have hM : maxLen = 9223372036854775807 := rfl); omega) (fun i hil => by
      obtain ⟨cs', hc, ht⟩ := hi i (by rw [hmm]; split <;> omega)
      rw [hC] at hc
      obtain ⟨_, hcl, hat⟩ := World.cells?_some hc
      obtain ⟨n0, e0, _⟩ := DataW.trod_int Try.underlying3 ht
      subst e0
      refine ⟨n0, fun j u hj => ?_⟩
      have hj1 : j < 1 := by have := (List.getElem?_eq_some_iff.1 hj).1; simpa [encI] using this
      have := hat j hj1
      rw [← Go.Deep.add_add, this]
      exact hj)
    exact ⟨some a, len, cap, l, hcs, hr⟩

set_option maxRecDepth 100000 in
theorem rd_knowns {fuel : Nat} {cs : List Value} {y : DataW H × List MemPlace} (hf : DataW.trod enc Try.prog w base spare held fuel 41 cs = some y) :
    ∃ A len cap l, cs = [.slice A len cap] ∧ RdK w (.slice A len cap) l := by
  have hC : Try.prog.cellsOf 51 = 5 := by kernel_rfl
  rcases open_slice Try.underlying41 hf with ⟨hcs, _⟩ | ⟨a, len, cap, m, n, D, Pl, hcs, hb, hlc, hm, hmm, _, hi⟩
  · exact ⟨_, _, _, [], hcs, Rd.nil w⟩
  · obtain ⟨l, hl, hr⟩ := rd_of_each (E := encK) (k := 5) (w := w) (a := a) (len := len) (cap := cap) (by omega) (fun _ => rfl) hlc (by (have hM : maxLen = 9223372036854775807 := rfl); omega) (fun i hil => by
      obtain ⟨cs', hc, ht⟩ := hi i (by rw [hmm]; split <;> omega)
      rw [hC] at hc
      obtain ⟨ys, n', _, _, _, hyl, hfl⟩ := DataW.trod_struct Try.underlying51 ht
      obtain ⟨_, hcl, hat⟩ := World.cells?_some hc
      match cs', hcl with
      | [c0, c1, c2, c3, c4], _ =>
        have k0 := hfl 0 _ rfl
        have k1 := hfl 1 _ rfl
        have k2 := hfl 2 _ rfl
        have k3 := hfl 3 _ rfl
        have k4 := hfl 4 _ rfl
        have z3 : Try.prog.cellsOf 3 = 1 := by kernel_rfl
        have z4 : Try.prog.cellsOf 4 = 1 := by kernel_rfl
        simp [z3, z4] at k0 k1 k2 k3 k4
        have y0 : ys[0]? = some (ys[0]'(by rw [hyl]; decide)) := List.getElem?_eq_getElem _
        have y1 : ys[1]? = some (ys[1]'(by rw [hyl]; decide)) := List.getElem?_eq_getElem _
        have y2 : ys[2]? = some (ys[2]'(by rw [hyl]; decide)) := List.getElem?_eq_getElem _
        have y3 : ys[3]? = some (ys[3]'(by rw [hyl]; decide)) := List.getElem?_eq_getElem _
        have y4 : ys[4]? = some (ys[4]'(by rw [hyl]; decide)) := List.getElem?_eq_getElem _
        obtain ⟨n0, e0, _⟩ := DataW.trod_int Try.underlying3 (k0.trans y0)
        obtain ⟨n1, e1, _⟩ := DataW.trod_int Try.underlying3 (k1.trans y1)
        obtain ⟨n2, e2, _⟩ := DataW.trod_int Try.underlying3 (k2.trans y2)
        obtain ⟨n3, e3, _⟩ := DataW.trod_int Try.underlying3 (k3.trans y3)
        obtain ⟨n4, e4, _⟩ := DataW.trod_bool Try.underlying4 (k4.trans y4)
        simp at e0 e1 e2 e3 e4
        subst e0 e1 e2 e3 e4
        refine ⟨⟨n0, n1, n2, n3, n4⟩, fun j u hj => ?_⟩
        have hj5 : j < 5 := by have := (List.getElem?_eq_some_iff.1 hj).1; simpa [encK] using this
        have := hat j hj5
        rw [← Go.Deep.add_add, this]
        exact hj)
    exact ⟨some a, len, cap, l, hcs, hr⟩

set_option maxRecDepth 100000 in
theorem open_view {r : Reach} {b0 : Nat} {v : Value} {d : DataW H} {p : List MemPlace} (hv : Value.okWide Try.prog w r b0 43 v) (h : DataW.Trod enc Try.prog w base spare held 43 v d p) :
    ∃ (x : View) (vn vl : Value), v = .agg #[vn, vl] ∧ RdV w vn vl x := by
  obtain ⟨cs, rfl, hsz⟩ := okWide_struct Try.underlying43 hv
  obtain ⟨l⟩ := cs
  obtain ⟨fuel, hf⟩ := h
  have hC : Try.prog.cellsOf 43 = 2 := by kernel_rfl
  obtain ⟨ys, n', _, _, _, hyl, hfl⟩ := DataW.trod_struct Try.underlying43 hf
  match l, hsz.trans hC with
  | [c0, c1], _ =>
    have k0 := hfl 0 _ rfl
    have k1 := hfl 1 _ rfl
    have z3 : Try.prog.cellsOf 39 = 1 := by kernel_rfl
    have z4 : Try.prog.cellsOf 41 = 1 := by kernel_rfl
    simp [z3, z4, Value.cells] at k0 k1
    have y0 : ys[0]? = some (ys[0]'(by rw [hyl]; decide)) := List.getElem?_eq_getElem _
    have y1 : ys[1]? = some (ys[1]'(by rw [hyl]; decide)) := List.getElem?_eq_getElem _
    obtain ⟨A0, l0, d0, ns, e0, r0⟩ := rd_ints (k0.trans y0)
    obtain ⟨A1, l1, d1, ks, e1, r1⟩ := rd_knowns (k1.trans y1)
    simp at e0 e1
    subst e0 e1
    exact ⟨⟨ns, ks⟩, _, _, rfl, r0, r1⟩
end

end Go.Proofs.Ytandminldgiheaa
