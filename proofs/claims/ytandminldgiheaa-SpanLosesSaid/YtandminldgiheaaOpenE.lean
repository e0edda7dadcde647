/- A given edge, by value. -/
import Derived.Test.YtandminldgiheaaLaw
namespace Go.Proofs.Ytandminldgiheaa
open Go.ChangeShapes Go.WideShapes Go.ChangeAt Go.RowKit Go.Deep

section
variable {H : Type} {enc : TypeId × Value → H} {w : World} {base : Nat} {spare : Nat → Bool} {held : Bool}
set_option maxRecDepth 100000 in
theorem open_edge {r : Reach} {b0 : Nat} {v : Value} {d : DataW H} {p : List MemPlace} (hv : Value.okWide Try.prog w r b0 24 v) (h : DataW.Trod enc Try.prog w base spare held 24 v d p) :
    ∃ x : Edge, v = .agg #[.int .i64 x.a, .int .i64 x.b, .int .i64 x.w] := by
  obtain ⟨cs, rfl, hsz⟩ := okWide_struct Try.underlying24 hv
  obtain ⟨l⟩ := cs
  obtain ⟨fuel, hf⟩ := h
  have hC : Try.prog.cellsOf 24 = 3 := by kernel_rfl
  obtain ⟨ys, n', _, _, _, hyl, hfl⟩ := DataW.trod_struct Try.underlying24 hf
  match l, hsz.trans hC with
  | [c0, c1, c2], _ =>
    have k0 := hfl 0 _ rfl
    have k1 := hfl 1 _ rfl
    have k2 := hfl 2 _ rfl
    have z3 : Try.prog.cellsOf 3 = 1 := by kernel_rfl
    simp [z3, Value.cells] at k0 k1 k2
    have y0 : ys[0]? = some (ys[0]'(by rw [hyl]; decide)) := List.getElem?_eq_getElem _
    have y1 : ys[1]? = some (ys[1]'(by rw [hyl]; decide)) := List.getElem?_eq_getElem _
    have y2 : ys[2]? = some (ys[2]'(by rw [hyl]; decide)) := List.getElem?_eq_getElem _
    obtain ⟨n0, e0, _⟩ := DataW.trod_int Try.underlying3 (k0.trans y0)
    obtain ⟨n1, e1, _⟩ := DataW.trod_int Try.underlying3 (k1.trans y1)
    obtain ⟨n2, e2, _⟩ := DataW.trod_int Try.underlying3 (k2.trans y2)
    simp at e0 e1 e2
    subst e0 e1 e2
    exact ⟨⟨n0, n1, n2⟩, rfl⟩
end

end Go.Proofs.Ytandminldgiheaa
