/- From a law's contract ('true, and nothing old turns') to its row; and how a given slice of edges is opened. -/
import Derived.Test.YtandminldgiheaaRows
import Derived.Test.YtandminldgiheaaBase
import Derived.ProofKit
import Derived.Deep.Slices
import Derived.Deep.Fields
import Derived.ChangeSame
import Derived.OpenShut
namespace Go.Proofs.Ytandminldgiheaa
open Go.ChangeShapes Go.WideShapes Go.ChangeAt Go.RowKit Go.Deep

theorem ownKnob0 : ownKnob Try.prog.godebug = none := by kernel_rfl
theorem laidOut0 : laidOutB Try.prog = true := by kernel_rfl

section
variable {H : Type} {enc : TypeId × Value → H} {P : Program} {w : World} {base : Nat} {spare : Nat → Bool} {held : Bool}

/-- Arguments read behind the call as they did before it. -/
theorem trodAll_kept (hl : laidOutB P = true) {W W' : World} (hb : Below W.heap.size W W') :
    ∀ {ts : List TypeId} {vs : List Value} {ds : List (DataW H)} {p : List MemPlace}, (ts.all fun t => P.readableRec t && decide (t < P.types.size)) = true → DataW.TrodAll enc P W 0 (fun _ => true) true ts vs ds p → (∀ x ∈ p, x.block < W.heap.size) →
      DataW.TrodAll enc P W' 0 (fun b => decide (b < W.heap.size)) true ts vs ds p
  | [], _, _, _, _, h, _ => by
    obtain ⟨rfl, rfl, rfl⟩ := trodAll_nil h
    exact trodAll_mk0
  | t :: ts, _, _, _, hr, h, hp => by
    obtain ⟨v, vs, d, ds, p, q, rfl, rfl, rfl, h1, h2⟩ := trodAll_cons h
    simp only [List.all_cons, Bool.and_eq_true, decide_eq_true_eq] at hr
    exact ⟨p, q, Below.trod hl hr.1.1 hr.1.2 h1 hb (fun x hx => hp x (List.mem_append_left _ hx)),
      trodAll_kept hl hb (by simpa using hr.2) h2 (fun x hx => hp x (List.mem_append_right _ hx)), rfl⟩

/-- A law's POST: its result is true, its arguments read as they did. -/
theorem law_post {f : Func} {s : ChangeSpec} {apart : Bool} {W W' : World} {args : Array Value} {ds : List (DataW H)} {before : List MemPlace} {tb : TypeId}
    (hl : laidOutB P = true) (hts : (f.params.toList.all fun t => P.readableRec t && decide (t < P.types.size)) = true) (hr : f.resultTypes = #[tb]) (htb : P.underlying tb = some .bool)
    (hs : s.vars = []) (hfn : s.fn H (ds ++ []) = { results := [.lit (.bool true)], args := ds }) (hW : DataW.Whole enc P f.params.toList s.vars apart W args.toList ds [] before) (hB : Below W.heap.size W W') :
    s.post enc P f apart true false false W args (.bool true) W' := by
  have hW' := hW
  obtain ⟨p, q, hA, hV, rfl, _, _⟩ := hW
  rw [hs] at hV
  obtain ⟨_, rfl⟩ := trodVars_none hV
  have hlt : ∀ x ∈ p, x.block < W.heap.size := fun x hx => hW'.lt x (List.mem_append_left _ hx)
  refine ⟨ds, [], p ++ [], [], p, [], hW', ?_, ?_, ?_, hB.frame _, fun h => by cases h⟩
  · rw [hfn, hr]
    exact trodAll_mk1 (shut_bool htb true)
  · rw [hfn]
    exact trodAll_kept hl hB hts hA hlt
  · rw [hfn, hs]
    exact rfl
end

section
variable {H : Type} {enc : TypeId × Value → H} {w : World} {base : Nat} {spare : Nat → Bool} {held : Bool}
set_option maxRecDepth 100000 in
/-- A given slice of edges reads as a list. -/
theorem open_edges {r : Reach} {b0 : Nat} {v : Value} {d : DataW H} {p : List MemPlace} (hv : Value.okWide Try.prog w r b0 22 v) (h : DataW.Trod enc Try.prog w base spare held 22 v d p) :
    ∃ l : List Edge, RdE w v l := by
  obtain ⟨a0, len, cap, rfl⟩ := okWide_slice Try.underlying22 hv
  obtain ⟨fuel, hf⟩ := h
  have hC : Try.prog.cellsOf 24 = 3 := by kernel_rfl
  rcases open_slice Try.underlying22 hf with ⟨hcs, _⟩ | ⟨a, len', cap', m, n, D, Pl, hcs, hb, hlc, hm, hmm, _, hi⟩
  · simp [Value.cells] at hcs
    obtain ⟨rfl, rfl, rfl⟩ := hcs
    exact ⟨[], Rd.nil w⟩
  · simp [Value.cells] at hcs
    obtain ⟨rfl, rfl, rfl⟩ := hcs
    have hx : ∀ i, i < len → ∃ x : Edge, ∀ j u, (encE x)[j]? = some u → w.cell? (a.add (i * 3 + j)) = some u := by
      intro i hil
      obtain ⟨cs', hc, ht⟩ := hi i (by rw [hmm]; split <;> omega)
      rw [hC] at hc
      obtain ⟨ys, n', _, _, _, hyl, hfl⟩ := DataW.trod_struct Try.underlying24 ht
      obtain ⟨_, hcl, hat⟩ := World.cells?_some hc
      match cs', hcl with
      | [c0, c1, c2], _ =>
        have k0 := hfl 0 _ rfl
        have k1 := hfl 1 _ rfl
        have k2 := hfl 2 _ rfl
        have z3 : Try.prog.cellsOf 3 = 1 := by kernel_rfl
        simp [z3] at k0 k1 k2
        have y0 : ys[0]? = some (ys[0]'(by rw [hyl]; decide)) := List.getElem?_eq_getElem _
        have y1 : ys[1]? = some (ys[1]'(by rw [hyl]; decide)) := List.getElem?_eq_getElem _
        have y2 : ys[2]? = some (ys[2]'(by rw [hyl]; decide)) := List.getElem?_eq_getElem _
        obtain ⟨n0, e0, _⟩ := DataW.trod_int Try.underlying3 (k0.trans y0)
        obtain ⟨n1, e1, _⟩ := DataW.trod_int Try.underlying3 (k1.trans y1)
        obtain ⟨n2, e2, _⟩ := DataW.trod_int Try.underlying3 (k2.trans y2)
        simp at e0 e1 e2
        subst e0 e1 e2
        refine ⟨⟨n0, n1, n2⟩, fun j u hj => ?_⟩
        have hj3 : j < 3 := by have := (List.getElem?_eq_some_iff.1 hj).1; simpa [encE] using this
        have := hat j hj3
        rw [← Go.Deep.add_add, this]
        exact hj
    have hx' : ∀ i, ∃ x : Edge, i < len → ∀ j u, (encE x)[j]? = some u → w.cell? (a.add (i * 3 + j)) = some u := fun i => by
      by_cases h : i < len
      · obtain ⟨x, hx1⟩ := hx i h
        exact ⟨x, fun _ => hx1⟩
      · exact ⟨⟨0, 0, 0⟩, fun h' => absurd h' h⟩
    obtain ⟨X, hX⟩ := Classical.axiomOfChoice hx'
    refine ⟨(List.range len).map X, some a, cap, by simp, by simpa using hlc, by (have hM : maxLen = 9223372036854775807 := rfl); omega, fun hne => ?_⟩
    obtain ⟨b, o, spot⟩ := a
    have hlen : 0 < len := by
      rcases Nat.eq_zero_or_pos len with h0 | h0
      · subst h0; exact absurd rfl hne
      · exact h0
    have hc0 := hX 0 hlen 0 _ rfl
    have hspot : spot = none := by simpa [Addr.add] using World.cell?_spot hc0
    subst hspot
    refine ⟨b, o, rfl, World.block_lt_of_cell? w _ hc0, fun j x hx i u hu => ?_⟩
    have hj : j < len := by have := (List.getElem?_eq_some_iff.1 hx).1; simpa using this
    simp [hj] at hx
    subst hx
    have := hX j hj i u hu
    rw [add_plain] at this
    rw [← this, Nat.add_assoc]
end

end Go.Proofs.Ytandminldgiheaa
