/- slices.Sort and slices.Compact at whole numbers, on a row of the call's own. -/
import Derived.Test.YtandminldgiheaaOwn
import Derived.Test.YtandminldgiheaaShelf
import Derived.Test.YtandminldgiheaaMergeP
namespace Go.Proofs.Ytandminldgiheaa
open Go.RowKit Go.Sort Go.Shelf

theorem putRowI (W : World) (g : Nat) (d : Array Int) : putRow (Value.int .i64) W g 0 d = putRowK encI 1 W g 0 d := by
  unfold putRowK putRow
  refine mapBlock_congr _ _ _ _ fun c e fr _ => ?_
  unfold putCells
  apply Array.ext
  · simp
  · intro i h1 h2
    simp only [Array.getElem_mapIdx, size_flatK, Nat.mul_one]
    by_cases h : i < d.size
    · have hg := get_flatK encI 1 d i (by omega)
      simp only [Nat.div_one, Nat.mod_one] at hg
      have e1 : (encI d[i]!)[0]! = Value.int .i64 d[i]! := rfl
      rw [e1] at hg
      rw [if_pos ⟨Nat.zero_le _, by omega⟩, if_pos ⟨Nat.zero_le _, by omega⟩, Nat.sub_zero, hg]; rfl
    · simp [h]
theorem Own.take {α : Type} {E : α → List Value} {k : Nat} (hk : ∀ x, (E x).length = k) {w : World} {base : Nat} {e : TypeId} {g cap : Nat} {l : List α}
    (h : Own E k w base e (.slice (some ⟨g, 0, none⟩) l.length cap) l) (m : Nat) (hm : m ≤ l.length) : Own E k w base e (.slice (some ⟨g, 0, none⟩) m cap) (l.take m) := by
  rcases h.shape with ⟨h, _⟩ | ⟨g', cap', cur, hv, h1, hlt, h2, h3, h4, h5, h6⟩
  · cases h
  · injection hv with hv _ hc; injection hv with hv; injection hv with hv; subst hv; subst hc
    have hl : (l.take m).length = m := by rw [List.length_take]; omega
    have hf : (l.take m).flatMap E = (l.flatMap E).take (m * k) := by
      have e1 : l.flatMap E = (l.take m).flatMap E ++ (l.drop m).flatMap E := by rw [← List.flatMap_append, List.take_append_drop]
      rw [e1, List.take_left' (by rw [flat_length hk, hl])]
    refine ⟨flat_length hk _, .inr ⟨g, cap, cur, by rw [hl], h1, h2, by omega, by simpa [maxLen] using h4, h5, ?_⟩⟩
    rw [hl, hf, ← h6, List.take_take]
    congr 1
    have := Nat.mul_le_mul_right k hm
    omega

theorem holdsI {w : World} {base : Nat} {e : TypeId} {g cap : Nat} {l : List Int} (h : OwnI w base e (.slice (some ⟨g, 0, none⟩) l.length cap) l) : Holds (Value.int .i64) w g 0 l.toArray := by
  have hh := h.holdsK encI_len
  intro j hj
  have h1 := hh j (by rw [size_flatK]; omega)
  have hg := get_flatK encI 1 l.toArray j (by omega)
  simp only [Nat.div_one, Nat.mod_one] at hg
  have e1 : (encI l.toArray[j]!)[0]! = Value.int .i64 l.toArray[j]! := rfl
  rw [hg, e1] at h1
  exact h1
set_option maxHeartbeats 1000000 in
theorem sortI_c (l : List Int) (v : Value) (w : World) (base : Nat) (hv : OwnI w base 3 v l) (hl : l.length ≤ 1000000) :
    Calls Try.prog 57 #[v] w fun e w' => e = .returned (.tuple #[]) ∧ OwnI w' base 3 v (sortI l) ∧ (∀ B w0, B ≤ base → B ≤ w.heap.size → Below B w0 w → Below B w0 w') := by
  rcases hv.shape with ⟨rfl, rfl⟩ | ⟨g, cap, cur, rfl, h1, hlt, _⟩
  · refine (Any.slices_Sort_int_none Try.sortI none 0 w).mono ?_
    rintro e w' ⟨rfl, rfl⟩
    exact ⟨rfl, by simpa [sortI] using hv, fun _ _ _ _ h => h⟩
  · refine Calls.mono (Any.slices_Sort_int Try.sortI g 0 cap l w (holdsI hv) hlt (by omega)) ?_
    rintro e w' ⟨rfl, n, os, rfl⟩
    rw [putRowI]
    have ho := hv.sorted encI_len (sortI l) (sortI_length l) n os
    rw [sortI_length] at ho
    exact ⟨rfl, ho, fun B w0 hB hB2 hb => below_sorted (E := encI) (k := 1) hb (by omega) hB2⟩

set_option maxHeartbeats 1000000 in
theorem sortI_g (l : List Int) (v : Value) (w : World) (base : Nat) (hv : OwnI w base 3 v l) (hl : l.length ≤ 1000000) :
    Calls Try.prog 57 #[v] w fun e w' => e = .returned (.tuple #[]) ∧ OwnI w' base 3 v (sortI l) ∧ w.grownBy w' v.ownBlock := by
  rcases hv.shape with ⟨rfl, rfl⟩ | ⟨g, cap, cur, rfl, h1, hlt, _⟩
  · refine (Any.slices_Sort_int_none Try.sortI none 0 w).mono ?_
    rintro e w' ⟨rfl, rfl⟩
    exact ⟨rfl, by simpa [sortI] using hv, World.grownBy.refl _ _⟩
  · refine Calls.mono (Any.slices_Sort_int Try.sortI g 0 cap l w (holdsI hv) hlt (by omega)) ?_
    rintro e w' ⟨rfl, n, os, rfl⟩
    rw [putRowI]
    have ho := hv.sorted encI_len (sortI l) (sortI_length l) n os
    rw [sortI_length] at ho
    exact ⟨rfl, ho, grown_sorted (E := encI) (k := 1)⟩

end Go.Proofs.Ytandminldgiheaa
