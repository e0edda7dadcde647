/- A slice whose array is the call's own, read as a list of elements of k cells. -/
import Derived.Test.YtandminldgiheaaBase
import Derived.Shelf.SlSortCmp.NoneTotal
namespace Go.Proofs.Ytandminldgiheaa
open Go.RowKit Go.Sort

section
variable {α : Type} {E : α → List Value} {k : Nat}
theorem flat_length (hk : ∀ x, (E x).length = k) (l : List α) : (l.flatMap E).length = l.length * k := by
  induction l with
  | nil => simp
  | cons x l ih => simp [List.flatMap_cons, ih, hk, Nat.add_mul, Nat.add_comm]
theorem flat_get (hk : ∀ x, (E x).length = k) : ∀ (l : List α) (j : Nat) (x : α) (i : Nat), l[j]? = some x → i < k → (l.flatMap E)[j * k + i]? = (E x)[i]?
  | [], j, x, i, h, _ => by simp at h
  | y :: l, 0, x, i, h, hi => by
    simp at h; subst h
    rw [List.flatMap_cons, Nat.zero_mul, Nat.zero_add, List.getElem?_append_left (by rw [hk]; exact hi)]
  | y :: l, j + 1, x, i, h, hi => by
    rw [List.flatMap_cons, List.getElem?_append_right (by rw [hk, Nat.add_mul]; omega), hk]
    have e : (j + 1) * k + i - k = j * k + i := by rw [Nat.add_mul]; omega
    rw [e]
    exact flat_get hk l j x i (by simpa using h) hi
/-- The slice v is the call's own (its array begins at block base or behind it) and holds the elements l. -/
def Own (E : α → List Value) (k : Nat) (w : World) (base : Nat) (e : TypeId) (v : Value) (l : List α) : Prop := w.ownsRow base e k v l.length (l.flatMap E)
variable {w w1 : World} {base : Nat} {e : TypeId} {v : Value} {l : List α}
theorem Own.nil (w : World) (base : Nat) (e : TypeId) : Own E k w base e (.slice none 0 0) ([] : List α) := World.ownsRow_nil w base e k
theorem Own.below (h : Own E k w base e v l) (hb : Below w.heap.size w w1) : Own E k w1 base e v l :=
  World.ownsRow.kept h (row := none) ⟨hb.os, hb.tape, hb.output, hb.size, fun i hi _ => hb.block i hi⟩ (by cases v.ownBlock <;> simp)
theorem Own.alloc (h : Own E k w base e v l) (o : Obj) : Own E k (w.alloc o) base e v l := World.ownsRow.alloc h o
theorem Own.drew (h : Own E k w base e v l) : Own E k w.drew base e v l := h
theorem Own.drewN (h : Own E k w base e v l) (n : Nat) : Own E k (w.drewN n) base e v l := h
theorem Own.kept {row : Option Nat} (h : Own E k w base e v l) (hg : w.grownBy w1 row) (hne : v.ownBlock = none ∨ v.ownBlock ≠ row) : Own E k w1 base e v l :=
  World.ownsRow.kept h hg hne
theorem Own.base_le {base' : Nat} (h : Own E k w base e v l) (hb : base' ≤ base) : Own E k w base' e v l :=
  ⟨h.1, h.2.imp id fun ⟨g, cap, cur, h1, h2, h3⟩ => ⟨g, cap, cur, h1, Nat.le_trans hb h2, h3⟩⟩
theorem Own.lt (h : Own E k w base e v l) : ∀ b, v.ownBlock = some b → base ≤ b ∧ b < w.heap.size := World.ownsRow.lt h
theorem Own.shape (h : Own E k w base e v l) : (v = .slice none 0 0 ∧ l = []) ∨
    ∃ g cap cur, v = .slice (some ⟨g, 0, none⟩) l.length cap ∧ base ≤ g ∧ g < w.heap.size ∧ w.heap[g]? = some (.cells cur e (0, 0)) ∧ l.length ≤ cap ∧ cap ≤ 9223372036854775807 ∧ cur.size = cap * k ∧ cur.toList.take (l.length * k) = l.flatMap E := by
  rcases h.2 with ⟨rfl, h0⟩ | ⟨g, cap, cur, rfl, h1, h2, h3, h4, h5, h6⟩
  · exact .inl ⟨rfl, List.eq_nil_of_length_eq_zero h0⟩
  · exact .inr ⟨g, cap, cur, rfl, h1, (Array.getElem?_eq_some_iff.1 h2).1, h2, h3, by simpa [maxLen] using h4, h5, h6⟩
theorem Own.rd (hk : ∀ x, (E x).length = k) (h : Own E k w base e v l) : Rd E k w v l := by
  rcases h.shape with ⟨rfl, rfl⟩ | ⟨g, cap, cur, rfl, h1, hlt, h2, h3, h4, h5, h6⟩
  · exact Rd.nil w
  · refine ⟨_, cap, rfl, h3, h4, fun _ => ⟨g, 0, rfl, hlt, fun j x hx i u hu => ?_⟩⟩
    have hi : i < k := by
      have := (List.getElem?_eq_some_iff.1 hu).1
      rwa [hk] at this
    have hf := flat_get hk l j x i hx hi
    rw [hu] at hf
    have hb := (List.getElem?_eq_some_iff.1 hf).1
    rw [flat_length hk] at hb
    rw [← h6, List.getElem?_take, if_pos hb, Array.getElem?_toList] at hf
    show w.cell? ⟨g, 0 + j * k + i, none⟩ = some u
    rw [Nat.zero_add, cell_of_row w g _ cur e (0, 0) h2]
    exact hf
/-- 'append(v, y)': y's cells have just been laid in a block of their own. -/
theorem wpList_append1 {P : Program} {ops : Array Oper} {rest : List Oper} {o : Oper} {a : Act} {Q : Exit → Act → World → Prop} (hk : ∀ x, (E x).length = k) (h1c : ∀ x, ∀ v ∈ E x, v.oneCell' = true)
    {w0 W : World} {cs : Array Value} {e : TypeId} (B base : Nat) (hgd : o.guard = none) (s x : Operand) (t : TypeId) (z : Value) (bytes : Nat)
    (ho : o.op = .call { callee := .builtin .append, args := #[s, x], argTypes := #[t, t] })
    (ht : P.underlying t = some (.slice e)) (hinfo : (P.info? e).map (fun i => (i.zero, i.size, i.bytes)) = some (some z, k, bytes)) (hz : z.cells.size = k) (hk0 : 0 < k) (hb0 : 0 < bytes)
    (v : Value) (l : List α) (y : α) (hcs : cs.toList = E y) (hs : a.eval s = v) (H : Nat) (hx : a.eval x = .slice (some ⟨H, 0, none⟩) 1 1) (hH : W.heap.size = H)
    (HO : Own E k W base e v l) (HB : Below B w0 W) (hB : B ≤ base) (hbase : base ≤ W.heap.size) (hl : (l.length + 1) * bytes ≤ 140737488355328)
    (h : ∀ v1 w1, Own E k w1 base e v1 (l ++ [y]) → Below B w0 w1 → W.grownBy w1 v.ownBlock → (v1.ownBlock = v.ownBlock ∨ ∃ b, v1.ownBlock = some b ∧ W.heap.size ≤ b) → wpList P ops Q rest (a.put o.dst v1) w1) :
    wpList P ops Q (o :: rest) a (W.alloc (.cells cs e)) := by
  subst hH
  obtain ⟨i0, hi, hzz⟩ := Option.map_eq_some_iff.1 hinfo
  simp only [Prod.mk.injEq] at hzz
  obtain ⟨hz0, hz1, hz2⟩ := hzz
  have hlen : l.length + 1 ≤ 140737488355328 := Nat.le_trans (Nat.le_mul_of_pos_right _ hb0) hl
  have hne : ∀ b, v.ownBlock = some b → base ≤ b ∧ b < W.heap.size := fun b hb => World.ownsRow.lt HO b hb
  have hcells : ∀ j u, (E y)[j]? = some u → (W.alloc (.cells cs e)).cell? ((⟨W.heap.size, 0, none⟩ : Addr).add j) = some u := by
    intro j u hu
    rw [Addr.add_mid, Nat.zero_add, cell_of_row _ _ j cs e (0, 0) (heap_alloc_new W _), ← Array.getElem?_toList, hcs]
    exact hu
  refine wpList_append_own_at (W.alloc (.cells cs e)) hgd s x t ho base e i0 z k bytes ht hi hz0 hz1 hz2 hz hk0 v l.length (l.flatMap E) hs (World.ownsRow.alloc HO _) ⟨W.heap.size, 0, none⟩ 1 1 (E y) hx (by rw [hk]; omega)
    hcells (h1c y) (by simp only [maxLen]; omega) hl (by simp; omega) ?_
  intro v1 w1 hown hg _ hat
  refine h v1 w1 ?_ ((HB.alloc (by omega) _).grown hg (by simp; omega) (fun b hb => by have := hne b hb; omega)) (World.grownBy.trans (World.grownBy_alloc W _ _) hg) ?_
  · have : (l ++ [y]).flatMap E = l.flatMap E ++ E y := by simp
    show w1.ownsRow base e k v1 (l ++ [y]).length _
    rw [this, List.length_append]
    exact hown
  · rcases hat with hat | hat
    · exact .inl hat
    · exact .inr ⟨_, hat, by simp⟩
/-- 'append(v, ys...)': ys is read, nil let in. -/
theorem wpList_appendR {P : Program} {ops : Array Oper} {rest : List Oper} {o : Oper} {a : Act} {Q : Exit → Act → World → Prop} (hk : ∀ x, (E x).length = k) (h1c : ∀ x, ∀ v ∈ E x, v.oneCell' = true)
    {w0 W : World} (B base : Nat) (hgd : o.guard = none) (s x : Operand) (t e : TypeId) (z : Value) (bytes : Nat)
    (ho : o.op = .call { callee := .builtin .append, args := #[s, x], argTypes := #[t, t] })
    (ht : P.underlying t = some (.slice e)) (hinfo : (P.info? e).map (fun i => (i.zero, i.size, i.bytes)) = some (some z, k, bytes)) (hz : z.cells.size = k) (hk0 : 0 < k) (hb0 : 0 < bytes)
    (v u : Value) (l ys : List α) (hs : a.eval s = v) (hx : a.eval x = u) (HO : Own E k W base e v l) (HR : Rd E k W u ys) (HB : Below B w0 W) (hB : B ≤ base) (hbase : base ≤ W.heap.size) (hl : (l.length + ys.length) * bytes ≤ 140737488355328)
    (h : ∀ v1 w1, Own E k w1 base e v1 (l ++ ys) → Below B w0 w1 → W.grownBy w1 v.ownBlock → (v1.ownBlock = v.ownBlock ∨ ∃ b, v1.ownBlock = some b ∧ W.heap.size ≤ b) → wpList P ops Q rest (a.put o.dst v1) w1) :
    wpList P ops Q (o :: rest) a W := by
  obtain ⟨i0, hi, hzz⟩ := Option.map_eq_some_iff.1 hinfo
  simp only [Prod.mk.injEq] at hzz
  obtain ⟨hz0, hz1, hz2⟩ := hzz
  obtain ⟨A, c, rfl, hc1, hc2, hc3⟩ := HR
  have hlen : l.length + ys.length ≤ 140737488355328 := Nat.le_trans (Nat.le_mul_of_pos_right _ hb0) hl
  have hne : ∀ b, v.ownBlock = some b → base ≤ b ∧ b < W.heap.size := fun b hb => World.ownsRow.lt HO b hb
  rcases A with _ | ad
  · have hy : ys = [] := by
      rcases List.eq_nil_or_concat ys with h | ⟨_, _, h⟩
      · exact h
      · obtain ⟨b, o, hh, _⟩ := hc3 (by rw [h]; simp)
        cases hh
    subst hy
    have hrun : (Builtin.append_ #[t, t] o.type #[v, .slice none 0 c]).run P W = .ok v W := by
      rcases HO.2 with ⟨rfl, hn⟩ | ⟨g, cap, cur, rfl, _, _, hnc, _⟩
      · simp [Builtin.append_, run_underlying ht, sizeOf, typeInfo, hi, Builtin.lenOf, Builtin.firstCells]
      · simp [Builtin.append_, run_underlying ht, sizeOf, typeInfo, hi, Builtin.lenOf, Builtin.firstCells, hnc, storeCells]
    refine wpList_plain hgd fun K hK => ?_
    unfold Oper.wp execOp
    simp only [ho, resolve, invoke, builtin, Sem.run_bind, Sem.run_pure, Result.andThen_ok, List.map_toArray, List.map_cons, List.map_nil, hs, hx, hrun, List.length_nil]
    exact hK _ _ (h v W (by simpa using HO) HB (World.grownBy.refl W _) (.inl rfl))
  · have hcells : ∀ j u, (ys.flatMap E)[j]? = some u → W.cell? (ad.add j) = some u := by
      intro j u hu
      have hne : ys ≠ [] := by intro h; subst h; simp at hu
      obtain ⟨b, o, he, _, hc⟩ := hc3 hne
      obtain rfl := Option.some.inj he
      have hj : j < ys.length * k := by
        have := (List.getElem?_eq_some_iff.1 hu).1
        rwa [flat_length hk] at this
      have hq : j / k < ys.length := (Nat.div_lt_iff_lt_mul hk0).2 hj
      have hm : j % k < k := Nat.mod_lt _ hk0
      have hf := flat_get hk ys (j / k) ys[j / k] (j % k) (List.getElem?_eq_getElem hq) hm
      have e : j / k * k + j % k = j := by rw [Nat.mul_comm]; exact Nat.div_add_mod j k
      rw [e, hu] at hf
      have := hc (j / k) _ (List.getElem?_eq_getElem hq) (j % k) u hf.symm
      rw [Addr.add_mid]
      have e2 : o + j / k * k + j % k = o + j := by omega
      rwa [e2] at this
    refine wpList_append_own_at W hgd s x t ho base e i0 z k bytes ht hi hz0 hz1 hz2 hz hk0 v l.length (l.flatMap E) hs HO ad ys.length c (ys.flatMap E) hx (flat_length hk ys)
      hcells (fun u hu => by obtain ⟨y, _, hy⟩ := List.mem_flatMap.1 hu; exact h1c y u hy) (by simp only [maxLen]; omega) hl hbase ?_
    intro v1 w1 hown hg _ hat
    refine h v1 w1 ?_ (HB.grown hg (by omega) (fun b hb => by have := hne b hb; omega)) hg ?_
    · have : (l ++ ys).flatMap E = l.flatMap E ++ ys.flatMap E := by simp
      show w1.ownsRow base e k v1 (l ++ ys).length _
      rw [this, List.length_append]
      exact hown
    · rcases hat with hat | hat
      · exact .inl hat
      · exact .inr ⟨_, hat, Nat.le_refl _⟩
/-- The flat row, as the sort has it. -/
theorem flatK_eq [Inhabited α] (hk : ∀ x, (E x).length = k) (l : List α) : (flatK E k l.toArray).toList = l.flatMap E := by
  apply List.ext_getElem?
  intro t
  by_cases ht : t < l.length * k
  · have hk0 : 0 < k := by
      rcases Nat.eq_zero_or_pos k with h | h
      · subst h; simp at ht
      · exact h
    have hj : t / k < l.length := (Nat.div_lt_iff_lt_mul hk0).2 ht
    have hm : t % k < k := Nat.mod_lt _ hk0
    have e1 : (flatK E k l.toArray).toList[t]? = some ((flatK E k l.toArray)[t]!) := by
      rw [Array.getElem?_toList, getElem!_pos _ t (by simpa using ht), Array.getElem?_eq_getElem (by simpa using ht)]
    rw [e1, get_flatK E k l.toArray t (by simpa using ht)]
    have e2 := flat_get hk l (t / k) l[t / k] (t % k) (List.getElem?_eq_getElem hj) hm
    rw [Nat.mul_comm, Nat.div_add_mod] at e2
    rw [e2]
    have e3 : l.toArray[t / k]! = l[t / k] := by rw [getElem!_pos _ _ (by simpa using hj)]; simp
    rw [e3, getElem!_pos _ _ (by rw [hk]; exact hm), List.getElem?_eq_getElem (by rw [hk]; exact hm)]
  · rw [List.getElem?_eq_none (by simp; omega), List.getElem?_eq_none (by rw [flat_length hk]; omega)]
theorem Own.holdsK [Inhabited α] (hk : ∀ x, (E x).length = k) {g cap : Nat} (h : Own E k w base e (.slice (some ⟨g, 0, none⟩) l.length cap) l) : HoldsK E k w g 0 l.toArray := by
  rcases h.shape with ⟨h, _⟩ | ⟨g', cap', cur, hv, h1, hlt, h2, h3, h4, h5, h6⟩
  · cases h
  · injection hv with hv _ _; injection hv with hv; injection hv with hv; subst hv
    intro j hj
    have hj' : j < l.length * k := by simpa using hj
    constructor
    · rw [Nat.zero_add, cell_of_row w g j cur e (0, 0) h2]
      have e1 : (l.flatMap E)[j]? = cur[j]? := by rw [← h6, List.getElem?_take, if_pos hj', Array.getElem?_toList]
      rw [← e1, ← flatK_eq hk l, Array.getElem?_toList]
      rw [getElem!_pos _ j hj, Array.getElem?_eq_getElem hj]; rfl
    · exact frozen_of_row w g _ cur e h2
/-- What the sort leaves: the row is the call's own still, and holds the sorted elements. -/
theorem Own.sorted [Inhabited α] (hk : ∀ x, (E x).length = k) {g cap : Nat} (h : Own E k w base e (.slice (some ⟨g, 0, none⟩) l.length cap) l) (l' : List α) (hl : l'.length = l.length) (m : Nat) (os : Array Obj) :
    Own E k (sortWorldK E k w g 0 m l'.toArray os) base e (.slice (some ⟨g, 0, none⟩) l'.length cap) l' := by
  rcases h.shape with ⟨h, _⟩ | ⟨g', cap', cur, hv, h1, hlt, h2, h3, h4, h5, h6⟩
  · cases h
  · injection hv with hv _ hc; injection hv with hv; injection hv with hv; subst hv; subst hc
    refine ⟨flat_length hk l', .inr ⟨g, cap, putCells id 0 (flatK E k l'.toArray) cur, rfl, h1, ?_, by omega, by simpa [maxLen] using h4, by simp [putCells, h5], ?_⟩⟩
    · unfold sortWorldK
      rw [heap_grow_old _ _ (by simpa [putRowK] using hlt)]
      show (mapBlock (Sort.ahead w m) g _).heap[g]? = _
      simp only [mapBlock, heap_ahead]
      rw [Array.getElem?_modify, if_pos rfl, h2]
      rfl
    · rw [← flatK_eq hk l']
      apply List.ext_getElem?
      intro t
      rw [List.getElem?_take]
      have hs : (flatK E k l'.toArray).size = l'.length * k := by simp
      by_cases ht : t < l'.length * k
      · have hcs : t < cur.size := by
          rw [h5]; rw [hl] at ht
          exact Nat.lt_of_lt_of_le ht (Nat.mul_le_mul_right _ h3)
        rw [if_pos ht, Array.getElem?_toList, Array.getElem?_toList]
        simp only [putCells, Array.getElem?_mapIdx, Array.getElem?_eq_getElem hcs, Option.map_some, Nat.zero_le, true_and, Nat.zero_add, hs, ht, if_true, Nat.sub_zero, id]
        rw [getElem!_pos _ t (by rw [hs]; exact ht), Array.getElem?_eq_getElem (by rw [hs]; exact ht)]
      · rw [if_neg ht, List.getElem?_eq_none (by rw [Array.length_toList, hs]; omega)]
theorem grow3 (W : World) (a b c : Obj) : (((W.alloc a).alloc b).alloc c).drew = grow (W.drewN 1) #[a, b, c] := by
  rw [alloc_eq_grow, alloc_eq_grow, alloc_eq_grow, grow_grow, grow_grow, drew_grow]; rfl
theorem grown_sorted [Inhabited α] {g m : Nat} {d : Array α} {os : Array Obj} : w.grownBy (sortWorldK E k w g 0 m d os) (some g) := by
  refine ⟨rfl, rfl, rfl, by simp [sortWorldK, putRowK], fun i hi hne => ?_⟩
  unfold sortWorldK
  rw [heap_grow_old _ _ (by simpa [putRowK] using hi)]
  show (mapBlock (Sort.ahead w m) g _).heap[i]? = _
  simp only [mapBlock, heap_ahead]
  rw [Array.getElem?_modify, if_neg (fun e => hne (by rw [e]))]
theorem below_sorted [Inhabited α] {w0 : World} {B g m : Nat} {d : Array α} {os : Array Obj} (hb : Below B w0 w) (hg : B ≤ g) (hB : B ≤ w.heap.size) : Below B w0 (sortWorldK E k w g 0 m d os) := by
  refine hb.trans ⟨rfl, rfl, rfl, by simp [sortWorldK, putRowK], fun i hi => ?_⟩
  unfold sortWorldK
  rw [heap_grow_old _ _ (by simp [putRowK]; omega)]
  show (mapBlock (Sort.ahead w m) g _).heap[i]? = _
  simp only [mapBlock, heap_ahead]
  rw [Array.getElem?_modify, if_neg (by omega)]
end

theorem Own.setCell_other {α : Type} {E : α → List Value} {k : Nat} {w : World} {base : Nat} {e : TypeId} {v : Value} {l : List α} (h : Own E k w base e v l) {g i : Nat} {x : Value} (hne : v.ownBlock ≠ some g) : Own E k (w.setCell ⟨g, i, none⟩ x) base e v l :=
  ownsRow_setCell_other h hne x
/-- A block of another type is not its array. -/
theorem Own.apart_of {α : Type} {E : α → List Value} {k : Nat} {w : World} {base : Nat} {e t : TypeId} {v : Value} {l : List α} (h : Own E k w base e v l) {g : Nat} {cs : Array Value} {x : Nat × Nat} (hg : w.heap[g]? = some (.cells cs t x)) (hne : e ≠ t) : v.ownBlock ≠ some g := by
  rcases h.shape with ⟨rfl, _⟩ | ⟨g', cap, cur, rfl, _, _, h2, _⟩
  · simp [Value.ownBlock]
  · intro hh
    simp [Value.ownBlock] at hh
    subst hh
    rw [h2] at hg
    simp only [Option.some.injEq, Obj.cells.injEq] at hg
    exact hne hg.2.1
theorem Own.apart_own {α β : Type} {E : α → List Value} {F : β → List Value} {k m : Nat} {w : World} {base base' : Nat} {e t : TypeId} {v u : Value} {l : List α} {l' : List β} (h : Own E k w base e v l) (h' : Own F m w base' t u l') (hne : e ≠ t) : v.ownBlock = none ∨ v.ownBlock ≠ u.ownBlock := by
  rcases h'.shape with ⟨rfl, _⟩ | ⟨g', cap, cur, rfl, _, _, h2, _⟩
  · cases hv : v.ownBlock with
    | none => exact .inl rfl
    | some b => exact .inr (by simp [Value.ownBlock])
  · exact .inr (h.apart_of h2 hne)

theorem encE_len (x : Edge) : (encE x).length = 3 := rfl
theorem encE_one (x : Edge) : ∀ v ∈ encE x, v.oneCell' = true := by
  intro v hv
  simp [encE] at hv
  rcases hv with rfl | rfl | rfl <;> rfl
theorem encI_len (x : Int) : (encI x).length = 1 := rfl
theorem encI_one (x : Int) : ∀ v ∈ encI x, v.oneCell' = true := by
  intro v hv
  simp [encI] at hv
  subst hv; rfl
theorem infoI : (Try.prog.info? 3).map (fun i => (i.zero, i.size, i.bytes)) = some (some (.int .i64 0), 1, 8) := by kernel_rfl
theorem infoE : (Try.prog.info? 24).map (fun i => (i.zero, i.size, i.bytes)) = some (some (.agg #[.int .i64 0, .int .i64 0, .int .i64 0]), 3, 24) := by kernel_rfl
abbrev OwnE := Own encE 3
abbrev OwnI := Own encI 1

end Go.Proofs.Ytandminldgiheaa
