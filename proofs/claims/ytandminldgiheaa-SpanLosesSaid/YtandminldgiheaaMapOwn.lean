/- A map of the call's own whose keys are structs: it holds a list of keys with their values, in the order in which they came. -/
import Derived.Test.YtandminldgiheaaBase
import Derived.Carry
import Derived.Maps.OwnOps
namespace Go.Proofs.Ytandminldgiheaa
open Go.RowKit

/-- How keys of a struct type stand: what the model asks of them. -/
structure KeyLaw {κ : Type} (P : Program) (K : TypeId) (kenc : κ → Value) : Prop where
  desc : ∃ fs, P.underlying K = some (.struct fs)
  chk : ∀ (b : Bool) (k : κ) (w : World), (Instr.checkKey b 10000 K (kenc k)).run P w = .ok () w
  eq : ∀ (a b : κ) (w : World) [Decidable (a = b)], (Op.equal K (kenc a) (kenc b)).run P w = .ok (decide (a = b)) w
  bits : ∀ k, Instr.sameBits 10000 (kenc k) (kenc k) = true

section
variable {κ ν : Type}
/-- Block b is a map that holds m. -/
def MapIs (kenc : κ → Value) (venc : ν → Value) (w : World) (b : Nat) (m : List (κ × ν)) : Prop :=
  ∃ es clock, w.heap[b]? = some (.map es clock) ∧ es.toList.map (fun e => (e.key, e.val)) = m.map (fun p => (kenc p.1, venc p.2))
variable {kenc : κ → Value} {venc : ν → Value} {w w1 : World} {b : Nat} {m : List (κ × ν)}
theorem MapIs.made (w : World) : MapIs kenc venc (w.alloc (.map #[] 0)) w.heap.size ([] : List (κ × ν)) := ⟨#[], 0, heap_alloc_new w _, rfl⟩
theorem MapIs.lt (h : MapIs kenc venc w b m) : b < w.heap.size := by
  obtain ⟨es, c, h, _⟩ := h
  exact (Array.getElem?_eq_some_iff.1 h).1
theorem MapIs.of_block (h : MapIs kenc venc w b m) (hb : w1.heap[b]? = w.heap[b]?) : MapIs kenc venc w1 b m := by
  obtain ⟨es, c, h, h2⟩ := h
  exact ⟨es, c, by rw [hb, h], h2⟩
theorem MapIs.alloc (h : MapIs kenc venc w b m) (o : Obj) : MapIs kenc venc (w.alloc o) b m := h.of_block (heap_alloc_old w o h.lt)
theorem MapIs.drew (h : MapIs kenc venc w b m) : MapIs kenc venc w.drew b m := h
theorem MapIs.below (h : MapIs kenc venc w b m) (hb : Below w.heap.size w w1) : MapIs kenc venc w1 b m := h.of_block (hb.block b h.lt)
end
section
variable {κ ν : Type} [DecidableEq κ]
/-- Where a key is, and its value. -/
def findAt (k : κ) : List (κ × ν) → Nat → Option (Nat × ν)
  | [], _ => none
  | p :: m, i => if k = p.1 then some (i, p.2) else findAt k m (i + 1)
def look (k : κ) : List (κ × ν) → Option ν
  | [] => none
  | p :: m => if k = p.1 then some p.2 else look k m
/-- A key's value is laid: in its place, or behind all. -/
def put (k : κ) (v : ν) : List (κ × ν) → List (κ × ν)
  | [] => [(k, v)]
  | p :: m => if k = p.1 then (k, v) :: m else p :: put k v m
theorem findAt_look (k : κ) (m : List (κ × ν)) : ∀ i, (findAt k m i).map (·.2) = look k m := by
  induction m with
  | nil => intro i; rfl
  | cons p m ih =>
    intro i
    unfold findAt look
    split
    · rfl
    · exact ih _
theorem look_put (k j : κ) (v : ν) (m : List (κ × ν)) : look j (put k v m) = if j = k then some v else look j m := by
  induction m with
  | nil => simp [put, look]
  | cons p m ih =>
    unfold put
    by_cases h : k = p.1
    · rw [if_pos h]
      unfold look
      by_cases h2 : j = k
      · simp [h2]
      · simp only [h2, if_false]
        rw [if_neg (by rw [← h]; exact h2)]
    · rw [if_neg h]
      unfold look
      by_cases h2 : j = p.1
      · rw [if_pos h2, if_pos h2, if_neg (by rw [h2]; exact fun e => h e.symm)]
      · rw [if_neg h2, if_neg h2, ih]

variable {kenc : κ → Value} {venc : ν → Value} {w w1 : World} {b : Nat} {m : List (κ × ν)} {P : Program} {K V T : TypeId}
theorem run_findAsking (L : KeyLaw P K kenc) (k : κ) : ∀ (es : List MapEntry) (m : List (κ × ν)) (i : Nat) (w : World), es.map (fun e => (e.key, e.val)) = m.map (fun p => (kenc p.1, venc p.2)) →
    (Instr.findAsking K (kenc k) es i).run P w = .ok ((findAt k m i).map (fun p => (p.1, venc p.2))) w := by
  intro es
  induction es with
  | nil =>
    intro m i w h
    cases m with
    | nil => simp [Instr.findAsking, findAt]
    | cons p m => simp at h
  | cons e es ih =>
    intro m i w h
    cases m with
    | nil => simp at h
    | cons p m =>
      simp only [List.map_cons, List.cons.injEq, Prod.mk.injEq] at h
      obtain ⟨⟨h1, h2⟩, h3⟩ := h
      unfold Instr.findAsking findAt
      rw [h1, h2, Sem.run_bind, L.eq k p.1 w, Result.andThen_ok]
      by_cases hk : k = p.1
      · simp [hk]
      · simp [hk, ih m (i + 1) w h3]
theorem run_findKey (L : KeyLaw P K kenc) (k : κ) (es : List MapEntry) (m : List (κ × ν)) (w : World) (h : es.map (fun e => (e.key, e.val)) = m.map (fun p => (kenc p.1, venc p.2))) :
    (Instr.findKey K (kenc k) es).run P w = .ok ((findAt k m 0).map (fun p => (p.1, venc p.2))) w := by
  obtain ⟨fs, hd⟩ := L.desc
  unfold Instr.findKey
  rw [Sem.run_bind, run_underlying hd, Result.andThen_ok]
  cases es with
  | nil =>
    cases m with
    | nil => simp [Instr.findNow, findAt]
    | cons p m => simp at h
  | cons e es =>
    have : Instr.findNow (.struct fs) (kenc k) (e :: es) 0 = none := by simp [Instr.findNow, Instr.sameNow]
    simp only [this]
    exact run_findAsking L k (e :: es) m 0 w h
theorem run_lookup_m (L : KeyLaw P K kenc) (hT : P.underlying T = some (.map K V)) (h : MapIs kenc venc w b m) (k : κ) (z : Value) (hz : (zeroValue V).run P w = .ok z w) (ok : Bool) :
    (Instr.lookup T (.map (some b)) (kenc k) ok).run P w = .ok (if ok then .tuple #[((look k m).map venc).getD z, .bool (look k m).isSome] else ((look k m).map venc).getD z) w := by
  obtain ⟨es, c, hb, hes⟩ := h
  unfold Instr.lookup
  rw [Sem.run_bind, run_underlying hT, Result.andThen_ok]
  have hf := run_findKey L k es.toList m w hes
  have hl := findAt_look k m 0
  simp only [Sem.run_bind, MapKept.run_getObj_map hb, Result.andThen_ok, Sem.run_pure, L.chk, hf]
  cases hfa : findAt k m 0 with
  | none =>
    rw [hfa] at hl
    simp at hl
    rw [← hl]
    cases ok <;> simp [hz]
  | some p =>
    rw [hfa] at hl
    simp at hl
    rw [← hl]
    cases ok <;> simp
theorem run_update_m (L : KeyLaw P K kenc) (hT : P.underlying T = some (.map K V)) (h : MapIs kenc venc w b m) (k : κ) (v : ν) :
    ∃ w', (Instr.mapUpdate T (.map (some b)) (kenc k) (venc v)).run P w = .ok () w' ∧ MapIs kenc venc w' b (put k v m) ∧ w.grownBy w' (some b) ∧ w'.heap.size = w.heap.size ∧ w'.drawn = w.drawn := by
  obtain ⟨es, c, hb, hes⟩ := h
  have hlt : b < w.heap.size := (Array.getElem?_eq_some_iff.1 hb).1
  unfold Instr.mapUpdate
  have hf := run_findKey L k es.toList m w hes
  have hset : ∀ (es' : Array MapEntry) (c' : Nat), (setObj b (.map es' c')).run P w = .ok () { w with heap := w.heap.setIfInBounds b (.map es' c') } := by
    intro es' c'
    simp [setObj, Sem.run, hb]
  have hgr : ∀ o : Obj, w.grownBy { w with heap := w.heap.setIfInBounds b o } (some b) := fun o =>
    ⟨rfl, rfl, rfl, by simp, fun i hi hne => by
      have : b ≠ i := fun e => hne (by rw [e])
      simp [Array.getElem?_setIfInBounds_ne this]⟩
  have hat : ∀ o : Obj, ({ w with heap := w.heap.setIfInBounds b o } : World).heap[b]? = some o := fun o => by simp [hlt]
  simp only [Sem.run_bind, run_underlying hT, Result.andThen_ok, MapKept.run_getObj_map hb, L.chk, hf]
  have key : ∀ (es : List MapEntry) (m : List (κ × ν)) (i : Nat), es.map (fun e => (e.key, e.val)) = m.map (fun p => (kenc p.1, venc p.2)) →
      (findAt k m i = none → (es ++ [({ key := kenc k, val := venc v, born := c } : MapEntry)]).map (fun e => (e.key, e.val)) = (put k v m).map (fun p => (kenc p.1, venc p.2))) ∧
      (∀ j x, findAt k m i = some (j, x) → i ≤ j ∧ ((es[j - i]?).map (·.key)) = some (kenc k) ∧
        (es.modify (j - i) (fun e => { e with key := kenc k, val := venc v })).map (fun e => (e.key, e.val)) = (put k v m).map (fun p => (kenc p.1, venc p.2))) := by
    intro es
    induction es with
    | nil =>
      intro m i h
      cases m with
      | nil => exact ⟨fun _ => by simp [put], fun j x hx => by simp [findAt] at hx⟩
      | cons p m => simp at h
    | cons e es ih =>
      intro m i h
      cases m with
      | nil => simp at h
      | cons p m =>
        have h0 := h
        simp only [List.map_cons, List.cons.injEq, Prod.mk.injEq] at h
        obtain ⟨⟨h1, h2⟩, h3⟩ := h
        unfold findAt put
        by_cases hk : k = p.1
        · simp only [hk, if_true]
          refine ⟨fun h => by simp at h, fun j x hx => ?_⟩
          simp at hx
          obtain ⟨rfl, rfl⟩ := hx
          simp only [Nat.le_refl, Nat.sub_self, true_and]
          refine ⟨by simp [h1, hk], ?_⟩
          simp [h3]
        · simp only [hk, if_false]
          obtain ⟨ih1, ih2⟩ := ih m (i + 1) h3
          refine ⟨fun h => ?_, fun j x hx => ?_⟩
          · have := ih1 h
            simp only [List.cons_append, List.map_cons, this, h1, h2]
          · obtain ⟨g1, g2, g3⟩ := ih2 j x hx
            refine ⟨by omega, ?_, ?_⟩
            · have : j - i = (j - (i + 1)) + 1 := by omega
              rw [this]; simpa using g2
            · have : j - i = (j - (i + 1)) + 1 := by omega
              rw [this]
              simp only [List.modify_succ_cons, List.map_cons, g3, h1, h2]
  cases hfa : findAt k m 0 with
  | none =>
    have h1 := (key es.toList m 0 hes).1 hfa
    refine ⟨_, by simp only [Option.map_none]; exact hset _ _, ⟨_, _, hat _, ?_⟩, hgr _, by simp, rfl⟩
    simpa using h1
  | some p =>
    obtain ⟨j, x⟩ := p
    obtain ⟨_, h1, h2⟩ := (key es.toList m 0 hes).2 j x hfa
    simp only [Nat.sub_zero] at h1 h2
    have hkey : ((es[j]?).map (·.key)).getD (kenc k) = kenc k := by
      rw [← Array.getElem?_toList, h1]; rfl
    refine ⟨_, by
      simp only [Option.map_some, hkey, Sem.run_bind, Instr.keyThatStays, L.bits, if_true, Sem.run_pure, Result.andThen_ok]
      exact hset _ _, ⟨_, _, hat _, ?_⟩, hgr _, by simp, rfl⟩
    rw [Array.toList_modify]
    exact h2
variable {ops : Array Oper} {rest : List Oper} {o : Oper} {a : Act} {Q : Exit → Act → World → Prop}
theorem wpList_lookup_m (L : KeyLaw P K kenc) (hT : P.underlying T = some (.map K V)) (z : Value) (hz : (zeroValue V).run P w = .ok z w) (k : κ) (m : List (κ × ν)) (xm xk : Operand) (ok : Bool) (ho : o.op = .lookup T xm xk ok)
    (hw : Region.wanted o (yielded ops a.tmps) = true) (h : MapIs kenc venc w b m) (hm : a.eval xm = .map (some b)) (hk : a.eval xk = kenc k)
    (hK : wpList P ops Q rest (a.put o.dst (if ok then .tuple #[((look k m).map venc).getD z, .bool (look k m).isSome] else ((look k m).map venc).getD z)) w) : wpList P ops Q (o :: rest) a w := by
  refine wpList_step fun K' hK' => ?_
  rw [if_pos hw]
  unfold Oper.wp execOp
  simp only [ho, hm, hk, Sem.run_bind, run_lookup_m L hT h k z hz ok, Result.andThen_ok]
  exact hK' _ _ hK
theorem wpList_update_m (L : KeyLaw P K kenc) (hT : P.underlying T = some (.map K V)) (k : κ) (v : ν) (m : List (κ × ν)) (xm xk xv : Operand) (ho : o.op = .mapUpdate T xm xk xv) (hg : o.guard = none)
    (h : MapIs kenc venc w b m) (hm : a.eval xm = .map (some b)) (hk : a.eval xk = kenc k) (hv : a.eval xv = venc v)
    (hK : ∀ w', MapIs kenc venc w' b (put k v m) → w.grownBy w' (some b) → w'.heap.size = w.heap.size → wpList P ops Q rest (a.put o.dst undef) w') : wpList P ops Q (o :: rest) a w := by
  refine wpList_plain hg fun K' hK' => ?_
  obtain ⟨w', hr, h1, h2, h3, _⟩ := run_update_m L hT h k v
  unfold Oper.wp execOp
  simp only [ho, hm, hk, hv, Sem.run_bind, hr, Result.andThen_ok]
  exact hK' _ _ (hK w' h1 h2 h3)
end
end Go.Proofs.Ytandminldgiheaa
