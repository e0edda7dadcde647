/- What the walks share: how values stand in memory (lists of structs in a slice), and small facts on worlds. -/
import Derived.Test.YtandminldgiheaaProg
import Derived.WalkKit
import Derived.WalkSpells
import Derived.WalkLawsBesides
import Derived.Deep.RegionHeld3
import Derived.Deep.QuietTactic
import Derived.BigQuiet
import Derived.Deep.LoopGhost
import Derived.Deep.DeepCutAuto
import Derived.Deep.DrawnRows
import Derived.Lib.Hide
import Derived.KernelRfl
import Derived.Laws.StructEq
import Derived.Maps.AppendAt
import Derived.Deep.AppendLies
import Derived.Deep.OwnRows
import Derived.Deep.WholeRow
import Derived.Laws.Tables
import Derived.Laws.Rows
set_option linter.unusedVariables false
namespace Go.Proofs.Ytandminldgiheaa
open Go.RowKit

/-! ### worlds -/
theorem below_alloc' {B : Nat} {w W : World} (h : Below B w W) (hB : B ≤ W.heap.size) (o : Obj) : Below B w (W.alloc o) := h.alloc hB o
theorem below_drewN {B : Nat} {w W : World} (h : Below B w W) (n : Nat) : Below B w (W.drewN n) := ⟨h.os, h.tape, h.output, h.size, h.block⟩
theorem below_drew {B : Nat} {w W : World} (h : Below B w W) : Below B w W.drew := ⟨h.os, h.tape, h.output, h.size, h.block⟩
theorem below_undrew {B : Nat} {w W : World} (h : Below B w.drew W) : Below B w W := ⟨h.os, h.tape, h.output, h.size, h.block⟩
theorem below_undrewN {B : Nat} {w W : World} {n : Nat} (h : Below B (w.drewN n) W) : Below B w W := ⟨h.os, h.tape, h.output, h.size, h.block⟩
/-- What lay in w lies unturned in w1, what lay in w1 lies unturned in w2. -/
theorem below_then {w w1 w2 : World} (h : Below w.heap.size w w1) (k : Below w1.heap.size w1 w2) : Below w.heap.size w w2 :=
  h.trans (k.mono h.size)
theorem cell_of_below {w w1 : World} (h : Below w.heap.size w w1) {a : Addr} {v : Value} (hc : w.cell? a = some v) : w1.cell? a = some v :=
  (h.cell (World.block_lt_of_cell? w a hc)).trans hc

theorem cell_alloc {w : World} {a : Addr} {v : Value} (h : w.cell? a = some v) (o : Obj) : (w.alloc o).cell? a = some v :=
  cell_of_below ((Below.refl _ w).alloc (Nat.le_refl _) o) h
theorem frozen_alloc {w : World} {a : Addr} (hb : a.block < w.heap.size) (h : w.frozen? a = false) (o : Obj) : (w.alloc o).frozen? a = false :=
  (((Below.refl _ w).alloc (Nat.le_refl _) o).frozen hb).trans h
theorem ret_i {k : IntKind} {a b : Int} (h : a = b) : Ending.returned (.int k a) = .returned (.int k b) := by rw [h]
theorem ret_b {a b : Bool} (h : a = b) : Ending.returned (.bool a) = .returned (.bool b) := by rw [h]

/-- The world is the old one, some orders having been drawn. -/
def Dr (w w' : World) : Prop := ∃ q, w' = w.drewN q
theorem Dr.refl (w : World) : Dr w w := ⟨0, rfl⟩
theorem Dr.one (w : World) (n : Nat) : Dr w (w.drewN n) := ⟨n, rfl⟩
theorem Dr.two (w : World) (n m : Nat) : Dr w ((w.drewN n).drewN m) := ⟨n + m, World.drewN_drewN ..⟩
theorem Dr.three (w : World) (n m k : Nat) : Dr w (((w.drewN n).drewN m).drewN k) := ⟨n + (m + k), by rw [World.drewN_drewN, World.drewN_drewN]⟩
theorem Dr.trans {a b c : World} (h : Dr a b) (k : Dr b c) : Dr a c := by
  obtain ⟨n, rfl⟩ := h; obtain ⟨m, rfl⟩ := k; exact Dr.two _ _ _
theorem Dr.below {w w' : World} (h : Dr w w') : Below w.heap.size w w' := by
  obtain ⟨n, rfl⟩ := h; exact below_drewN (Below.refl _ _) n
theorem Dr.below' {w w' : World} {B : Nat} (h : Dr w w') : Below B w w' := by
  obtain ⟨n, rfl⟩ := h; exact below_drewN (Below.refl _ _) n
/-- A reading callee in a quiet region. -/
theorem quiet_D {P : Program} {f : FuncId} {args : Array Value} {w : World} {n : Nat} {v : Value}
    (h : Calls P f args (w.drewN n) fun e w' => e = .returned v ∧ Dr (w.drewN n) w') : Calls P f args (w.drewN n) fun e w'' => e = .returned v ∧ ∃ m, w'' = w.drewN m :=
  h.mono fun _ _ ⟨he, m, hm⟩ => ⟨he, n + m, by rw [hm, World.drewN_drewN]⟩
theorem quiet_DA {P : Program} {f : FuncId} {args : Array Value} {w : World} {a n : Nat} {v : Value}
    (h : Calls P f args (w.drewN (a + n)) fun e w' => e = .returned v ∧ Dr (w.drewN (a + n)) w') : Calls P f args (w.drewN (a + n)) fun e w'' => e = .returned v ∧ ∃ m, w'' = w.drewN (a + m) :=
  h.mono fun _ _ ⟨he, m, hm⟩ => ⟨he, n + m, by rw [hm, World.drewN_drewN, Nat.add_assoc]⟩
theorem quiet_S {P : Program} {f : FuncId} {args : Array Value} {w : World} {n : Nat} {v : Value}
    (h : Calls P f args (w.drewN n) fun e w' => e = .returned v ∧ w.drewN n = w') : Calls P f args (w.drewN n) fun e w'' => e = .returned v ∧ ∃ m, w'' = w.drewN m :=
  h.mono fun _ _ ⟨he, hm⟩ => ⟨he, n, hm.symm⟩
theorem quiet_SA {P : Program} {f : FuncId} {args : Array Value} {w : World} {a n : Nat} {v : Value}
    (h : Calls P f args (w.drewN (a + n)) fun e w' => e = .returned v ∧ w.drewN (a + n) = w') : Calls P f args (w.drewN (a + n)) fun e w'' => e = .returned v ∧ ∃ m, w'' = w.drewN (a + m) :=
  h.mono fun _ _ ⟨he, hm⟩ => ⟨he, n, hm.symm⟩

/-! ### an array variable at its zero value: 'build T', 'alloc T', 'store T' -/
section
variable {P : Program} {ops : Array Oper} {rest : List Oper} {o1 o2 o3 : Oper} {a : Act} {W : World} {Q : Exit → Act → World → Prop}
theorem wpList_zero_array (T : TypeId) (z : Array Value) (n m : Nat) (e : TypeId) (x2 x1 : Operand) (hi : (P.info? T).map (fun i => (i.zero, i.size)) = some (some (.agg z), n)) (hn : z.size = n)
    (hu : P.underlying T = some (.array m e)) (sz : Nat) (hse : (sizeOf e).run P W = .ok sz W) (h1 : z.all (·.oneCell') = true)
    (g1 : o1.guard = none) (g2 : o2.guard = none) (g3 : o3.guard = none) (p1 : o1.op = .build T #[]) (p2 : o2.op = .alloc T) (p3 : o3.op = .store T x2 x1)
    (v2 : ((a.put o1.dst (.agg z)).put o2.dst (.pointer (some ⟨W.heap.size, 0, none⟩))).eval x2 = .pointer (some ⟨W.heap.size, 0, none⟩))
    (v1 : ((a.put o1.dst (.agg z)).put o2.dst (.pointer (some ⟨W.heap.size, 0, none⟩))).eval x1 = .agg z)
    (h : wpList P ops Q rest (((a.put o1.dst (.agg z)).put o2.dst (.pointer (some ⟨W.heap.size, 0, none⟩))).put o3.dst undef) (W.alloc (.cells z T))) :
    wpList P ops Q (o1 :: o2 :: o3 :: rest) a W := by
  obtain ⟨hz, hs⟩ := zero_of_info hi
  refine wpList_plain g1 fun K hK => ?_
  unfold Oper.wp execOp
  have hb : (Instr.build T #[]).run P W = .ok (.agg z) W := by
    simp [Instr.build, hz, run_underlying hu, hse, Instr.fill, Value.cells]
  simp only [p1, Sem.run_bind, Array.map_empty, hb, Result.andThen_ok]
  refine hK _ _ ?_
  refine wpList_plain g2 fun K2 hK2 => ?_
  unfold Oper.wp execOp
  have ha : (Instr.alloc T true (.tuple #[])).run P W = .ok (.pointer (some ⟨W.heap.size, 0, none⟩)) (W.alloc (.cells z T)) := by
    simp [Instr.alloc, hz, newVar, newRow, Value.cells, newObj]
    rfl
  simp only [p2, Sem.run_bind, ha, Result.andThen_ok]
  refine hK2 _ _ ?_
  refine wpList_store_row g3 T x2 x1 p3 W.heap.size z v2 v1 T z (heap_alloc_last W _) (by rw [hs, hn]) rfl h1 ?_
  rw [World.setRow_alloc_new]
  exact h
end

/-! ### a slice that reads as a list -/
/-- The slice v holds, in w, the elements l, each of k cells. -/
def Rd {α : Type} (E : α → List Value) (k : Nat) (w : World) (v : Value) (l : List α) : Prop :=
  ∃ (A : Option Addr) (c : Nat), v = .slice A l.length c ∧ l.length ≤ c ∧ c ≤ 9223372036854775807 ∧
    (l ≠ [] → ∃ b o, A = some ⟨b, o, none⟩ ∧ b < w.heap.size ∧
      ∀ j x, l[j]? = some x → ∀ i u, (E x)[i]? = some u → w.cell? ⟨b, o + j * k + i, none⟩ = some u)
section
variable {α : Type} {E : α → List Value} {k : Nat} {w w1 : World} {v : Value} {l : List α}
theorem Rd.below (h : Rd E k w v l) (hb : Below w.heap.size w w1) : Rd E k w1 v l := by
  obtain ⟨A, c, rfl, h1, h2, h3⟩ := h
  refine ⟨A, c, rfl, h1, h2, fun hl => ?_⟩
  obtain ⟨b, o, rfl, hlt, hc⟩ := h3 hl
  exact ⟨b, o, rfl, Nat.lt_of_lt_of_le hlt hb.size, fun j x hx i u hu => cell_of_below hb (hc j x hx i u hu)⟩
theorem Rd.nil (w : World) : Rd E k w (.slice none 0 0) ([] : List α) := ⟨none, 0, rfl, by simp, by omega, fun h => absurd rfl h⟩
theorem Rd.bound (h : Rd E k w v l) : l.length ≤ 9223372036854775807 := by obtain ⟨A, c, _, h1, h2, _⟩ := h; omega
theorem Rd.open_ (h : Rd E k w v l) : (l = [] ∧ ∃ A c, v = .slice A 0 c ∧ c ≤ 9223372036854775807) ∨
    (l ≠ [] ∧ ∃ b o c, v = .slice (some ⟨b, o, none⟩) l.length c ∧ l.length ≤ c ∧ c ≤ 9223372036854775807 ∧ b < w.heap.size ∧
      ∀ j x, l[j]? = some x → ∀ i u, (E x)[i]? = some u → w.cell? ⟨b, o + j * k + i, none⟩ = some u) := by
  obtain ⟨A, c, rfl, h1, h2, h3⟩ := h
  by_cases hl : l = []
  · subst hl; exact .inl ⟨rfl, A, c, rfl, h2⟩
  · obtain ⟨b, o, rfl, hlt, hc⟩ := h3 hl
    exact .inr ⟨hl, b, o, c, rfl, h1, h2, hlt, hc⟩
end

/-! ### edges -/
structure Edge where
  a : Int
  b : Int
  w : Int
instance : Inhabited Edge := ⟨⟨0, 0, 0⟩⟩
instance : DecidableEq Edge := fun x y =>
  if h : x.a = y.a ∧ x.b = y.b ∧ x.w = y.w then .isTrue (by cases x; cases y; simp_all) else .isFalse (fun e => h (by subst e; simp))
def encE (e : Edge) : List Value := [.int .i64 e.a, .int .i64 e.b, .int .i64 e.w]
def valE (e : Edge) : Value := .agg #[.int .i64 e.a, .int .i64 e.b, .int .i64 e.w]
def encI (n : Int) : List Value := [.int .i64 n]
abbrev RdE := Rd encE 3
abbrev RdI := Rd encI 1

/-- The cells of the j-th edge. -/
theorem cells_E {w : World} {b o : Nat} {l : List Edge}
    (h : ∀ j x, l[j]? = some x → ∀ i u, (encE x)[i]? = some u → w.cell? ⟨b, o + j * 3 + i, none⟩ = some u) (j : Nat) (hj : j < l.length) :
    w.cell? ⟨b, o + j * 3, none⟩ = some (.int .i64 l[j].a) ∧ w.cell? ⟨b, o + j * 3 + 1, none⟩ = some (.int .i64 l[j].b) ∧ w.cell? ⟨b, o + j * 3 + 2, none⟩ = some (.int .i64 l[j].w) := by
  have hx : l[j]? = some l[j] := List.getElem?_eq_getElem hj
  exact ⟨h j _ hx 0 _ rfl, h j _ hx 1 _ rfl, h j _ hx 2 _ rfl⟩
theorem cells_I {w : World} {b o : Nat} {l : List Int}
    (h : ∀ j x, l[j]? = some x → ∀ i u, (encI x)[i]? = some u → w.cell? ⟨b, o + j * 1 + i, none⟩ = some u) (j : Nat) (hj : j < l.length) :
    w.cell? ⟨b, o + j, none⟩ = some (.int .i64 l[j]) := by
  have hx : l[j]? = some l[j] := List.getElem?_eq_getElem hj
  have := h j _ hx 0 _ rfl
  simpa using this

end Go.Proofs.Ytandminldgiheaa
