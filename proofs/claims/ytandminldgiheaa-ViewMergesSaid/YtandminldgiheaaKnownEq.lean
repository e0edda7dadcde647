/- Links as values; the model's == and != on them. -/
import Derived.Test.YtandminldgiheaaPlain
import Derived.Test.YtandminldgiheaaEdgeEq
namespace Go.Proofs.Ytandminldgiheaa
open Go.RowKit

structure Known where
  node : Int
  peer : Int
  w : Int
  session : Int
  marked : Bool
instance : Inhabited Known := ⟨⟨0, 0, 0, 0, false⟩⟩
instance : DecidableEq Known := fun x y =>
  if h : x.node = y.node ∧ x.peer = y.peer ∧ x.w = y.w ∧ x.session = y.session ∧ x.marked = y.marked then .isTrue (by cases x; cases y; simp_all) else .isFalse (fun e => h (by subst e; simp))
def encK (k : Known) : List Value := [.int .i64 k.node, .int .i64 k.peer, .int .i64 k.w, .int .i64 k.session, .bool k.marked]
abbrev valK (k : Known) : Value := .agg #[.int .i64 k.node, .int .i64 k.peer, .int .i64 k.w, .int .i64 k.session, .bool k.marked]
abbrev RdK := Rd encK 5
theorem encK_len (x : Known) : (encK x).length = 5 := rfl
theorem encK_one (x : Known) : ∀ v ∈ encK x, v.oneCell' = true := by
  intro v hv
  simp [encK] at hv
  rcases hv with rfl | rfl | rfl | rfl | rfl <;> rfl
theorem cells_K {w : World} {b o : Nat} {l : List Known}
    (h : ∀ j x, l[j]? = some x → ∀ i u, (encK x)[i]? = some u → w.cell? ⟨b, o + j * 5 + i, none⟩ = some u) (j : Nat) (hj : j < l.length) :
    w.cell? ⟨b, o + j * 5, none⟩ = some (.int .i64 l[j].node) ∧ w.cell? ⟨b, o + j * 5 + 1, none⟩ = some (.int .i64 l[j].peer) ∧ w.cell? ⟨b, o + j * 5 + 2, none⟩ = some (.int .i64 l[j].w) ∧
      w.cell? ⟨b, o + j * 5 + 3, none⟩ = some (.int .i64 l[j].session) ∧ w.cell? ⟨b, o + j * 5 + 4, none⟩ = some (.bool l[j].marked) := by
  have hx : l[j]? = some l[j] := List.getElem?_eq_getElem hj
  exact ⟨h j _ hx 0 _ rfl, h j _ hx 1 _ rfl, h j _ hx 2 _ rfl, h j _ hx 3 _ rfl, h j _ hx 4 _ rfl⟩

theorem infoK : (Try.prog.info? 51).map (fun i => (i.zero, i.size, i.bytes)) = some (some (.agg #[.int .i64 0, .int .i64 0, .int .i64 0, .int .i64 0, .bool false]), 5, 40) := by kernel_rfl
theorem guardK : Try.prog.eqGuardType Try.prog.depth 51 = false := by kernel_rfl
theorem heldK : Try.prog.stoodInHeld 51 = false := by kernel_rfl
theorem fieldsK : Try.prog.underlying 51 = some (.struct (Try.prog.fieldsOf 51)) := by kernel_rfl
theorem equalK (a b c d a' b' c' d' : Int) (e e' : Bool) (w : World) :
    (Op.equalIn 10000 51 (.agg #[.int .i64 a, .int .i64 b, .int .i64 c, .int .i64 d, .bool e]) (.agg #[.int .i64 a', .int .i64 b', .int .i64 c', .int .i64 d', .bool e'])).run Try.prog w = .ok (a == a' && (b == b' && (c == c' && (d == d' && e == e')))) w := by
  have u3 := Try.underlying3
  have a3 := Try.isAgg3
  have z3 := Try.sizeOf3
  have u4 := Try.underlying4
  have a4 := Try.isAgg4
  have z4 := Try.sizeOf4
  rw [show (10000 : Nat) = 9999 + 1 from rfl, run_equalIn_agg w 9999 51 _ _ fieldsK heldK]
  simp only [Program.fieldsOf, Try.underlying51]
  go_simp
  by_cases h1 : a = a' <;> by_cases h2 : b = b' <;> by_cases h3 : c = c' <;> by_cases h4 : d = d' <;> by_cases h5 : e = e' <;> simp [h1, h2, h3, h4, h5]
def sameK (a b c d : Int) (e : Bool) (a' b' c' d' : Int) (e' : Bool) : Bool := decide (a = a' ∧ b = b' ∧ c = c' ∧ d = d' ∧ e = e')
def elseK (a b c d : Int) (e : Bool) (a' b' c' d' : Int) (e' : Bool) : Bool := !sameK a b c d e a' b' c' d' e'
theorem neqK (a b c d a' b' c' d' : Int) (e e' : Bool) (w : World) :
    (binOp .neq 51 (.agg #[.int .i64 a, .int .i64 b, .int .i64 c, .int .i64 d, .bool e]) (.agg #[.int .i64 a', .int .i64 b', .int .i64 c', .int .i64 d', .bool e'])).run Try.prog w = .ok (.bool (elseK a b c d e a' b' c' d' e')) w := by
  rw [run_neq_struct, equalK]
  simp [Result.andThen, elseK, sameK, Bool.decide_and]
  rfl
theorem eqlK (a b c d a' b' c' d' : Int) (e e' : Bool) (w : World) :
    (binOp .eql 51 (.agg #[.int .i64 a, .int .i64 b, .int .i64 c, .int .i64 d, .bool e]) (.agg #[.int .i64 a', .int .i64 b', .int .i64 c', .int .i64 d', .bool e'])).run Try.prog w = .ok (.bool (sameK a b c d e a' b' c' d' e')) w := by
  rw [run_eql_struct, equalK]
  simp [Result.andThen, sameK, Bool.decide_and]
  rfl
theorem sameK_iff (x y : Known) : sameK x.node x.peer x.w x.session x.marked y.node y.peer y.w y.session y.marked = decide (x = y) := by
  unfold sameK
  rw [Bool.eq_iff_iff]; simp
  cases x; cases y; simp
theorem elseK_iff (x y : Known) : elseK x.node x.peer x.w x.session x.marked y.node y.peer y.w y.session y.marked = !decide (x = y) := by
  unfold elseK; rw [sameK_iff]

end Go.Proofs.Ytandminldgiheaa
