/- The model's == and != on edges. -/
import Derived.Test.YtandminldgiheaaBase
namespace Go.Proofs.Ytandminldgiheaa
open Go.RowKit

theorem guardE : Try.prog.eqGuardType Try.prog.depth 24 = false := by kernel_rfl
theorem heldE : Try.prog.stoodInHeld 24 = false := by kernel_rfl
theorem fieldsE : Try.prog.underlying 24 = some (.struct (Try.prog.fieldsOf 24)) := by kernel_rfl
theorem equalE (a b c a' b' c' : Int) (w : World) :
    (Op.equalIn 10000 24 (.agg #[.int .i64 a, .int .i64 b, .int .i64 c]) (.agg #[.int .i64 a', .int .i64 b', .int .i64 c'])).run Try.prog w = .ok (a == a' && (b == b' && c == c')) w := by
  have u3 := Try.underlying3
  have a3 := Try.isAgg3
  have z3 := Try.sizeOf3
  rw [show (10000 : Nat) = 9999 + 1 from rfl, run_equalIn_agg w 9999 24 _ _ fieldsE heldE]
  simp only [Program.fieldsOf, Try.underlying24]
  go_simp
  by_cases h1 : a = a' <;> by_cases h2 : b = b' <;> by_cases h3 : c = c' <;> simp [h1, h2, h3]
/-- Are two edges, field by field, the same? (Plain definitions: the walk doesn't look into them.) -/
def sameE (a b c a' b' c' : Int) : Bool := decide (a = a' ∧ b = b' ∧ c = c')
def elseE (a b c a' b' c' : Int) : Bool := !sameE a b c a' b' c'
theorem neqE (a b c a' b' c' : Int) (w : World) :
    (binOp .neq 24 (.agg #[.int .i64 a, .int .i64 b, .int .i64 c]) (.agg #[.int .i64 a', .int .i64 b', .int .i64 c'])).run Try.prog w = .ok (.bool (elseE a b c a' b' c')) w := by
  rw [run_neq_struct, equalE]
  simp [Result.andThen, elseE, sameE, Bool.decide_and]
  rfl
theorem eqlE (a b c a' b' c' : Int) (w : World) :
    (binOp .eql 24 (.agg #[.int .i64 a, .int .i64 b, .int .i64 c]) (.agg #[.int .i64 a', .int .i64 b', .int .i64 c'])).run Try.prog w = .ok (.bool (sameE a b c a' b' c')) w := by
  rw [run_eql_struct, equalE]
  simp [Result.andThen, sameE, Bool.decide_and]
  rfl
theorem sameE_iff (x y : Edge) : sameE x.a x.b x.w y.a y.b y.w = decide (x = y) := by
  unfold sameE
  rw [Bool.eq_iff_iff]; simp
  cases x; cases y; simp
theorem elseE_iff (x y : Edge) : elseE x.a x.b x.w y.a y.b y.w = !decide (x = y) := by
  unfold elseE; rw [sameE_iff]

end Go.Proofs.Ytandminldgiheaa
