/- Walks of the small functions on edges. -/
import Derived.Test.YtandminldgiheaaPlain
namespace Go.Proofs.Ytandminldgiheaa
open Go.RowKit

set_option maxHeartbeats 400000 in
theorem edgeNode_c (n : Int) (w : World) :
    Calls Try.prog 51 #[.int .i64 n] w fun e w' => e = .returned (.bool (node n)) ∧ w = w' := by
  go_enter Try.func51, Try.ntmps51
  go_wp2
  all_goals (go_ret; refine ⟨ret_b ?_, rfl⟩; unfold node; simp; try omega)

set_option maxHeartbeats 400000 in
theorem refNode_c (n : Int) (w : World) :
    Calls Try.prog 46 #[.int .i64 n] w fun e w' => e = .returned (.bool (node n)) ∧ w = w' := by
  go_enter Try.func46, Try.ntmps46
  go_wp2
  all_goals (go_ret; refine ⟨ret_b ?_, rfl⟩; unfold node; simp; try omega)

set_option maxHeartbeats 400000 in
theorem edgeCheck_c (x : Edge) (w : World) :
    Calls Try.prog 56 #[.agg #[.int .i64 x.a, .int .i64 x.b, .int .i64 x.w]] w fun e w' => e = .returned (.int .i64 (eArg (may x))) ∧ w.alloc (.cells #[.int .i64 x.a, .int .i64 x.b, .int .i64 x.w] 24) = w' := by
  go_enter Try.func56, Try.ntmps56
  go_wp2_with (go_at_call 51; refine (edgeNode_c _ _).mono ?_; rintro e w' ⟨rfl, rfl⟩)
  all_goals (go_ret; refine ⟨ret_i ?_, rfl⟩; unfold eArg may; simp_all; try omega)

set_option maxHeartbeats 400000 in
theorem refMay_c (x : Edge) (w : World) :
    Calls Try.prog 41 #[.agg #[.int .i64 x.a, .int .i64 x.b, .int .i64 x.w]] w fun e w' => e = .returned (.bool (may x)) ∧ w.alloc (.cells #[.int .i64 x.a, .int .i64 x.b, .int .i64 x.w] 24) = w' := by
  go_enter Try.func41, Try.ntmps41
  go_wp2_with (go_at_call 46; refine (refNode_c _ _).mono ?_; rintro e w' ⟨rfl, rfl⟩)
  all_goals (go_ret; refine ⟨ret_b ?_, rfl⟩; unfold may; simp_all; try omega)

set_option maxHeartbeats 400000 in
theorem refLess_c (x y : Edge) (w : World) :
    Calls Try.prog 15 #[.agg #[.int .i64 x.a, .int .i64 x.b, .int .i64 x.w], .agg #[.int .i64 y.a, .int .i64 y.b, .int .i64 y.w]] w fun e w' => e = .returned (.bool (ltE x y)) ∧ Below w.heap.size w w' := by
  go_enter Try.func15, Try.ntmps15
  go_wp2
  all_goals (go_ret; refine ⟨ret_b ?_, ((Below.refl _ w).alloc (Nat.le_refl _) _).alloc (by simp) _⟩; unfold ltE; simp_all; try omega)

set_option maxHeartbeats 400000 in
theorem cmpNaN_c (x : Int) (w : World) :
    Calls Try.prog 105 #[.int .i64 x] w fun e w' => e = .returned (.bool false) ∧ w = w' := by
  go_enter Try.func105, Try.ntmps105
  go_wp2
  go_ret
  exact ⟨by simp, rfl⟩

set_option maxHeartbeats 400000 in
theorem cmpCompare_c (x y : Int) (w : World) :
    Calls Try.prog 85 #[.int .i64 x, .int .i64 y] w fun e w' => e = .returned (.int .i64 (cmpI x y)) ∧ w = w' := by
  go_enter Try.func85, Try.ntmps85
  go_wp2_with (go_at_call 105; refine (cmpNaN_c _ _).mono ?_; rintro e w' ⟨rfl, rfl⟩)
  all_goals (go_ret; refine ⟨ret_i ?_, rfl⟩; unfold cmpI; (repeat' split) <;> first | rfl | (exfalso; omega))

set_option maxHeartbeats 1000000 in
/-- cmp.Or over a block of three numbers. -/
theorem cmpOr3_c (x y z : Int) (b : Nat) (w : World) (hx : w.cell? ⟨b, 0, none⟩ = some (.int .i64 x)) (hy : w.cell? ⟨b, 1, none⟩ = some (.int .i64 y)) (hz : w.cell? ⟨b, 2, none⟩ = some (.int .i64 z)) :
    Calls Try.prog 84 #[.slice (some ⟨b, 0, none⟩) 3 3] w fun e w' => e = .returned (.int .i64 (orI x (orI y z))) ∧ w = w' := by
  go_enter Try.func84, Try.ntmps84
  go_wp2
  refine wp_loop_rounds 4 ?_
  iterate 4 (all_goals (try rw [rounds_succ]); go_wp2)
  all_goals (go_ret; refine ⟨ret_i ?_, rfl⟩; unfold orI; simp_all)

set_option maxHeartbeats 1000000 in
theorem edgeCompare_c (x y : Edge) (w : World) :
    Calls Try.prog 55 #[.agg #[.int .i64 x.a, .int .i64 x.b, .int .i64 x.w], .agg #[.int .i64 y.a, .int .i64 y.b, .int .i64 y.w]] w fun e w' => e = .returned (.int .i64 (cmpE x y)) ∧
      (((w.alloc (.cells #[.int .i64 x.a, .int .i64 x.b, .int .i64 x.w] 24)).alloc (.cells #[.int .i64 y.a, .int .i64 y.b, .int .i64 y.w] 24)).alloc (.cells #[.int .i64 (cmpI x.w y.w), .int .i64 (cmpI x.a y.a), .int .i64 (cmpI x.b y.b)] 3)).drew = w' := by
  go_enter Try.func55, Try.ntmps55
  go_wp2_with fail
  go_region_held3 (fun w' => w'.cell? ⟨w.heap.size, 0, none⟩ = some (.int .i64 x.a) ∧ w'.cell? ⟨w.heap.size, 1, none⟩ = some (.int .i64 x.b) ∧ w'.cell? ⟨w.heap.size, 2, none⟩ = some (.int .i64 x.w) ∧ w'.cell? ⟨w.heap.size + 1, 0, none⟩ = some (.int .i64 y.a) ∧ w'.cell? ⟨w.heap.size + 1, 1, none⟩ = some (.int .i64 y.b) ∧ w'.cell? ⟨w.heap.size + 1, 2, none⟩ = some (.int .i64 y.w)) (go_keep)
    (first | (go_at_call 85; refine (cmpCompare_c _ _ _).mono ?_; rintro e w' ⟨rfl, rfl⟩) | (go_at_call 84; refine (cmpOr3_c (cmpI x.w y.w) (cmpI x.a y.a) (cmpI x.b y.b) (w.heap.size + 2) _ ?_ ?_ ?_).mono ?_; (go_simp); (go_simp); (go_simp); rintro e w' ⟨rfl, rfl⟩))
  all_goals go_wp2
  go_ret
  exact ⟨rfl, rfl⟩

end Go.Proofs.Ytandminldgiheaa
