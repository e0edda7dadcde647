/- Walks: an edge of two nodes, its other end, and the law's fixed question. -/
import Derived.Test.YtandminldgiheaaEdgeW
import Derived.Test.YtandminldgiheaaEdgeEq
import Derived.Laws.ResultCell
namespace Go.Proofs.Ytandminldgiheaa
open Go.RowKit

set_option maxHeartbeats 1000000 in
theorem edgeOf_awake (w : World) :
    Calls Try.prog 50 #[.int .i64 3, .int .i64 1, .int .i64 7] w fun e w' => e = .returned (.tuple #[.agg #[.int .i64 1, .int .i64 3, .int .i64 7], .int .i64 0]) ∧ Below w.heap.size w w' := by
  have hc := edgeCheck_c ⟨1, 3, 7⟩
  have hm : eArg (may ⟨1, 3, 7⟩) = 0 := by decide
  rw [hm] at hc
  have HC := Lib.hid hc
  clear hc hm
  go_enter Try.func50, Try.ntmps50
  go_wp2_with (go_at_call 56; refine (HC.out _).mono ?_; rintro e w' ⟨rfl, rfl⟩)
  (try simp only [Exit.inBlock, Exit.then])
  refine bodyPost_ret (v := .tuple #[.agg #[.int .i64 1, .int .i64 3, .int .i64 7], .int .i64 0]) ?_ rfl ⟨rfl, ((((Below.refl _ w).alloc (Nat.le_refl _) _).alloc (by simp) _).alloc (by simp; omega) _)⟩
  rw [results_cell_tmp rfl]; go_simp

attribute [local go_sem ↓] guardE neqE eqlE
set_option maxHeartbeats 1000000 in
theorem edgeOther_awake (w : World) :
    Calls Try.prog 52 #[.agg #[.int .i64 1, .int .i64 3, .int .i64 7], .int .i64 3] w fun e w' => e = .returned (.int .i64 1) ∧ Below w.heap.size w w' := by
  have hs : sameE 1 3 7 3 3 7 = false := by decide
  go_enter Try.func52, Try.ntmps52
  go_wp2
  go_ret
  exact ⟨rfl, (Below.refl _ w).alloc (Nat.le_refl _) _⟩

set_option maxHeartbeats 1000000 in
theorem awake05_c (w : World) :
    Calls Try.prog 22 #[] w fun e w' => e = .returned (.bool true) ∧ Below w.heap.size w w' := by
  have hs : sameE 1 3 7 1 3 7 = true := by decide
  have n1 := edgeNode_c 64
  have n2 := edgeNode_c 65
  rw [show node 64 = true from by decide] at n1
  rw [show node 65 = false from by decide] at n2
  go_enter Try.func22, Try.ntmps22
  go_wp2_with (go_at_call 50; refine (edgeOf_awake _).mono ?_; rintro e w1 ⟨rfl, h1⟩)
  have H1 := Lib.hid h1
  clear h1
  go_wp2_with fail
  go_at_call 51; refine (n1 _).mono ?_; rintro e w' ⟨rfl, rfl⟩
  go_wp2_with fail
  go_at_call 51; refine (n2 _).mono ?_; rintro e w' ⟨rfl, rfl⟩
  go_wp2_with fail
  go_at_call 52; refine (edgeOther_awake _).mono ?_; rintro e w2 ⟨rfl, h2⟩
  have H2 := Lib.hid h2
  clear h2
  go_wp2
  go_ret
  exact ⟨rfl, below_then (H1.out.alloc H1.out.size _) (by have := H1.out; exact H2.out)⟩

end Go.Proofs.Ytandminldgiheaa
