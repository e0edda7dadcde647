/- Walk: the fixed question of the laws on views. -/
import Derived.Test.YtandminldgiheaaInnerW
import Derived.Test.YtandminldgiheaaOuterW
namespace Go.Proofs.Ytandminldgiheaa
open Go.RowKit
attribute [local go_sem ↓] Go.wp_at_zero Go.wp_at_succ

def qv : View := ⟨[1, 2], [⟨1, 2, 0, 5, false⟩, ⟨2, 1, 0, 5, false⟩, ⟨2, 3, 0, 1, false⟩]⟩
theorem qv_may : mayV qv = true := by decide
theorem qv_inner : innerV qv = [⟨1, 2, 0, 5, false⟩] := by decide
theorem qv_outer : outerV qv = [⟨2, 3, 0, 1, false⟩] := by decide

set_option maxHeartbeats 1000000 in
theorem awake09_c (w : World) : Calls Try.prog 29 #[] w fun e w' => e = .returned (.bool true) ∧ Below w.heap.size w w' := by
  obtain ⟨W1, e1⟩ : ∃ W1, w.alloc (.cells #[.int .i64 1, .int .i64 2] 3) = W1 := ⟨_, rfl⟩
  have f1 := alloc_facts e1
  have r1 : RdI W1 (.slice (some ⟨w.heap.size, 0, none⟩) 2 2) qv.nodes := by
    rw [← e1]
    exact Own.rd (base := w.heap.size) (e := 3) encI_len (World.ownsRow_lit w #[.int .i64 1, .int .i64 2] 2 (Nat.le_refl _) (by decide) rfl)
  obtain ⟨W2, e2⟩ : ∃ W2, W1.alloc (.cells #[.int .i64 1, .int .i64 2, .int .i64 0, .int .i64 5, .bool false, .int .i64 2, .int .i64 1, .int .i64 0, .int .i64 5, .bool false, .int .i64 2, .int .i64 3, .int .i64 0, .int .i64 1, .bool false] 51) = W2 := ⟨_, rfl⟩
  have f2 := alloc_facts e2
  have r2 : RdK W2 (.slice (some ⟨W1.heap.size, 0, none⟩) 3 3) qv.links := by
    rw [← e2]
    exact Own.rd (base := W1.heap.size) (e := 51) encK_len (World.ownsRow_lit W1 #[.int .i64 1, .int .i64 2, .int .i64 0, .int .i64 5, .bool false, .int .i64 2, .int .i64 1, .int .i64 0, .int .i64 5, .bool false, .int .i64 2, .int .i64 3, .int .i64 0, .int .i64 1, .bool false] 3 (Nat.le_refl _) (by decide) rfl)
  obtain ⟨W, e3⟩ : ∃ W, W2.alloc (.cells #[.slice (some ⟨w.heap.size, 0, none⟩) 2 2, .slice (some ⟨W1.heap.size, 0, none⟩) 3 3] 43) = W := ⟨_, rfl⟩
  have f3 := alloc_facts e3
  have hs1 : W1.heap.size = w.heap.size + 1 := f1.2.1
  have hs2 : W2.heap.size = w.heap.size + 1 + 1 := by rw [f2.2.1, hs1]
  have hv : RdV W (.slice (some ⟨w.heap.size, 0, none⟩) 2 2) (.slice (some ⟨w.heap.size + 1, 0, none⟩) 3 3) qv := by
    rw [← hs1]
    exact ⟨r1.below (below_then f2.2.2.1 f3.2.2.1), r2.below f3.2.2.1⟩
  have hk : W.heap[w.heap.size + 1 + 1]? = some (.cells #[.slice (some ⟨w.heap.size, 0, none⟩) 2 2, .slice (some ⟨w.heap.size + 1, 0, none⟩) 3 3] 43 (0, 0)) := by
    rw [← hs2, ← hs1]; exact f3.1
  have hb := below_then f1.2.2.1 (below_then f2.2.2.1 f3.2.2.1)
  have hin := viewInner_c qv _ _ W hv
  have HV := Lib.hid hv
  have HK := Lib.hid hk
  have HB := Lib.hid hb
  have x0 := cell_in hk 0 _ rfl
  have x1 := cell_in hk 1 _ rfl
  have HIN := Lib.hid hin
  rw [hs1] at e3
  clear f1 f2 f3 r1 r2 hv hk hb hin
  go_enter Try.func29, Try.ntmps29
  go_wp2_with fail
  go_at_call 32; refine HIN.out.mono ?_; rintro e w4 ⟨hb4, _, hok⟩
  obtain ⟨u, rfl, ho4⟩ := hok qv_may
  rw [qv_inner] at ho4
  obtain ⟨A4, c4, rfl, _, _, _⟩ := ho4.rd encK_len
  have HB4 := Lib.hid (below_then HB.out hb4)
  have hk4 := block_of_below HK.out hb4
  have x0 := cell_in hk4 0 _ rfl
  have x1 := cell_in hk4 1 _ rfl
  have hou := viewOuter_c qv _ _ w4 (HV.out.below hb4)
  have HOU := Lib.hid hou
  clear hok ho4 hb4 hk4 hou e1 e2 e3 hs1 hs2 HIN
  go_wp2_with fail
  go_at_call 59; refine HOU.out.mono ?_; rintro e w5 ⟨hb5, _, hok⟩
  obtain ⟨u, rfl, ho5⟩ := hok qv_may
  rw [qv_outer] at ho5
  obtain ⟨A5, c5, rfl, _, _, h5⟩ := ho5.rd encK_len
  obtain ⟨b5, o5, rfl, _, g5⟩ := h5 (by simp)
  obtain ⟨y0, y1, y2, y3, y4⟩ := cells_K g5 0 (by simp)
  simp only [Nat.zero_mul, Nat.add_zero] at y0 y1 y2 y3 y4
  have HB5 := Lib.hid (below_then HB4.out hb5)
  clear hok ho5 hb5 g5 h5
  go_wp2_with fail
  go_ret
  exact ⟨rfl, HB5.out⟩

end Go.Proofs.Ytandminldgiheaa
