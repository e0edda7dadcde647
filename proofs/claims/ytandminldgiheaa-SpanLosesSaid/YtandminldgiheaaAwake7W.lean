/- Walk: the fixed question of the laws on spans. -/
import Derived.Test.YtandminldgiheaaSpan2W
import Derived.Test.YtandminldgiheaaSameW
import Derived.Test.YtandminldgiheaaSortP
namespace Go.Proofs.Ytandminldgiheaa
open Go.RowKit

def q3 : List Edge := [⟨1, 2, 5⟩, ⟨2, 3, 1⟩, ⟨1, 3, 1⟩]
def q2 : List Edge := [⟨1, 3, 1⟩, ⟨2, 3, 1⟩]
theorem q_conn : Conn q2 1 2 := (Conn.edge (e := ⟨1, 3, 1⟩) (by simp [q2])).trans (Conn.edge (e := ⟨2, 3, 1⟩) (by simp [q2])).symm
theorem q_not0 : linked [] 1 3 = false := by rw [linked_false, conn_nil]; omega
theorem q_not1 : linked [⟨1, 3, 1⟩] 2 3 = false := by
  rw [linked_false, show ([⟨1, 3, 1⟩] : List Edge) = [] ++ [⟨1, 3, 1⟩] from rfl, conn_snoc]
  simp only [conn_nil]
  omega
theorem q_sort : sortE q3 = [⟨1, 3, 1⟩, ⟨2, 3, 1⟩, ⟨1, 2, 5⟩] :=
  (sortE_of (by unfold InOrder; decide) (by unfold q3; decide)).symm
theorem q_least : least q3 = q2 := by
  rw [least, q_sort]
  simp only [growAll, List.foldl_cons, List.foldl_nil]
  have e1 : grow1 [] ⟨1, 3, 1⟩ = [⟨1, 3, 1⟩] := by rw [grow1, if_neg (by rw [q_not0]; simp)]; rfl
  have e2 : grow1 [⟨1, 3, 1⟩] ⟨2, 3, 1⟩ = q2 := by rw [grow1, if_neg (by rw [q_not1]; simp)]; rfl
  have e3 : grow1 q2 ⟨1, 2, 5⟩ = q2 := by rw [grow1, if_pos (linked_iff.2 q_conn)]
  rw [e1, e2, e3]
theorem q_forest : forest q2 = true := by
  rw [forest_iff]
  intro i hi
  have : i = 0 ∨ i = 1 := by simp [q2] at hi; omega
  rcases this with rfl | rfl
  · exact linked_false.1 q_not0
  · exact linked_false.1 q_not1

set_option maxHeartbeats 1000000 in
theorem awake07_c (w : World) : Calls Try.prog 11 #[] w fun e w' => e = .returned (.bool true) ∧ Below w.heap.size w w' := by
  have hc3 : check q3 = 0 := by decide
  have hc2 : check q2 = 0 := by decide
  have r3 : RdE (w.alloc (.cells #[.int .i64 1, .int .i64 2, .int .i64 5, .int .i64 2, .int .i64 3, .int .i64 1, .int .i64 1, .int .i64 3, .int .i64 1] 24)) (.slice (some ⟨w.heap.size, 0, none⟩) 3 3) q3 :=
    Own.rd (base := w.heap.size) (e := 24) encE_len (World.ownsRow_lit w #[.int .i64 1, .int .i64 2, .int .i64 5, .int .i64 2, .int .i64 3, .int .i64 1, .int .i64 1, .int .i64 3, .int .i64 1] 3 (Nat.le_refl _) (by decide) rfl)
  have hL : ∀ w u, RdE w u q3 → Calls Try.prog 12 #[u] w fun e w' => ∃ v', e = .returned (.tuple #[v', .int .i64 0]) ∧ RdE w' v' q2 ∧ Below w.heap.size w w' := fun w u hu =>
    (spanLeast_c q3 u w hu).mono fun e w' ⟨hb, h⟩ => by
      rcases h with ⟨_, v', he, ho⟩ | ⟨h, _⟩
      · rw [q_least] at ho
        exact ⟨v', he, ho.rd encE_len, hb⟩
      · exact absurd hc3 h
  have hF := fun u w hu => spanForest_c q2 u w hu
  rw [show (decide (check q2 = 0) && forest q2) = true by rw [hc2, q_forest]; rfl] at hF
  have hK := fun u w hu => spanLinked_c q2 1 2 u w hu
  rw [show linkedAns q2 1 2 = true by unfold linkedAns; rw [hc2, linked_iff.2 q_conn]; decide] at hK
  have HR3 := Lib.hid r3
  have HL := Lib.hid hL
  have HF := Lib.hid hF
  have HK := Lib.hid hK
  clear hL hF hK r3 hc3 hc2
  go_enter Try.func11, Try.ntmps11
  go_wp2_with fail
  go_at_call 12; refine (HL.out _ _ HR3.out).mono ?_; rintro e w1 ⟨v1, rfl, hr1, hb1⟩
  have HR1 := Lib.hid hr1
  have HB1 := Lib.hid (below_then ((Below.refl _ w).alloc (Nat.le_refl _) _) hb1)
  clear hr1 hb1
  go_wp2_with fail
  have hba := (Below.refl w1.heap.size w1).alloc (Nat.le_refl _) (.cells #[.int .i64 1, .int .i64 3, .int .i64 1, .int .i64 2, .int .i64 3, .int .i64 1] 24)
  have r2 : RdE (w1.alloc (.cells #[.int .i64 1, .int .i64 3, .int .i64 1, .int .i64 2, .int .i64 3, .int .i64 1] 24)) (.slice (some ⟨w1.heap.size, 0, none⟩) 2 2) q2 :=
    Own.rd (base := w1.heap.size) (e := 24) encE_len (World.ownsRow_lit w1 #[.int .i64 1, .int .i64 3, .int .i64 1, .int .i64 2, .int .i64 3, .int .i64 1] 2 (Nat.le_refl _) (by decide) rfl)
  have hsame := refSame_c q2 q2 _ _ _ (HR1.out.below hba) r2
  rw [decide_eq_true rfl] at hsame
  have HB2 := Lib.hid (below_then HB1.out hba)
  have HR2 := Lib.hid (HR1.out.below hba)
  clear hba r2
  go_at_call 13; refine hsame.mono ?_; rintro e w2 ⟨rfl, hd2⟩
  have HB3 := Lib.hid (below_then HB2.out hd2.below)
  have HR4 := Lib.hid (HR2.out.below hd2.below)
  clear hd2 hsame
  go_wp2_with fail
  go_at_call 17; refine (HF.out _ _ HR4.out).mono ?_; rintro e w3 ⟨rfl, hb3⟩
  have HB5 := Lib.hid (below_then HB3.out hb3)
  have HR5 := Lib.hid (HR4.out.below hb3)
  clear hb3
  go_wp2_with fail
  go_at_call 38; refine (HK.out _ _ HR5.out).mono ?_; rintro e w4 ⟨rfl, hb4⟩
  go_wp2_with fail
  go_ret
  exact ⟨rfl, below_then HB5.out hb4⟩

end Go.Proofs.Ytandminldgiheaa
