/- Walks: slices.Concat of two (and slices.Grow of nil under it), at whole numbers and at links. -/
import Derived.Test.YtandminldgiheaaOwn
import Derived.Test.YtandminldgiheaaKnownEq
import Derived.Lib.AppendZerosOnto
import Derived.Lib.SliceRun
namespace Go.Proofs.Ytandminldgiheaa
open Go.RowKit Go.Lib

theorem zeros_size (z : Value) (k n : Nat) (h : z.cells.size = k) : (Builtin.zeroCells z.cells n).size = n * k := by
  simp [Builtin.zeroCells, h]

set_option maxHeartbeats 1000000 in
theorem growI_c (n : Nat) (w : World) (hn : n ≤ 1000000) :
    Calls Try.prog 90 #[.slice none 0 0, .int .i64 n] w fun e w' => (∃ v', e = .returned v' ∧ Own encI 1 w' w.heap.size 3 v' []) ∧ Below w.heap.size w w' := by
  have hq : ∀ n : Nat, n ≤ 1000000 → wrap64 ((n : Int) - 0) = n := fun n h => by unfold wrap64; omega
  by_cases h0 : n = 0
  · subst h0
    go_enter Try.func90, Try.ntmps90
    go_wp2
    go_ret
    exact ⟨⟨_, rfl, Own.nil _ _ _⟩, Below.refl _ _⟩
  · obtain ⟨i0, hi, hzz⟩ := Option.map_eq_some_iff.1 infoI
    simp only [Prod.mk.injEq] at hzz
    obtain ⟨hz0, hz1, hz2⟩ := hzz
    have hfc : (Builtin.firstCells i0.size 0 (.slice none 0 0)).run Try.prog w.drew = .ok #[] w.drew := run_firstCells_none w.drew i0.size 0 0 0
    have hrz : ∀ ty, (Builtin.append_ #[39, 3] ty #[.slice none 0 0, .int .i64 n]).run Try.prog w =
        .ok (.slice (some ⟨w.heap.size, 0, none⟩) n (grownCap w n 0 3)) (w.drew.alloc (.cells (#[] ++ Builtin.zeroCells (.int .i64 0 : Value).cells n ++ Builtin.zeroCells (.int .i64 0 : Value).cells (grownCap w n 0 3 - n)) 3)) := fun ty => by
      have h := Lib.run_append_grow_zeros (P := Try.prog) w 39 3 ty 3 i0 (.int .i64 0) .i64 .i64 Try.underlying39 Try.underlying3 hi hz0 none 0 0 [] hfc n (by omega) (by omega) (by omega) (by omega) (by rw [hz2]; omega)
        (growslice_fits (by omega) (by rw [hz2]; omega))
      simpa using h
    have hGn : n ≤ grownCap w n 0 3 := grownCap_ge w _ _ _
    obtain ⟨G, hG⟩ : ∃ G, G = grownCap w n 0 3 := ⟨_, rfl⟩
    rw [← hG] at hrz hGn
    have hG63 : G ≤ 9223372036854775807 := by
      have := grownCap_le_maxLen w n 0 3 (by unfold maxLen; omega)
      rw [← hG] at this
      unfold maxLen at this
      omega
    have hsz : (#[] ++ Builtin.zeroCells (.int .i64 0 : Value).cells n ++ Builtin.zeroCells (.int .i64 0 : Value).cells (G - n)).size = G * 1 := by
      rw [Array.size_append, Array.size_append, zeros_size _ 1 _ rfl, zeros_size _ 1 _ rfl]
      simp
      omega
    obtain ⟨C, hC⟩ : ∃ C, C = (#[] ++ Builtin.zeroCells (.int .i64 0 : Value).cells n ++ Builtin.zeroCells (.int .i64 0 : Value).cells (G - n)) := ⟨_, rfl⟩
    rw [← hC] at hrz hsz
    have HRZ := Lib.hid hrz
    have HS := Lib.hid hsz
    have h1 : ¬ ((n : Int) < 0) := by omega
    have h4 : (n : Int) > 0 := by omega
    clear hfc hG hi hz0 hz1 hz2 hC hrz hsz hq
    go_enter Try.func90, Try.ntmps90
    go_wp2_with (at_builtin; refine Lib.wpList_append_run _ rfl _ _ _ _ rfl _ _ rfl rfl _ _ (HRZ.out _) ?_)
    go_ret
    refine ⟨⟨_, rfl, ?_⟩, (below_drew (Below.refl _ w)).alloc (Nat.le_refl _) _⟩
    refine ⟨rfl, .inr ⟨w.heap.size, G, C, rfl, Nat.le_refl _, heap_alloc_new w.drew _, by simp, by simpa [maxLen] using hG63, HS.out, ?_⟩⟩
    simp

set_option maxHeartbeats 2000000 in
theorem concatI_c (l m : List Int) (v u : Value) (b : Nat) (w : World) (hb : b < w.heap.size) (hc0 : w.cell? ⟨b, 0, none⟩ = some v) (hc1 : w.cell? ⟨b, 1, none⟩ = some u) (hv : Rd encI 1 w v l) (hu : Rd encI 1 w u m) (hl : l.length ≤ 100000) (hm : m.length ≤ 100000) :
    Calls Try.prog 60 #[.slice (some ⟨b, 0, none⟩) 2 2] w fun e w' => (∃ v', e = .returned v' ∧ Own encI 1 w' w.heap.size 3 v' (l ++ m)) ∧ Below w.heap.size w w' := by
  have HV := Lib.hid hv
  have HU := Lib.hid hu
  obtain ⟨A0, c0, rfl, _, _, _⟩ := hv
  obtain ⟨A1, c1, rfl, _, _, _⟩ := hu
  have HC0 := Lib.hid hc0
  have HC1 := Lib.hid hc1
  go_enter Try.func60, Try.ntmps60
  go_wp2
  refine wp_loop_rounds 3 ?_
  iterate 3 (all_goals (try rw [rounds_succ]); go_wp2_with fail)
  go_at_call 90; refine (growI_c (l.length + m.length) _ (by omega)).mono ?_; rintro e w1 ⟨⟨v1, rfl, ho1⟩, hb1⟩
  have HO1 := Lib.hid ho1
  have HB1 := Lib.hid hb1
  have hc0 := cell_of_below hb1 hc0
  have hc1 := cell_of_below hb1 hc1
  clear ho1 hb1
  go_wp2_with fail
  refine wp_loop_rounds 3 ?_
  rw [rounds_succ]
  go_wp2_with (at_builtin; refine wpList_appendR encI_len encI_one w.heap.size w.heap.size rfl _ _ 39 3 (.int .i64 0) 8 rfl Try.underlying39 infoI rfl (by decide) (by decide) _ _ [] l rfl rfl HO1.out (HV.out.below HB1.out) HB1.out (Nat.le_refl _) HB1.out.size (by simp; omega) ?_; intro v2 w2 ho2 hb2 hg2 hat2)
  rw [List.nil_append] at ho2
  have HO2 := Lib.hid ho2
  have HB2 := Lib.hid hb2
  have d1 := (hb2.cell (p := ⟨b, 1, none⟩) hb).trans HC1.out
  clear ho2 hb2 hg2 hat2 hc0 hc1
  go_wp2_with fail
  rw [rounds_succ]
  go_wp2_with (at_builtin; refine wpList_appendR encI_len encI_one w.heap.size w.heap.size rfl _ _ 39 3 (.int .i64 0) 8 rfl Try.underlying39 infoI rfl (by decide) (by decide) _ _ l m rfl rfl HO2.out (HU.out.below HB2.out) HB2.out (Nat.le_refl _) HB2.out.size (by omega) ?_; intro v3 w3 ho3 hb3 hg3 hat3)
  have HO3 := Lib.hid ho3
  have HB3 := Lib.hid hb3
  clear ho3 hb3 hg3 hat3
  go_wp2_with fail
  rw [rounds_succ]
  go_wp2_with fail
  go_ret
  exact ⟨⟨_, rfl, HO3.out⟩, HB3.out⟩

set_option maxHeartbeats 1000000 in
theorem growK_c (n : Nat) (w : World) (hn : n ≤ 1000000) :
    Calls Try.prog 91 #[.slice none 0 0, .int .i64 n] w fun e w' => (∃ v', e = .returned v' ∧ Own encK 5 w' w.heap.size 51 v' []) ∧ Below w.heap.size w w' := by
  have hq : ∀ n : Nat, n ≤ 1000000 → wrap64 ((n : Int) - 0) = n := fun n h => by unfold wrap64; omega
  by_cases h0 : n = 0
  · subst h0
    go_enter Try.func91, Try.ntmps91
    go_wp2
    go_ret
    exact ⟨⟨_, rfl, Own.nil _ _ _⟩, Below.refl _ _⟩
  · obtain ⟨i0, hi, hzz⟩ := Option.map_eq_some_iff.1 infoK
    simp only [Prod.mk.injEq] at hzz
    obtain ⟨hz0, hz1, hz2⟩ := hzz
    have hfc : (Builtin.firstCells i0.size 0 (.slice none 0 0)).run Try.prog w.drew = .ok #[] w.drew := run_firstCells_none w.drew i0.size 0 0 0
    have hrz : ∀ ty, (Builtin.append_ #[41, 3] ty #[.slice none 0 0, .int .i64 n]).run Try.prog w =
        .ok (.slice (some ⟨w.heap.size, 0, none⟩) n (grownCap w n 0 51)) (w.drew.alloc (.cells (#[] ++ Builtin.zeroCells (.agg #[.int .i64 0, .int .i64 0, .int .i64 0, .int .i64 0, .bool false] : Value).cells n ++ Builtin.zeroCells (.agg #[.int .i64 0, .int .i64 0, .int .i64 0, .int .i64 0, .bool false] : Value).cells (grownCap w n 0 51 - n)) 51)) := fun ty => by
      have h := Lib.run_append_grow_zeros (P := Try.prog) w 41 3 ty 51 i0 (.agg #[.int .i64 0, .int .i64 0, .int .i64 0, .int .i64 0, .bool false]) .i64 .i64 Try.underlying41 Try.underlying3 hi hz0 none 0 0 [] hfc n (by omega) (by omega) (by omega) (by omega) (by rw [hz2]; omega)
        (growslice_fits (by omega) (by rw [hz2]; omega))
      simpa using h
    have hGn : n ≤ grownCap w n 0 51 := grownCap_ge w _ _ _
    obtain ⟨G, hG⟩ : ∃ G, G = grownCap w n 0 51 := ⟨_, rfl⟩
    rw [← hG] at hrz hGn
    have hG63 : G ≤ 9223372036854775807 := by
      have := grownCap_le_maxLen w n 0 51 (by unfold maxLen; omega)
      rw [← hG] at this
      unfold maxLen at this
      omega
    have hsz : (#[] ++ Builtin.zeroCells (.agg #[.int .i64 0, .int .i64 0, .int .i64 0, .int .i64 0, .bool false] : Value).cells n ++ Builtin.zeroCells (.agg #[.int .i64 0, .int .i64 0, .int .i64 0, .int .i64 0, .bool false] : Value).cells (G - n)).size = G * 5 := by
      rw [Array.size_append, Array.size_append, zeros_size _ 5 _ rfl, zeros_size _ 5 _ rfl]
      simp
      omega
    obtain ⟨C, hC⟩ : ∃ C, C = (#[] ++ Builtin.zeroCells (.agg #[.int .i64 0, .int .i64 0, .int .i64 0, .int .i64 0, .bool false] : Value).cells n ++ Builtin.zeroCells (.agg #[.int .i64 0, .int .i64 0, .int .i64 0, .int .i64 0, .bool false] : Value).cells (G - n)) := ⟨_, rfl⟩
    rw [← hC] at hrz hsz
    have HRZ := Lib.hid hrz
    have HS := Lib.hid hsz
    have h1 : ¬ ((n : Int) < 0) := by omega
    have h4 : (n : Int) > 0 := by omega
    clear hfc hG hi hz0 hz1 hz2 hC hrz hsz hq
    go_enter Try.func91, Try.ntmps91
    go_wp2_with (at_builtin; refine Lib.wpList_append_run _ rfl _ _ _ _ rfl _ _ rfl rfl _ _ (HRZ.out _) ?_)
    go_ret
    refine ⟨⟨_, rfl, ?_⟩, (below_drew (Below.refl _ w)).alloc (Nat.le_refl _) _⟩
    refine ⟨rfl, .inr ⟨w.heap.size, G, C, rfl, Nat.le_refl _, heap_alloc_new w.drew _, by simp, by simpa [maxLen] using hG63, HS.out, ?_⟩⟩
    simp

set_option maxHeartbeats 2000000 in
theorem concatK_c (l m : List Known) (v u : Value) (b : Nat) (w : World) (hb : b < w.heap.size) (hc0 : w.cell? ⟨b, 0, none⟩ = some v) (hc1 : w.cell? ⟨b, 1, none⟩ = some u) (hv : Rd encK 5 w v l) (hu : Rd encK 5 w u m) (hl : l.length ≤ 100000) (hm : m.length ≤ 100000) :
    Calls Try.prog 61 #[.slice (some ⟨b, 0, none⟩) 2 2] w fun e w' => (∃ v', e = .returned v' ∧ Own encK 5 w' w.heap.size 51 v' (l ++ m)) ∧ Below w.heap.size w w' := by
  have HV := Lib.hid hv
  have HU := Lib.hid hu
  obtain ⟨A0, c0, rfl, _, _, _⟩ := hv
  obtain ⟨A1, c1, rfl, _, _, _⟩ := hu
  have HC0 := Lib.hid hc0
  have HC1 := Lib.hid hc1
  go_enter Try.func61, Try.ntmps61
  go_wp2
  refine wp_loop_rounds 3 ?_
  iterate 3 (all_goals (try rw [rounds_succ]); go_wp2_with fail)
  go_at_call 91; refine (growK_c (l.length + m.length) _ (by omega)).mono ?_; rintro e w1 ⟨⟨v1, rfl, ho1⟩, hb1⟩
  have HO1 := Lib.hid ho1
  have HB1 := Lib.hid hb1
  have hc0 := cell_of_below hb1 hc0
  have hc1 := cell_of_below hb1 hc1
  clear ho1 hb1
  go_wp2_with fail
  refine wp_loop_rounds 3 ?_
  rw [rounds_succ]
  go_wp2_with (at_builtin; refine wpList_appendR encK_len encK_one w.heap.size w.heap.size rfl _ _ 41 51 (.agg #[.int .i64 0, .int .i64 0, .int .i64 0, .int .i64 0, .bool false]) 40 rfl Try.underlying41 infoK rfl (by decide) (by decide) _ _ [] l rfl rfl HO1.out (HV.out.below HB1.out) HB1.out (Nat.le_refl _) HB1.out.size (by simp; omega) ?_; intro v2 w2 ho2 hb2 hg2 hat2)
  rw [List.nil_append] at ho2
  have HO2 := Lib.hid ho2
  have HB2 := Lib.hid hb2
  have d1 := (hb2.cell (p := ⟨b, 1, none⟩) hb).trans HC1.out
  clear ho2 hb2 hg2 hat2 hc0 hc1
  go_wp2_with fail
  rw [rounds_succ]
  go_wp2_with (at_builtin; refine wpList_appendR encK_len encK_one w.heap.size w.heap.size rfl _ _ 41 51 (.agg #[.int .i64 0, .int .i64 0, .int .i64 0, .int .i64 0, .bool false]) 40 rfl Try.underlying41 infoK rfl (by decide) (by decide) _ _ l m rfl rfl HO2.out (HU.out.below HB2.out) HB2.out (Nat.le_refl _) HB2.out.size (by omega) ?_; intro v3 w3 ho3 hb3 hg3 hat3)
  have HO3 := Lib.hid ho3
  have HB3 := Lib.hid hb3
  clear ho3 hb3 hg3 hat3
  go_wp2_with fail
  rw [rounds_succ]
  go_wp2_with fail
  go_ret
  exact ⟨⟨_, rfl, HO3.out⟩, HB3.out⟩

end Go.Proofs.Ytandminldgiheaa
