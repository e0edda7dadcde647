/- The law 'ViewMerges', walked. -/
import Derived.Test.YtandminldgiheaaAwake9W
import Derived.Test.YtandminldgiheaaMergeW
import Derived.Test.YtandminldgiheaaRefMergeW
import Derived.Test.YtandminldgiheaaSameVW
namespace Go.Proofs.Ytandminldgiheaa
open Go.RowKit Go.Proofs.YtandminldgiheaaW.PrintLast
attribute [local go_sem ↓] Go.wp_at_zero Go.wp_at_succ

def lightV (v : View) : Bool := decide (v.nodes.length ≤ 70) && decide (v.links.length ≤ 200)
set_option maxHeartbeats 1000000 in
theorem light_c (a : View) (an al : Value) (w : World) (ha : RdV w an al a) :
    Calls Try.prog 28 #[.agg #[an, al]] w fun e w' => e = .returned (.bool (lightV a)) ∧ Below w.heap.size w w' := by
  obtain ⟨A0, c0, rfl, _, _, _⟩ := ha.1
  obtain ⟨A1, c1, rfl, _, _, _⟩ := ha.2
  clear ha
  have hl : lightV a = (decide (a.nodes.length ≤ 70) && decide (a.links.length ≤ 200)) := rfl
  have HL := Lib.hid hl
  clear hl
  by_cases h1 : a.nodes.length ≤ 70
  · by_cases h2 : a.links.length ≤ 200
    · have i1 : (a.nodes.length : Int) ≤ 70 := by omega
      have i2 : (a.links.length : Int) ≤ 200 := by omega
      have hans : lightV a = true := by rw [HL.out]; simp [h1, h2]
      have HANS := Lib.hid hans
      clear h1 h2 hans
      go_enter Try.func28, Try.ntmps28
      go_wp2
      go_ret
      exact ⟨ret_b HANS.out.symm, (Below.refl _ w).alloc (Nat.le_refl _) _⟩
    · have i1 : (a.nodes.length : Int) ≤ 70 := by omega
      have i2 : ¬ ((a.links.length : Int) ≤ 200) := by omega
      have hans : lightV a = false := by rw [HL.out]; simp [h2]
      have HANS := Lib.hid hans
      clear h1 h2 hans
      go_enter Try.func28, Try.ntmps28
      go_wp2
      go_ret
      exact ⟨ret_b HANS.out.symm, (Below.refl _ w).alloc (Nat.le_refl _) _⟩
  · have i1 : ¬ ((a.nodes.length : Int) ≤ 70) := by omega
    have hans : lightV a = false := by rw [HL.out]; simp [h1]
    have HANS := Lib.hid hans
    clear h1 hans
    go_enter Try.func28, Try.ntmps28
    go_wp2
    go_ret
    exact ⟨ret_b HANS.out.symm, (Below.refl _ w).alloc (Nat.le_refl _) _⟩

set_option maxRecDepth 100000 in
set_option maxHeartbeats 16000000 in
theorem viewMergesLaw_c (a b : View) (an al bn bl : Value) (w : World) (ha : RdV w an al a) (hb : RdV w bn bl b) :
    Calls Try.prog 8 #[.agg #[an, al], .agg #[bn, bl]] w fun e w' => e = .returned (.bool true) ∧ Below w.heap.size w w' := by
  have HA := Lib.hid ha
  have HB := Lib.hid hb
  obtain ⟨A0, c0, rfl, _, _, _⟩ := ha.1
  obtain ⟨A1, c1, rfl, _, _, _⟩ := ha.2
  obtain ⟨A2, c2, rfl, _, _, _⟩ := hb.1
  obtain ⟨A3, c3, rfl, _, _, _⟩ := hb.2
  clear ha hb
  obtain ⟨W1, e1⟩ : ∃ W1, w.alloc (.cells #[.slice A0 a.nodes.length c0, .slice A1 a.links.length c1] 43) = W1 := ⟨_, rfl⟩
  have f1 := alloc_facts e1
  obtain ⟨W, e2⟩ : ∃ W, W1.alloc (.cells #[.slice A2 b.nodes.length c2, .slice A3 b.links.length c3] 43) = W := ⟨_, rfl⟩
  have f2 := alloc_facts e2
  obtain ⟨BX, hBX⟩ : ∃ BX, w.heap.size = BX := ⟨_, rfl⟩
  have hs1 : W1.heap.size = BX + 1 := by rw [f1.2.1, hBX]
  have k0 := f2.2.2.2 _ _ f1.1
  have k1 := f2.1
  rw [hBX] at k0
  rw [hs1] at k1
  have HBW := Lib.hid (below_then f1.2.2.1 f2.2.2.1)
  have hcell : ∀ w', Below W.heap.size W w' → w'.cell? ⟨BX, 0, none⟩ = some (.slice A0 a.nodes.length c0) ∧ w'.cell? ⟨BX, 1, none⟩ = some (.slice A1 a.links.length c1) ∧ w'.cell? ⟨BX + 1, 0, none⟩ = some (.slice A2 b.nodes.length c2) ∧ w'.cell? ⟨BX + 1, 1, none⟩ = some (.slice A3 b.links.length c3) := fun w' hq => by
    have j0 := block_of_below k0 hq
    have j1 := block_of_below k1 hq
    exact ⟨cell_in j0 0 _ rfl, cell_in j0 1 _ rfl, cell_in j1 0 _ rfl, cell_in j1 1 _ rfl⟩
  have HCE := Lib.hid hcell
  have HRA := Lib.hid (fun w' (hq : Below W.heap.size W w') => HA.out.below (below_then HBW.out hq))
  have HRB := Lib.hid (fun w' (hq : Below W.heap.size W w') => HB.out.below (below_then HBW.out hq))
  have hla := light_c a _ _ W (HRA.out W (Below.refl _ _))
  have hlb := fun w' hq => light_c b _ _ w' (HRB.out w' hq)
  obtain ⟨x0, x1, y0, y1⟩ := hcell W (Below.refl _ _)
  have HLA := Lib.hid hla
  have HLB := Lib.hid hlb
  clear f1 f2 k0 k1 hcell hla hlb HA HB
  go_enter Try.func8, Try.ntmps8
  go_upto_region 1 with fail
  clear e1 e2 hBX hs1
  cases hlight : lightV a
  · rw [hlight] at HLA
    clear hlight
    go_wp2_with fail
    go_at_call 28; refine HLA.out.mono ?_; rintro e w1 ⟨rfl, hb1⟩
    go_wp2_with fail
    go_at_call 29; refine (awake09_c _).mono ?_; rintro e w2 ⟨rfl, hb2⟩
    go_wp2_with fail
    go_ret
    exact ⟨rfl, below_then HBW.out (below_then hb1 hb2)⟩
  rw [hlight] at HLA
  have HLT := Lib.hid hlight
  clear hlight
  cases hlight : lightV b
  · rw [hlight] at HLB
    clear hlight
    go_wp2_with fail
    go_at_call 28; refine HLA.out.mono ?_; rintro e w1 ⟨rfl, hb1⟩
    have HB1 := Lib.hid hb1
    obtain ⟨_, _, y0, y1⟩ := HCE.out w1 hb1
    clear hb1
    go_wp2_with fail
    go_at_call 28; refine (HLB.out _ HB1.out).mono ?_; rintro e w2 ⟨rfl, hb2⟩
    go_wp2_with fail
    go_at_call 29; refine (awake09_c _).mono ?_; rintro e w3 ⟨rfl, hb3⟩
    go_wp2_with fail
    go_ret
    exact ⟨rfl, below_then HBW.out (below_then HB1.out (below_then hb2 hb3))⟩
  rw [hlight] at HLB
  have hl2 : a.links.length ≤ 200 := by have := HLT.out; unfold lightV at this; simp at this; omega
  have hl4 : b.links.length ≤ 200 := by unfold lightV at hlight; simp at hlight; omega
  clear hlight HLT
  go_wp2_with fail
  go_at_call 28; refine HLA.out.mono ?_; rintro e w1 ⟨rfl, hb1⟩
  have HB1 := Lib.hid hb1
  obtain ⟨_, _, y0, y1⟩ := HCE.out w1 hb1
  clear hb1
  go_wp2_with fail
  go_at_call 28; refine (HLB.out _ HB1.out).mono ?_; rintro e w2 ⟨rfl, hb2⟩
  have HB2 := Lib.hid (below_then HB1.out hb2)
  clear hb2 x0 x1 y0 y1
  obtain ⟨x0, x1, y0, y1⟩ := HCE.out w2 HB2.out
  go_wp2_with fail
  go_at_call 30; refine (viewMerge_c a b _ _ _ _ w2 (HRA.out _ HB2.out) (HRB.out _ HB2.out)).mono ?_; rintro e w3 hmp
  have HB3 := Lib.hid (below_then HB2.out hmp.1)
  have hcase : ∃ B0 n0 d0 B1 n1 d1 cc V, e = .returned (.tuple #[.agg #[.slice B0 n0 d0, .slice B1 n1 d1], .int .i64 cc]) ∧ RdV w3 (.slice B0 n0 d0) (.slice B1 n1 d1) V ∧
      ((mayV a && mayV b) = false → V = ⟨[], []⟩ ∧ cc = 1) ∧ (mayV a = true → mayV b = true → apartV a b = false → V = ⟨[], []⟩ ∧ cc = 11) ∧ (mayV a = true → mayV b = true → apartV a b = true → V = mergeV a b ∧ cc = 0) := by
    obtain ⟨_, h1, h2, h3⟩ := hmp
    cases hma : mayV a with
    | false => exact ⟨_, _, _, _, _, _, _, ⟨[], []⟩, h1 (by rw [hma]; rfl), RdV.nil _, fun _ => ⟨rfl, rfl⟩, (fun h => by cases h), (fun h => by cases h)⟩
    | true =>
      cases hmb : mayV b with
      | false => exact ⟨_, _, _, _, _, _, _, ⟨[], []⟩, h1 (by rw [hma, hmb]; rfl), RdV.nil _, fun _ => ⟨rfl, rfl⟩, (fun _ h => by cases h), (fun _ h => by cases h)⟩
      | true =>
        cases hap : apartV a b with
        | false => exact ⟨_, _, _, _, _, _, _, ⟨[], []⟩, h2 hma hmb hap, RdV.nil _, (fun h => by cases h), (fun _ _ _ => ⟨rfl, rfl⟩), (fun _ _ h => by cases h)⟩
        | true =>
          obtain ⟨vn, vl, he, o1, o2⟩ := h3 hma hmb hap
          have r1 := o1.rd encI_len
          have r2 := o2.rd encK_len
          obtain ⟨B0, d0, rfl, _⟩ := o1.rd encI_len
          obtain ⟨B1, d1, rfl, _⟩ := o2.rd encK_len
          exact ⟨_, _, _, _, _, _, _, mergeV a b, he, ⟨r1, r2⟩, (fun h => by cases h), (fun _ _ h => by cases h), (fun _ _ _ => ⟨rfl, rfl⟩)⟩
  obtain ⟨B0, n0, d0, B1, n1, d1, cc, V, rfl, hrv, q1, q2, q3⟩ := hcase
  have Q1 := Lib.hid q1
  have Q2 := Lib.hid q2
  have Q3 := Lib.hid q3
  obtain ⟨W4, e4⟩ : ∃ W4, w3.alloc (.cells #[.slice B0 n0 d0, .slice B1 n1 d1] 43) = W4 := ⟨_, rfl⟩
  obtain ⟨BV, hBV⟩ : ∃ BV, w3.heap.size = BV := ⟨_, rfl⟩
  have f4 := alloc_facts e4
  have kv := f4.1
  rw [hBV] at kv
  have HB4 := Lib.hid (below_then HB3.out f4.2.2.1)
  have HRV := Lib.hid (hrv.below f4.2.2.1)
  have HKV := Lib.hid kv
  clear hmp q1 q2 q3 hrv f4 kv x0 x1 y0 y1
  obtain ⟨x0, x1, y0, y1⟩ := HCE.out W4 HB4.out
  go_upto_region 4 with fail
  clear e4 hBV
  have hck := fun w' hq => viewCheck_c a _ _ w' (HRA.out w' hq)
  have hrm := fun w' hq => refMayV_c a _ _ w' (HRA.out w' hq)
  have hvs := fun w' hq => viewSame_c a b _ _ _ _ w' (HRA.out w' hq) (HRB.out w' hq)
  have hrs := fun w' hq => refSameV_c a b _ _ _ _ w' (HRA.out w' hq) (HRB.out w' hq)
  have hrb := fun w' hq => refMayV_c b _ _ w' (HRB.out w' hq)
  obtain ⟨sm, hsm⟩ : ∃ sm, sameV a b = sm := ⟨_, rfl⟩
  rw [hsm] at hvs hrs
  have HVS := Lib.hid hvs
  have HRS := Lib.hid hrs
  clear hvs hrs hsm
  cases hma : mayV a
  · rw [hma] at hck hrm
    have HCK := Lib.hid hck
    have HRM := Lib.hid hrm
    have hq := Q1.out (by rw [hma]; rfl)
    obtain ⟨rfl, rfl⟩ := hq
    clear hck hrm hma hrb Q1 Q2 Q3
    have dd : (eArg false == 0) = false := rfl
    refine start_ (n := 15) (S := fun w' => w'.cell? ⟨BX, 0, none⟩ = some (.slice A0 a.nodes.length c0) ∧ w'.cell? ⟨BX, 1, none⟩ = some (.slice A1 a.links.length c1) ∧ w'.cell? ⟨BX + 1, 0, none⟩ = some (.slice A2 b.nodes.length c2) ∧ w'.cell? ⟨BX + 1, 1, none⟩ = some (.slice A3 b.links.length c3)) (ds := []) #[false, false, false, false, false, false, false, false, false, false, false, false, false, false, false] (by kernel_rfl) rfl rfl ⟨x0, x1, y0, y1⟩ (fun hHeld => ?_)
    refine take_ (i := 0) (N := some 24) (v := ?_) (a' := ?_) #[true, false, false, false, false, false, false, false, false, false, false, false, false, false, false] rfl rfl (by kernel_rfl) (fun _ _ _ h => h) (Or.inl ⟨by rfl, ?_⟩) hHeld ?_ ?_
    rotate_left
    · rintro w' ⟨s0, s1, s2, s3⟩
      go_simp
      with_reducible rfl
    rotate_left
    · simp only [Act.put, List.setIfInBounds_toArray, List.set_cons_zero, List.set_cons_succ]
      rfl
    refine take_ (i := 3) (N := some 27) (v := ?_) (a' := ?_) #[true, false, false, true, false, false, false, false, false, false, false, false, false, false, false] rfl rfl (by kernel_rfl) (fun _ _ _ h => h) (Or.inl ⟨by rfl, ?_⟩) hHeld ?_ ?_
    rotate_left
    · rintro w' ⟨s0, s1, s2, s3⟩
      go_simp
      with_reducible rfl
    rotate_left
    · simp only [Act.put, List.setIfInBounds_toArray, List.set_cons_zero, List.set_cons_succ]
      rfl
    refine one_ (i := 1) (N := some 25) #[true, true, false, true, false, false, false, false, false, false, false, false, false, false, false] rfl rfl (by kernel_rfl) (by decide) (fun K hK => ?_)
    refine goes_ Try.func33 (by kernel_rfl) rfl #[.agg #[.slice A0 a.nodes.length c0, .slice A1 a.links.length c1]] (by rfl) rfl rfl (by simp only [List.map_toArray, List.map_cons, List.map_nil]; rfl) ?_
    with_reducible refine (HCK.out _ (b_drew HB4.out)).mono ?_
    rintro r z1 ⟨rfl, hz1⟩
    refine ⟨_, rfl, ?_⟩
    refine hK.out _ _ ⟨cell_of_below hz1 hHeld.1, cell_of_below hz1 hHeld.2.1, cell_of_below hz1 hHeld.2.2.1, cell_of_below hz1 hHeld.2.2.2⟩ (fun hHeld => ?_)
    clear hK K
    refine norm_ (a' := ?_) ?_ ?_
    rotate_left
    · show Act.put _ (some 25) _ = _
      simp only [Act.put, List.setIfInBounds_toArray, List.set_cons_zero, List.set_cons_succ]
      rfl
    refine pure_ (i := 2) (N := some 26) (v := ?_) (a' := ?_) #[true, true, true, true, false, false, false, false, false, false, false, false, false, false, false] rfl rfl (by kernel_rfl) (fun _ _ _ h => h) (Or.inl ⟨by rfl, ?_⟩) ?_ ?_
    rotate_left
    · intro w'
      go_simp
      with_reducible rfl
    rotate_left
    · simp only [Act.put, List.setIfInBounds_toArray, List.set_cons_zero, List.set_cons_succ]
      rfl
    refine one_ (i := 4) (N := some 28) #[true, true, true, true, true, false, false, false, false, false, false, false, false, false, false] rfl rfl (by kernel_rfl) (by decide) (fun K hK => ?_)
    refine goes_ Try.func34 (by kernel_rfl) rfl #[.agg #[.slice A0 a.nodes.length c0, .slice A1 a.links.length c1]] (by rfl) rfl rfl (by simp only [List.map_toArray, List.map_cons, List.map_nil]; rfl) ?_
    with_reducible refine (HRM.out _ (below_then (b_drew HB4.out) hz1)).mono ?_
    rintro r z2 ⟨rfl, hz2⟩
    refine ⟨_, rfl, ?_⟩
    refine hK.out _ _ ⟨cell_of_below hz2 hHeld.1, cell_of_below hz2 hHeld.2.1, cell_of_below hz2 hHeld.2.2.1, cell_of_below hz2 hHeld.2.2.2⟩ (fun hHeld => ?_)
    clear hK K
    refine norm_ (a' := ?_) ?_ ?_
    rotate_left
    · show Act.put _ (some 28) _ = _
      simp only [Act.put, List.setIfInBounds_toArray, List.set_cons_zero, List.set_cons_succ]
      rfl
    refine pure_ (i := 5) (N := some 29) (v := ?_) (a' := ?_) #[true, true, true, true, true, true, false, false, false, false, false, false, false, false, false] rfl rfl (by kernel_rfl) (fun _ _ _ h => h) (Or.inl ⟨by rfl, ?_⟩) ?_ ?_
    rotate_left
    · intro w'
      go_simp
      with_reducible rfl
    rotate_left
    · simp only [Act.put, List.setIfInBounds_toArray, List.set_cons_zero, List.set_cons_succ]
      rfl
    refine pure_ (i := 6) (N := some 30) (v := ?_) (a' := ?_) #[true, true, true, true, true, true, true, false, false, false, false, false, false, false, false] rfl rfl (by kernel_rfl) (fun _ _ _ h => h) (Or.inl ⟨by rfl, ?_⟩) ?_ ?_
    rotate_left
    · intro w'
      go_simp
      with_reducible rfl
    rotate_left
    · simp only [Act.put, List.setIfInBounds_toArray, List.set_cons_zero, List.set_cons_succ]
      rfl
    refine take_ (i := 7) (N := some 31) (v := ?_) (a' := ?_) #[true, true, true, true, true, true, true, true, false, false, false, false, false, false, false] rfl rfl (by kernel_rfl) (fun _ _ _ h => h) (Or.inl ⟨by rfl, ?_⟩) hHeld ?_ ?_
    rotate_left
    · rintro w' ⟨s0, s1, s2, s3⟩
      go_simp
      with_reducible rfl
    rotate_left
    · simp only [Act.put, List.setIfInBounds_toArray, List.set_cons_zero, List.set_cons_succ]
      rfl
    refine take_ (i := 8) (N := some 32) (v := ?_) (a' := ?_) #[true, true, true, true, true, true, true, true, true, false, false, false, false, false, false] rfl rfl (by kernel_rfl) (fun _ _ _ h => h) (Or.inl ⟨by rfl, ?_⟩) hHeld ?_ ?_
    rotate_left
    · rintro w' ⟨s0, s1, s2, s3⟩
      go_simp
      with_reducible rfl
    rotate_left
    · simp only [Act.put, List.setIfInBounds_toArray, List.set_cons_zero, List.set_cons_succ]
      rfl
    refine take_ (i := 10) (N := some 34) (v := ?_) (a' := ?_) #[true, true, true, true, true, true, true, true, true, false, true, false, false, false, false] rfl rfl (by kernel_rfl) (fun _ _ _ h => h) (Or.inl ⟨by rfl, ?_⟩) hHeld ?_ ?_
    rotate_left
    · rintro w' ⟨s0, s1, s2, s3⟩
      go_simp
      with_reducible rfl
    rotate_left
    · simp only [Act.put, List.setIfInBounds_toArray, List.set_cons_zero, List.set_cons_succ]
      rfl
    refine take_ (i := 11) (N := some 35) (v := ?_) (a' := ?_) #[true, true, true, true, true, true, true, true, true, false, true, true, false, false, false] rfl rfl (by kernel_rfl) (fun _ _ _ h => h) (Or.inl ⟨by rfl, ?_⟩) hHeld ?_ ?_
    rotate_left
    · rintro w' ⟨s0, s1, s2, s3⟩
      go_simp
      with_reducible rfl
    rotate_left
    · simp only [Act.put, List.setIfInBounds_toArray, List.set_cons_zero, List.set_cons_succ]
      rfl
    refine one_ (i := 9) (N := some 33) #[true, true, true, true, true, true, true, true, true, true, true, true, false, false, false] rfl rfl (by kernel_rfl) (by decide) (fun K hK => ?_)
    refine goes_ Try.func35 (by kernel_rfl) rfl #[.agg #[.slice A0 a.nodes.length c0, .slice A1 a.links.length c1], .agg #[.slice A2 b.nodes.length c2, .slice A3 b.links.length c3]] (by rfl) rfl rfl (by simp only [List.map_toArray, List.map_cons, List.map_nil]; rfl) ?_
    with_reducible refine (HVS.out _ (below_then (below_then (b_drew HB4.out) hz1) hz2)).mono ?_
    rintro r z3 ⟨rfl, hz3⟩
    refine ⟨_, rfl, ?_⟩
    refine hK.out _ _ ⟨cell_of_below hz3 hHeld.1, cell_of_below hz3 hHeld.2.1, cell_of_below hz3 hHeld.2.2.1, cell_of_below hz3 hHeld.2.2.2⟩ (fun hHeld => ?_)
    clear hK K
    refine norm_ (a' := ?_) ?_ ?_
    rotate_left
    · show Act.put _ (some 33) _ = _
      simp only [Act.put, List.setIfInBounds_toArray, List.set_cons_zero, List.set_cons_succ]
      rfl
    refine one_ (i := 12) (N := some 36) #[true, true, true, true, true, true, true, true, true, true, true, true, true, false, false] rfl rfl (by kernel_rfl) (by decide) (fun K hK => ?_)
    refine goes_ Try.func31 (by kernel_rfl) rfl #[.agg #[.slice A0 a.nodes.length c0, .slice A1 a.links.length c1], .agg #[.slice A2 b.nodes.length c2, .slice A3 b.links.length c3]] (by rfl) rfl rfl (by simp only [List.map_toArray, List.map_cons, List.map_nil]; rfl) ?_
    with_reducible refine (HRS.out _ (below_then (below_then (below_then (b_drew HB4.out) hz1) hz2) hz3)).mono ?_
    rintro r z4 ⟨rfl, hz4⟩
    refine ⟨_, rfl, ?_⟩
    refine hK.out _ _ ⟨cell_of_below hz4 hHeld.1, cell_of_below hz4 hHeld.2.1, cell_of_below hz4 hHeld.2.2.1, cell_of_below hz4 hHeld.2.2.2⟩ (fun hHeld => ?_)
    clear hK K
    refine norm_ (a' := ?_) ?_ ?_
    rotate_left
    · show Act.put _ (some 36) _ = _
      simp only [Act.put, List.setIfInBounds_toArray, List.set_cons_zero, List.set_cons_succ]
      rfl
    refine pure_ (i := 13) (N := some 37) (v := ?_) (a' := ?_) #[true, true, true, true, true, true, true, true, true, true, true, true, true, true, false] rfl rfl (by kernel_rfl) (fun _ _ _ h => h) (Or.inl ⟨by rfl, ?_⟩) ?_ ?_
    rotate_left
    · intro w'
      go_simp
      with_reducible rfl
    rotate_left
    · simp only [Act.put, List.setIfInBounds_toArray, List.set_cons_zero, List.set_cons_succ]
      rfl
    refine pure_ (i := 14) (N := some 38) (v := ?_) (a' := ?_) #[true, true, true, true, true, true, true, true, true, true, true, true, true, true, true] rfl rfl (by kernel_rfl) (fun _ _ _ h => h) (Or.inl ⟨by rfl, ?_⟩) ?_ ?_
    rotate_left
    · intro w'
      go_simp
      with_reducible rfl
    rotate_left
    · simp only [Act.put, List.setIfInBounds_toArray, List.set_cons_zero, List.set_cons_succ]
      rfl
    refine done_ (by kernel_rfl) ?_
    try simp only [Exit.then]
    have hb44 : Below W4.heap.size W4 z4 := below_then (b_drew (Below.refl W4.heap.size W4)) (below_then hz1 (below_then hz2 (below_then hz3 hz4)))
    have HB5 := Lib.hid (below_then HB4.out hb44)
    have HKV5 := Lib.hid (block_of_below HKV.out hb44)
    have HRV5 := Lib.hid (HRV.out.below hb44)
    clear hz1 hz2 hz3 hz4 hb44 x0 x1 y0 y1 HVS HRS HCK
    obtain ⟨x0, x1, y0, y1⟩ := HCE.out z4 HB5.out
    go_wp2_with fail
    go_at_call 34; refine (HRM.out _ HB5.out).mono ?_; rintro e w6 ⟨rfl, hb6⟩
    have HB6 := Lib.hid (below_then HB5.out hb6)
    have hkv := block_of_below HKV5.out hb6
    have v0 := cell_in hkv 0 _ rfl
    have v1 := cell_in hkv 1 _ rfl
    have hs := refSameV_c ⟨[], []⟩ ⟨[], []⟩ _ _ _ _ w6 (HRV5.out.below hb6) (RdV.nil w6)
    rw [show sameV ⟨[], []⟩ ⟨[], []⟩ = true from rfl] at hs
    have HS := Lib.hid hs
    clear hb6 hkv hs
    go_wp2_with fail
    go_at_call 31; refine HS.out.mono ?_; rintro e w7 ⟨rfl, hb7⟩
    have HB7 := Lib.hid (below_then HB6.out hb7)
    clear hb7
    go_wp2_with fail
    go_at_call 29; refine (awake09_c _).mono ?_; rintro e w8 ⟨rfl, hb8⟩
    go_wp2_with fail
    go_ret
    exact ⟨rfl, below_then HBW.out (below_then HB7.out hb8)⟩
  · rw [hma] at hck hrm
    have HCK := Lib.hid hck
    have HRM := Lib.hid hrm
    have HMA := Lib.hid hma
    clear hck hrm hma
    have dd : (eArg true == 0) = true := rfl
    refine start_ (n := 15) (S := fun w' => w'.cell? ⟨BX, 0, none⟩ = some (.slice A0 a.nodes.length c0) ∧ w'.cell? ⟨BX, 1, none⟩ = some (.slice A1 a.links.length c1) ∧ w'.cell? ⟨BX + 1, 0, none⟩ = some (.slice A2 b.nodes.length c2) ∧ w'.cell? ⟨BX + 1, 1, none⟩ = some (.slice A3 b.links.length c3)) (ds := []) #[false, false, false, false, false, false, false, false, false, false, false, false, false, false, false] (by kernel_rfl) rfl rfl ⟨x0, x1, y0, y1⟩ (fun hHeld => ?_)
    refine take_ (i := 0) (N := some 24) (v := ?_) (a' := ?_) #[true, false, false, false, false, false, false, false, false, false, false, false, false, false, false] rfl rfl (by kernel_rfl) (fun _ _ _ h => h) (Or.inl ⟨by rfl, ?_⟩) hHeld ?_ ?_
    rotate_left
    · rintro w' ⟨s0, s1, s2, s3⟩
      go_simp
      with_reducible rfl
    rotate_left
    · simp only [Act.put, List.setIfInBounds_toArray, List.set_cons_zero, List.set_cons_succ]
      rfl
    refine take_ (i := 3) (N := some 27) (v := ?_) (a' := ?_) #[true, false, false, true, false, false, false, false, false, false, false, false, false, false, false] rfl rfl (by kernel_rfl) (fun _ _ _ h => h) (Or.inl ⟨by rfl, ?_⟩) hHeld ?_ ?_
    rotate_left
    · rintro w' ⟨s0, s1, s2, s3⟩
      go_simp
      with_reducible rfl
    rotate_left
    · simp only [Act.put, List.setIfInBounds_toArray, List.set_cons_zero, List.set_cons_succ]
      rfl
    refine one_ (i := 1) (N := some 25) #[true, true, false, true, false, false, false, false, false, false, false, false, false, false, false] rfl rfl (by kernel_rfl) (by decide) (fun K hK => ?_)
    refine goes_ Try.func33 (by kernel_rfl) rfl #[.agg #[.slice A0 a.nodes.length c0, .slice A1 a.links.length c1]] (by rfl) rfl rfl (by simp only [List.map_toArray, List.map_cons, List.map_nil]; rfl) ?_
    with_reducible refine (HCK.out _ (b_drew HB4.out)).mono ?_
    rintro r z1 ⟨rfl, hz1⟩
    refine ⟨_, rfl, ?_⟩
    refine hK.out _ _ ⟨cell_of_below hz1 hHeld.1, cell_of_below hz1 hHeld.2.1, cell_of_below hz1 hHeld.2.2.1, cell_of_below hz1 hHeld.2.2.2⟩ (fun hHeld => ?_)
    clear hK K
    refine norm_ (a' := ?_) ?_ ?_
    rotate_left
    · show Act.put _ (some 25) _ = _
      simp only [Act.put, List.setIfInBounds_toArray, List.set_cons_zero, List.set_cons_succ]
      rfl
    refine pure_ (i := 2) (N := some 26) (v := ?_) (a' := ?_) #[true, true, true, true, false, false, false, false, false, false, false, false, false, false, false] rfl rfl (by kernel_rfl) (fun _ _ _ h => h) (Or.inl ⟨by rfl, ?_⟩) ?_ ?_
    rotate_left
    · intro w'
      go_simp
      with_reducible rfl
    rotate_left
    · simp only [Act.put, List.setIfInBounds_toArray, List.set_cons_zero, List.set_cons_succ]
      rfl
    refine one_ (i := 4) (N := some 28) #[true, true, true, true, true, false, false, false, false, false, false, false, false, false, false] rfl rfl (by kernel_rfl) (by decide) (fun K hK => ?_)
    refine goes_ Try.func34 (by kernel_rfl) rfl #[.agg #[.slice A0 a.nodes.length c0, .slice A1 a.links.length c1]] (by rfl) rfl rfl (by simp only [List.map_toArray, List.map_cons, List.map_nil]; rfl) ?_
    with_reducible refine (HRM.out _ (below_then (b_drew HB4.out) hz1)).mono ?_
    rintro r z2 ⟨rfl, hz2⟩
    refine ⟨_, rfl, ?_⟩
    refine hK.out _ _ ⟨cell_of_below hz2 hHeld.1, cell_of_below hz2 hHeld.2.1, cell_of_below hz2 hHeld.2.2.1, cell_of_below hz2 hHeld.2.2.2⟩ (fun hHeld => ?_)
    clear hK K
    refine norm_ (a' := ?_) ?_ ?_
    rotate_left
    · show Act.put _ (some 28) _ = _
      simp only [Act.put, List.setIfInBounds_toArray, List.set_cons_zero, List.set_cons_succ]
      rfl
    refine pure_ (i := 5) (N := some 29) (v := ?_) (a' := ?_) #[true, true, true, true, true, true, false, false, false, false, false, false, false, false, false] rfl rfl (by kernel_rfl) (fun _ _ _ h => h) (Or.inl ⟨by rfl, ?_⟩) ?_ ?_
    rotate_left
    · intro w'
      go_simp
      with_reducible rfl
    rotate_left
    · simp only [Act.put, List.setIfInBounds_toArray, List.set_cons_zero, List.set_cons_succ]
      rfl
    refine pure_ (i := 6) (N := some 30) (v := ?_) (a' := ?_) #[true, true, true, true, true, true, true, false, false, false, false, false, false, false, false] rfl rfl (by kernel_rfl) (fun _ _ _ h => h) (Or.inl ⟨by rfl, ?_⟩) ?_ ?_
    rotate_left
    · intro w'
      go_simp
      with_reducible rfl
    rotate_left
    · simp only [Act.put, List.setIfInBounds_toArray, List.set_cons_zero, List.set_cons_succ]
      rfl
    refine take_ (i := 7) (N := some 31) (v := ?_) (a' := ?_) #[true, true, true, true, true, true, true, true, false, false, false, false, false, false, false] rfl rfl (by kernel_rfl) (fun _ _ _ h => h) (Or.inl ⟨by rfl, ?_⟩) hHeld ?_ ?_
    rotate_left
    · rintro w' ⟨s0, s1, s2, s3⟩
      go_simp
      with_reducible rfl
    rotate_left
    · simp only [Act.put, List.setIfInBounds_toArray, List.set_cons_zero, List.set_cons_succ]
      rfl
    refine take_ (i := 8) (N := some 32) (v := ?_) (a' := ?_) #[true, true, true, true, true, true, true, true, true, false, false, false, false, false, false] rfl rfl (by kernel_rfl) (fun _ _ _ h => h) (Or.inl ⟨by rfl, ?_⟩) hHeld ?_ ?_
    rotate_left
    · rintro w' ⟨s0, s1, s2, s3⟩
      go_simp
      with_reducible rfl
    rotate_left
    · simp only [Act.put, List.setIfInBounds_toArray, List.set_cons_zero, List.set_cons_succ]
      rfl
    refine take_ (i := 10) (N := some 34) (v := ?_) (a' := ?_) #[true, true, true, true, true, true, true, true, true, false, true, false, false, false, false] rfl rfl (by kernel_rfl) (fun _ _ _ h => h) (Or.inl ⟨by rfl, ?_⟩) hHeld ?_ ?_
    rotate_left
    · rintro w' ⟨s0, s1, s2, s3⟩
      go_simp
      with_reducible rfl
    rotate_left
    · simp only [Act.put, List.setIfInBounds_toArray, List.set_cons_zero, List.set_cons_succ]
      rfl
    refine take_ (i := 11) (N := some 35) (v := ?_) (a' := ?_) #[true, true, true, true, true, true, true, true, true, false, true, true, false, false, false] rfl rfl (by kernel_rfl) (fun _ _ _ h => h) (Or.inl ⟨by rfl, ?_⟩) hHeld ?_ ?_
    rotate_left
    · rintro w' ⟨s0, s1, s2, s3⟩
      go_simp
      with_reducible rfl
    rotate_left
    · simp only [Act.put, List.setIfInBounds_toArray, List.set_cons_zero, List.set_cons_succ]
      rfl
    refine one_ (i := 9) (N := some 33) #[true, true, true, true, true, true, true, true, true, true, true, true, false, false, false] rfl rfl (by kernel_rfl) (by decide) (fun K hK => ?_)
    refine goes_ Try.func35 (by kernel_rfl) rfl #[.agg #[.slice A0 a.nodes.length c0, .slice A1 a.links.length c1], .agg #[.slice A2 b.nodes.length c2, .slice A3 b.links.length c3]] (by rfl) rfl rfl (by simp only [List.map_toArray, List.map_cons, List.map_nil]; rfl) ?_
    with_reducible refine (HVS.out _ (below_then (below_then (b_drew HB4.out) hz1) hz2)).mono ?_
    rintro r z3 ⟨rfl, hz3⟩
    refine ⟨_, rfl, ?_⟩
    refine hK.out _ _ ⟨cell_of_below hz3 hHeld.1, cell_of_below hz3 hHeld.2.1, cell_of_below hz3 hHeld.2.2.1, cell_of_below hz3 hHeld.2.2.2⟩ (fun hHeld => ?_)
    clear hK K
    refine norm_ (a' := ?_) ?_ ?_
    rotate_left
    · show Act.put _ (some 33) _ = _
      simp only [Act.put, List.setIfInBounds_toArray, List.set_cons_zero, List.set_cons_succ]
      rfl
    refine one_ (i := 12) (N := some 36) #[true, true, true, true, true, true, true, true, true, true, true, true, true, false, false] rfl rfl (by kernel_rfl) (by decide) (fun K hK => ?_)
    refine goes_ Try.func31 (by kernel_rfl) rfl #[.agg #[.slice A0 a.nodes.length c0, .slice A1 a.links.length c1], .agg #[.slice A2 b.nodes.length c2, .slice A3 b.links.length c3]] (by rfl) rfl rfl (by simp only [List.map_toArray, List.map_cons, List.map_nil]; rfl) ?_
    with_reducible refine (HRS.out _ (below_then (below_then (below_then (b_drew HB4.out) hz1) hz2) hz3)).mono ?_
    rintro r z4 ⟨rfl, hz4⟩
    refine ⟨_, rfl, ?_⟩
    refine hK.out _ _ ⟨cell_of_below hz4 hHeld.1, cell_of_below hz4 hHeld.2.1, cell_of_below hz4 hHeld.2.2.1, cell_of_below hz4 hHeld.2.2.2⟩ (fun hHeld => ?_)
    clear hK K
    refine norm_ (a' := ?_) ?_ ?_
    rotate_left
    · show Act.put _ (some 36) _ = _
      simp only [Act.put, List.setIfInBounds_toArray, List.set_cons_zero, List.set_cons_succ]
      rfl
    refine pure_ (i := 13) (N := some 37) (v := ?_) (a' := ?_) #[true, true, true, true, true, true, true, true, true, true, true, true, true, true, false] rfl rfl (by kernel_rfl) (fun _ _ _ h => h) (Or.inl ⟨by rfl, ?_⟩) ?_ ?_
    rotate_left
    · intro w'
      go_simp
      with_reducible rfl
    rotate_left
    · simp only [Act.put, List.setIfInBounds_toArray, List.set_cons_zero, List.set_cons_succ]
      rfl
    refine pure_ (i := 14) (N := some 38) (v := ?_) (a' := ?_) #[true, true, true, true, true, true, true, true, true, true, true, true, true, true, true] rfl rfl (by kernel_rfl) (fun _ _ _ h => h) (Or.inl ⟨by rfl, ?_⟩) ?_ ?_
    rotate_left
    · intro w'
      go_simp
      with_reducible rfl
    rotate_left
    · simp only [Act.put, List.setIfInBounds_toArray, List.set_cons_zero, List.set_cons_succ]
      rfl
    refine done_ (by kernel_rfl) ?_
    try simp only [Exit.then]
    have hb44 : Below W4.heap.size W4 z4 := below_then (b_drew (Below.refl W4.heap.size W4)) (below_then hz1 (below_then hz2 (below_then hz3 hz4)))
    have HB5 := Lib.hid (below_then HB4.out hb44)
    have HKV5 := Lib.hid (block_of_below HKV.out hb44)
    have HRV5 := Lib.hid (HRV.out.below hb44)
    clear hz1 hz2 hz3 hz4 hb44 x0 x1 y0 y1 HVS HRS HCK
    obtain ⟨x0, x1, y0, y1⟩ := HCE.out z4 HB5.out
    cases hmb : mayV b
    · rw [hmb] at hrb
      have HRMB := Lib.hid hrb
      have hq := Q1.out (by rw [HMA.out, hmb]; rfl)
      obtain ⟨rfl, rfl⟩ := hq
      clear hrb hmb Q1 Q2 Q3
      go_wp2_with fail
      go_at_call 34; refine (HRM.out _ HB5.out).mono ?_; rintro e w5 ⟨rfl, hb5⟩
      have HB55 := Lib.hid (below_then HB5.out hb5)
      have HKV6 := Lib.hid (block_of_below HKV5.out hb5)
      have HRV6 := Lib.hid (HRV5.out.below hb5)
      obtain ⟨x0, x1, y0, y1⟩ := HCE.out w5 HB55.out
      clear hb5
      go_wp2_with fail
      go_at_call 34; refine (HRMB.out _ HB55.out).mono ?_; rintro e w6 ⟨rfl, hb6⟩
      have HB6 := Lib.hid (below_then HB55.out hb6)
      have hkv := block_of_below HKV6.out hb6
      have v0 := cell_in hkv 0 _ rfl
      have v1 := cell_in hkv 1 _ rfl
      have hs := refSameV_c ⟨[], []⟩ ⟨[], []⟩ _ _ _ _ w6 (HRV6.out.below hb6) (RdV.nil w6)
      rw [show sameV ⟨[], []⟩ ⟨[], []⟩ = true from rfl] at hs
      have HS := Lib.hid hs
      clear hb6 hkv hs
      go_wp2_with fail
      go_at_call 31; refine HS.out.mono ?_; rintro e w7 ⟨rfl, hb7⟩
      have HB7 := Lib.hid (below_then HB6.out hb7)
      clear hb7
      go_wp2_with fail
      go_at_call 29; refine (awake09_c _).mono ?_; rintro e w8 ⟨rfl, hb8⟩
      go_wp2_with fail
      go_ret
      exact ⟨rfl, below_then HBW.out (below_then HB7.out hb8)⟩
    · rw [hmb] at hrb
      have HRMB := Lib.hid hrb
      have HMB := Lib.hid hmb
      clear hrb hmb
      go_wp2_with fail
      go_at_call 34; refine (HRM.out _ HB5.out).mono ?_; rintro e w5 ⟨rfl, hb5⟩
      have HB55 := Lib.hid (below_then HB5.out hb5)
      have HKV6 := Lib.hid (block_of_below HKV5.out hb5)
      have HRV6 := Lib.hid (HRV5.out.below hb5)
      obtain ⟨x0, x1, y0, y1⟩ := HCE.out w5 HB55.out
      clear hb5
      go_wp2_with fail
      go_at_call 34; refine (HRMB.out _ HB55.out).mono ?_; rintro e w6 ⟨rfl, hb6⟩
      have HB6 := Lib.hid (below_then HB55.out hb6)
      have HKV7 := Lib.hid (block_of_below HKV6.out hb6)
      have HRV7 := Lib.hid (HRV6.out.below hb6)
      clear hb6 x0 x1 y0 y1
      obtain ⟨x0, x1, y0, y1⟩ := HCE.out w6 HB6.out
      have hMa := may_iff.1 HMA.out
      have hMb := may_iff.1 HMB.out
      have hce := rmClash_eq (a := a) (b := b) hMa
      go_wp2_with fail
      go_at_call 36; refine (refMergeV_c a b _ _ _ _ w6 (HRA.out _ HB6.out) (HRB.out _ HB6.out) (by omega) (by omega)).mono ?_; rintro e w7 ⟨hb7, hr1, hr2⟩
      have HB7 := Lib.hid (below_then HB6.out hb7)
      have HKV8 := Lib.hid (block_of_below HKV7.out hb7)
      have HRV8 := Lib.hid (HRV7.out.below hb7)
      clear hb7 x0 x1 y0 y1
      cases hap : apartV a b
      · rw [hap] at hce
        obtain rfl := hr1 hce
        obtain ⟨rfl, rfl⟩ := Q2.out HMA.out HMB.out hap
        clear hr1 hr2 hce hap hMa hMb Q1 Q2 Q3
        have hkv := heap_alloc_old w7 (.cells #[.slice none 0 0, .slice none 0 0] 43) (Array.getElem?_eq_some_iff.1 HKV8.out).1
        have hkv2 := hkv.trans HKV8.out
        have v0 := cell_in hkv2 0 _ rfl
        have v1 := cell_in hkv2 1 _ rfl
        have hba := (Below.refl w7.heap.size w7).alloc (Nat.le_refl _) (.cells #[.slice none 0 0, .slice none 0 0] 43)
        have hs := refSameV_c ⟨[], []⟩ ⟨[], []⟩ _ _ _ _ _ (HRV8.out.below hba) (RdV.nil _)
        rw [show sameV ⟨[], []⟩ ⟨[], []⟩ = true from rfl] at hs
        have HS := Lib.hid hs
        have HB8 := Lib.hid (below_then HB7.out hba)
        clear hkv hkv2 hba hs
        go_wp2_with fail
        go_at_call 31; refine HS.out.mono ?_; rintro e w8 ⟨rfl, hb8⟩
        have HB9 := Lib.hid (below_then HB8.out hb8)
        clear hb8
        go_wp2_with fail
        go_at_call 29; refine (awake09_c _).mono ?_; rintro e w9 ⟨rfl, hb9⟩
        go_wp2_with fail
        go_ret
        exact ⟨rfl, below_then HBW.out (below_then HB9.out hb9)⟩
      · rw [hap] at hce
        obtain ⟨vn, vl, rfl, o1, o2⟩ := hr2 hce
        obtain ⟨hV, rfl⟩ := Q3.out HMA.out HMB.out hap
        rw [rmNodes_eq hMa hMb hap] at o1
        rw [rmLinks_eq hMa hMb hap] at o2
        have r1 := o1.rd encI_len
        have r2 := o2.rd encK_len
        obtain ⟨An, dn, rfl, _, _, _⟩ := o1.rd encI_len
        obtain ⟨Al, dl, rfl, _, _, _⟩ := o2.rd encK_len
        have hrw : RdV w7 (.slice An (mergeV a b).nodes.length dn) (.slice Al (mergeV a b).links.length dl) (mergeV a b) := ⟨r1, r2⟩
        obtain ⟨M, hM⟩ : ∃ M, mergeV a b = M := ⟨_, rfl⟩
        rw [hM] at hV hrw
        rw [hM]
        subst hV
        clear hr1 hr2 hce hap hMa hMb Q1 Q2 Q3 o1 o2 r1 r2 hM
        have hkv := heap_alloc_old w7 (.cells #[.slice An V.nodes.length dn, .slice Al V.links.length dl] 43) (Array.getElem?_eq_some_iff.1 HKV8.out).1
        have hkv2 := hkv.trans HKV8.out
        have v0 := cell_in hkv2 0 _ rfl
        have v1 := cell_in hkv2 1 _ rfl
        have hba := (Below.refl w7.heap.size w7).alloc (Nat.le_refl _) (.cells #[.slice An V.nodes.length dn, .slice Al V.links.length dl] 43)
        have hs := refSameV_c V V _ _ _ _ _ (HRV8.out.below hba) (hrw.below hba)
        rw [sameV_iff.2 rfl] at hs
        have HS := Lib.hid hs
        have HB8 := Lib.hid (below_then HB7.out hba)
        clear hkv hkv2 hba hs hrw
        go_wp2_with fail
        go_at_call 31; refine HS.out.mono ?_; rintro e w8 ⟨rfl, hb8⟩
        have HB9 := Lib.hid (below_then HB8.out hb8)
        clear hb8
        go_wp2_with fail
        go_at_call 29; refine (awake09_c _).mono ?_; rintro e w9 ⟨rfl, hb9⟩
        go_wp2_with fail
        go_ret
        exact ⟨rfl, below_then HBW.out (below_then HB9.out hb9)⟩

end Go.Proofs.Ytandminldgiheaa
