/- Walk: view.Merge. -/
import Derived.Test.YtandminldgiheaaViewCheckW
import Derived.Test.YtandminldgiheaaConcatW
import Derived.Test.YtandminldgiheaaSortI
import Derived.Test.YtandminldgiheaaSortKW
import Derived.Test.YtandminldgiheaaWLast
import Derived.Laws.ResultCell
namespace Go.Proofs.Ytandminldgiheaa
open Go.RowKit Go.Proofs.YtandminldgiheaaW.PrintLast
attribute [local go_sem ↓] Go.wp_at_zero Go.wp_at_succ

def MergePost (a b : View) (w : World) (e : Ending) (w' : World) : Prop :=
  Below w.heap.size w w' ∧
  ((mayV a && mayV b) = false → e = .returned (.tuple #[.agg #[.slice none 0 0, .slice none 0 0], .int .i64 1])) ∧
  (mayV a = true → mayV b = true → apartV a b = false → e = .returned (.tuple #[.agg #[.slice none 0 0, .slice none 0 0], .int .i64 11])) ∧
  (mayV a = true → mayV b = true → apartV a b = true → ∃ vn vl, e = .returned (.tuple #[.agg #[vn, vl], .int .i64 0]) ∧ OwnI w' w.heap.size 3 vn (mergeV a b).nodes ∧ OwnK w' w.heap.size 51 vl (mergeV a b).links)

section
variable {a b : View} {w w' : World}
theorem MergePost.err1 (hB : Below w.heap.size w w') (h : (mayV a && mayV b) = false) : MergePost a b w (.returned (.tuple #[.agg #[.slice none 0 0, .slice none 0 0], .int .i64 1])) w' :=
  ⟨hB, fun _ => rfl, fun h1 h2 => (by rw [h1, h2] at h; cases h), fun h1 h2 => (by rw [h1, h2] at h; cases h)⟩
theorem MergePost.err11 (hB : Below w.heap.size w w') (h1 : mayV a = true) (h2 : mayV b = true) (h : apartV a b = false) : MergePost a b w (.returned (.tuple #[.agg #[.slice none 0 0, .slice none 0 0], .int .i64 11])) w' :=
  ⟨hB, fun h3 => (by rw [h1, h2] at h3; cases h3), fun _ _ _ => rfl, fun _ _ h4 => (by rw [h] at h4; cases h4)⟩
theorem MergePost.ok {vn vl : Value} (hB : Below w.heap.size w w') (h1 : mayV a = true) (h2 : mayV b = true) (h : apartV a b = true) (o1 : OwnI w' w.heap.size 3 vn (mergeV a b).nodes) (o2 : OwnK w' w.heap.size 51 vl (mergeV a b).links) :
    MergePost a b w (.returned (.tuple #[.agg #[vn, vl], .int .i64 0])) w' :=
  ⟨hB, fun h3 => (by rw [h1, h2] at h3; cases h3), fun _ _ h4 => (by rw [h] at h4; cases h4), fun _ _ _ => ⟨vn, vl, rfl, o1, o2⟩⟩
end

theorem concatI_s {b : Nat} {w : World} {v u : Value} (base : Nat) (l m : List Int) (_hb : base ≤ b) (hc : w.heap[b]? = some (.cells #[v, u] 39 (0, 0))) (hv : RdI w v l) (hu : RdI w u m) (hl : l.length ≤ 100000) (hm : m.length ≤ 100000) (hs : base ≤ w.heap.size) :
    Calls Try.prog 60 #[.slice (some ⟨b, 0, none⟩) 2 2] w fun e w' => ∃ A c, e = .returned (.slice A (l.length + m.length) c) ∧ OwnI w' base 3 (.slice A (l.length + m.length) c) (l ++ m) ∧ Below w.heap.size w w' :=
  (concatI_c l m v u b w (Array.getElem?_eq_some_iff.1 hc).1 (cell_in hc 0 _ rfl) (cell_in hc 1 _ rfl) hv hu hl hm).mono fun e w' ⟨⟨v', he, ho⟩, hB⟩ => by
    obtain ⟨A, c, rfl, _⟩ := ho.rd encI_len
    rw [List.length_append] at he ho
    exact ⟨A, c, he, ho.base_le hs, hB⟩
theorem concatK_s {b : Nat} {w : World} {v u : Value} (base : Nat) (l m : List Known) (_hb : base ≤ b) (hc : w.heap[b]? = some (.cells #[v, u] 41 (0, 0))) (hv : RdK w v l) (hu : RdK w u m) (hl : l.length ≤ 100000) (hm : m.length ≤ 100000) (hs : base ≤ w.heap.size) :
    Calls Try.prog 61 #[.slice (some ⟨b, 0, none⟩) 2 2] w fun e w' => ∃ A c, e = .returned (.slice A (l.length + m.length) c) ∧ OwnK w' base 51 (.slice A (l.length + m.length) c) (l ++ m) ∧ Below w.heap.size w w' :=
  (concatK_c l m v u b w (Array.getElem?_eq_some_iff.1 hc).1 (cell_in hc 0 _ rfl) (cell_in hc 1 _ rfl) hv hu hl hm).mono fun e w' ⟨⟨v', he, ho⟩, hB⟩ => by
    obtain ⟨A, c, rfl, _⟩ := ho.rd encK_len
    rw [List.length_append] at he ho
    exact ⟨A, c, he, ho.base_le hs, hB⟩

set_option maxRecDepth 100000 in
set_option maxHeartbeats 8000000 in
theorem viewMerge_c (a b : View) (an al bn bl : Value) (w : World) (ha : RdV w an al a) (hb : RdV w bn bl b) :
    Calls Try.prog 30 #[.agg #[an, al], .agg #[bn, bl]] w (MergePost a b w) := by
  have HA := Lib.hid ha
  have HB := Lib.hid hb
  obtain ⟨A0, c0, rfl, _, _, _⟩ := ha.1
  obtain ⟨A1, c1, rfl, _, _, _⟩ := ha.2
  obtain ⟨A2, c2, rfl, _, _, _⟩ := hb.1
  obtain ⟨A3, c3, rfl, _, _, _⟩ := hb.2
  clear ha hb
  have hca := fun w' (hq : Below w.heap.size w w') => viewCheck_c a _ _ w' (HA.out.below hq)
  have hcb := fun w' (hq : Below w.heap.size w w') => viewCheck_c b _ _ w' (HB.out.below hq)
  obtain ⟨W1, e1⟩ : ∃ W1, w.alloc (.cells #[.slice A0 a.nodes.length c0, .slice A1 a.links.length c1] 43) = W1 := ⟨_, rfl⟩
  have f1 := alloc_facts e1
  obtain ⟨W2, e2⟩ : ∃ W2, W1.alloc (.cells #[.slice A2 b.nodes.length c2, .slice A3 b.links.length c3] 43) = W2 := ⟨_, rfl⟩
  have f2 := alloc_facts e2
  obtain ⟨W, e3⟩ : ∃ W, W2.alloc (.cells #[.slice none 0 0, .slice none 0 0] 43) = W := ⟨_, rfl⟩
  have f3 := alloc_facts e3
  obtain ⟨BX, hBX⟩ : ∃ BX, w.heap.size = BX := ⟨_, rfl⟩
  have k0 := f3.2.2.2 _ _ (f2.2.2.2 _ _ f1.1)
  have k1 := f3.2.2.2 _ _ f2.1
  have k2 := f3.1
  have hb3 := below_then f1.2.2.1 (below_then f2.2.2.1 f3.2.2.1)
  have hs1 : W1.heap.size = BX + 1 := by rw [f1.2.1, hBX]
  have hs2 : W2.heap.size = BX + 1 + 1 := by rw [f2.2.1, hs1]
  have hsz : W.heap.size = BX + 1 + 1 + 1 := by rw [f3.2.1, hs2]
  rw [hs2] at k2
  rw [hs1] at k1
  rw [hBX] at k0 hca hcb hb3
  have HB3 := Lib.hid hb3
  have HCA := Lib.hid hca
  have HCB := Lib.hid hcb
  have HSZ := Lib.hid hsz
  have HBX := Lib.hid hBX
  have hcell : ∀ w', Below W.heap.size W w' → w'.cell? ⟨BX, 0, none⟩ = some (.slice A0 a.nodes.length c0) ∧ w'.cell? ⟨BX, 1, none⟩ = some (.slice A1 a.links.length c1) ∧ w'.cell? ⟨BX + 1, 0, none⟩ = some (.slice A2 b.nodes.length c2) ∧ w'.cell? ⟨BX + 1, 1, none⟩ = some (.slice A3 b.links.length c3) := fun w' hq => by
    have j0 := block_of_below k0 hq
    have j1 := block_of_below k1 hq
    exact ⟨cell_in j0 0 _ rfl, cell_in j0 1 _ rfl, cell_in j1 0 _ rfl, cell_in j1 1 _ rfl⟩
  have HCE := Lib.hid hcell
  have HK2 := Lib.hid k2
  clear f1 f2 f3 hb3 hca hcb hcell k0 k1 k2 hsz
  go_enter Try.func30, Try.ntmps30
  go_upto_region 1 with fail
  clear e1 e2 e3 hBX hs1 hs2
  obtain ⟨x0, x1, y0, y1⟩ := HCE.out W (Below.refl _ _)
  cases hma : mayV a
  · have hc := HCA.out W HB3.out
    rw [hma] at hc
    have HC := Lib.hid hc
    have HM := Lib.hid hma
    have z0 := cell_in HK2.out 0 _ rfl
    have z1 := cell_in HK2.out 1 _ rfl
    clear hc hma
    go_wp2_with fail
    go_at_call 33; refine HC.out.mono ?_; rintro e w1 ⟨rfl, hb1⟩
    have HB1 := Lib.hid hb1
    have hk2 := block_of_below HK2.out hb1
    clear hb1 z0 z1
    have z0 := cell_in hk2 0 _ rfl
    have z1 := cell_in hk2 1 _ rfl
    have r0 := frozen_of_row w1 (BX + 1 + 1) 0 _ _ hk2
    have r1 := frozen_of_row w1 (BX + 1 + 1) 1 _ _ hk2
    go_wp2_with fail
    (try simp only [Exit.inBlock, Exit.then])
    refine bodyPost_ret (v := .tuple #[.agg #[.slice none 0 0, .slice none 0 0], .int .i64 1]) ?_ rfl (MergePost.err1 ?_ (by rw [HM.out]; rfl))
    · rw [results_cell_tmp rfl]; go_simp
    · rw [HBX.out]
      exact ((HB3.out.trans (HB1.out.mono (by have := HSZ.out; omega))).setCell (by simp; omega) _).setCell (by simp; omega) _
  · have hc := HCA.out W HB3.out
    rw [hma] at hc
    have HC := Lib.hid hc
    have HM := Lib.hid hma
    clear hc hma
    cases hmb : mayV b
    · have hc2 := fun w' hq => HCB.out w' hq
      rw [hmb] at hc2
      have HC2 := Lib.hid hc2
      have HM2 := Lib.hid hmb
      clear hc2 hmb
      go_wp2_with fail
      go_at_call 33; refine HC.out.mono ?_; rintro e w1 ⟨rfl, hb1⟩
      have HB1 := Lib.hid hb1
      have HB13 := Lib.hid (HB3.out.trans (hb1.mono (by have := HSZ.out; omega)))
      obtain ⟨_, _, y0, y1⟩ := HCE.out w1 hb1
      clear hb1
      go_wp2_with fail
      go_at_call 33; refine (HC2.out _ HB13.out).mono ?_; rintro e w2 ⟨rfl, hb2⟩
      have hk2 := block_of_below HK2.out (below_then HB1.out hb2)
      have z0 := cell_in hk2 0 _ rfl
      have z1 := cell_in hk2 1 _ rfl
      have r0 := frozen_of_row w2 (BX + 1 + 1) 0 _ _ hk2
      have r1 := frozen_of_row w2 (BX + 1 + 1) 1 _ _ hk2
      have HB2 := Lib.hid (HB3.out.trans ((below_then HB1.out hb2).mono (by have := HSZ.out; omega)))
      clear hb2
      go_wp2_with fail
      (try simp only [Exit.inBlock, Exit.then])
      refine bodyPost_ret (v := .tuple #[.agg #[.slice none 0 0, .slice none 0 0], .int .i64 1]) ?_ rfl (MergePost.err1 ?_ (by rw [HM2.out, Bool.and_false]))
      · rw [results_cell_tmp rfl]; go_simp
      · rw [HBX.out]
        exact (HB2.out.setCell (by simp; omega) _).setCell (by simp; omega) _
    · have hc2 := fun w' hq => HCB.out w' hq
      rw [hmb] at hc2
      have HC2 := Lib.hid hc2
      have HM2 := Lib.hid hmb
      clear hc2 hmb
      go_wp2_with fail
      go_at_call 33; refine HC.out.mono ?_; rintro e w1 ⟨rfl, hb1⟩
      have HB1 := Lib.hid hb1
      have HB13 := Lib.hid (HB3.out.trans (hb1.mono (by have := HSZ.out; omega)))
      obtain ⟨_, _, y0, y1⟩ := HCE.out w1 hb1
      clear hb1
      go_wp2_with fail
      go_at_call 33; refine (HC2.out _ HB13.out).mono ?_; rintro e w2 ⟨rfl, hb2⟩
      have HB2 := Lib.hid (below_then HB1.out hb2)
      have HBw2 := Lib.hid (HB3.out.trans ((below_then HB1.out hb2).mono (by have := HSZ.out; omega)))
      clear hb2 y0 y1
      obtain ⟨x0, x1, y0, y1⟩ := HCE.out w2 HB2.out
      have hm1 := (may_iff.1 HM.out).small
      have hm2 := (may_iff.1 HM2.out).small
      have hl1 : a.nodes.length ≤ 100000 := by omega
      have hl2 : b.nodes.length ≤ 100000 := by omega
      have hl3 : a.links.length ≤ 100000 := by omega
      have hl4 : b.links.length ≤ 100000 := by omega
      have hra : ∀ w', Below w2.heap.size w2 w' → RdV w' (.slice A0 a.nodes.length c0) (.slice A1 a.links.length c1) a := fun w' hq => HA.out.below (by rw [HBX.out]; exact HBw2.out.trans (hq.mono (by have := HBw2.out.size; rw [HBX.out] at this; exact this)))
      have hrb : ∀ w', Below w2.heap.size w2 w' → RdV w' (.slice A2 b.nodes.length c2) (.slice A3 b.links.length c3) b := fun w' hq => HB.out.below (by rw [HBX.out]; exact HBw2.out.trans (hq.mono (by have := HBw2.out.size; rw [HBX.out] at this; exact this)))
      have HRA := Lib.hid hra
      have HRB := Lib.hid hrb
      clear hm1 hm2 hra hrb
      go_upto_region 3 with fail
      have hB := b_drew (Below.refl w2.heap.size w2)
      refine start_ (n := 15) (S := fun w' => w'.cell? ⟨BX, 0, none⟩ = some (.slice A0 a.nodes.length c0) ∧ w'.cell? ⟨BX, 1, none⟩ = some (.slice A1 a.links.length c1) ∧ w'.cell? ⟨BX + 1, 0, none⟩ = some (.slice A2 b.nodes.length c2) ∧ w'.cell? ⟨BX + 1, 1, none⟩ = some (.slice A3 b.links.length c3)) (ds := [14]) #[false, false, false, false, false, false, false, false, false, false, false, false, false, false, false] (by kernel_rfl) rfl rfl ⟨x0, x1, y0, y1⟩ (fun hHeld => ?_)
      refine pure_ (i := 0) (N := some 16) (v := ?_) (a' := ?_) #[true, false, false, false, false, false, false, false, false, false, false, false, false, false, false] rfl rfl (by kernel_rfl) (fun _ _ _ h => h) (Or.inl ⟨by rfl, ?_⟩) ?_ ?_
      rotate_left
      · intro w'
        go_simp
        with_reducible rfl
      rotate_left
      · simp only [Act.put, List.setIfInBounds_toArray, List.set_cons_zero, List.set_cons_succ]
        rfl
      refine pure_ (i := 2) (N := some 18) (v := ?_) (a' := ?_) #[true, false, true, false, false, false, false, false, false, false, false, false, false, false, false] rfl rfl (by kernel_rfl) (fun _ _ _ h => h) (Or.inl ⟨by rfl, ?_⟩) ?_ ?_
      rotate_left
      · intro w'
        go_simp
        with_reducible rfl
      rotate_left
      · simp only [Act.put, List.setIfInBounds_toArray, List.set_cons_zero, List.set_cons_succ]
        rfl
      refine pure_ (i := 6) (N := some 22) (v := ?_) (a' := ?_) #[true, false, true, false, false, false, true, false, false, false, false, false, false, false, false] rfl rfl (by kernel_rfl) (fun _ _ _ h => h) (Or.inl ⟨by rfl, ?_⟩) ?_ ?_
      rotate_left
      · intro w'
        go_simp
        with_reducible rfl
      rotate_left
      · simp only [Act.put, List.setIfInBounds_toArray, List.set_cons_zero, List.set_cons_succ]
        rfl
      refine pure_ (i := 8) (N := some 24) (v := ?_) (a' := ?_) #[true, false, true, false, false, false, true, false, true, false, false, false, false, false, false] rfl rfl (by kernel_rfl) (fun _ _ _ h => h) (Or.inl ⟨by rfl, ?_⟩) ?_ ?_
      rotate_left
      · intro w'
        go_simp
        with_reducible rfl
      rotate_left
      · simp only [Act.put, List.setIfInBounds_toArray, List.set_cons_zero, List.set_cons_succ]
        rfl
      refine take_ (i := 1) (N := some 17) (v := ?_) (a' := ?_) #[true, true, true, false, false, false, true, false, true, false, false, false, false, false, false] rfl rfl (by kernel_rfl) (fun _ _ _ h => h) (Or.inl ⟨by rfl, ?_⟩) hHeld ?_ ?_
      rotate_left
      · rintro w' ⟨s0, s1, s2, s3⟩
        go_simp
        with_reducible rfl
      rotate_left
      · simp only [Act.put, List.setIfInBounds_toArray, List.set_cons_zero, List.set_cons_succ]
        rfl
      refine take_ (i := 3) (N := some 19) (v := ?_) (a' := ?_) #[true, true, true, true, false, false, true, false, true, false, false, false, false, false, false] rfl rfl (by kernel_rfl) (fun _ _ _ h => h) (Or.inl ⟨by rfl, ?_⟩) hHeld ?_ ?_
      rotate_left
      · rintro w' ⟨s0, s1, s2, s3⟩
        go_simp
        with_reducible rfl
      rotate_left
      · simp only [Act.put, List.setIfInBounds_toArray, List.set_cons_zero, List.set_cons_succ]
        rfl
      refine take_ (i := 7) (N := some 23) (v := ?_) (a' := ?_) #[true, true, true, true, false, false, true, true, true, false, false, false, false, false, false] rfl rfl (by kernel_rfl) (fun _ _ _ h => h) (Or.inl ⟨by rfl, ?_⟩) hHeld ?_ ?_
      rotate_left
      · rintro w' ⟨s0, s1, s2, s3⟩
        go_simp
        with_reducible rfl
      rotate_left
      · simp only [Act.put, List.setIfInBounds_toArray, List.set_cons_zero, List.set_cons_succ]
        rfl
      refine take_ (i := 9) (N := some 25) (v := ?_) (a' := ?_) #[true, true, true, true, false, false, true, true, true, true, false, false, false, false, false] rfl rfl (by kernel_rfl) (fun _ _ _ h => h) (Or.inl ⟨by rfl, ?_⟩) hHeld ?_ ?_
      rotate_left
      · rintro w' ⟨s0, s1, s2, s3⟩
        go_simp
        with_reducible rfl
      rotate_left
      · simp only [Act.put, List.setIfInBounds_toArray, List.set_cons_zero, List.set_cons_succ]
        rfl
      refine join_ (σ := Nat × Option Addr × Nat × Nat × Option Addr × Nat × Nat) 1 #[true, true, true, true, true, true, true, true, true, true, true, true, true, true, false] (fun s => [(20, .slice (some ⟨s.1, 0, none⟩) 2 2), (21, .slice s.2.1 (a.nodes.length + b.nodes.length) s.2.2.1), (26, .slice (some ⟨s.2.2.2.1, 0, none⟩) 2 2), (27, .slice s.2.2.2.2.1 (a.links.length + b.links.length) s.2.2.2.2.2.1), (6, .pointer (some ⟨s.2.2.2.2.2.2, 0, none⟩)), (28, .agg #[.slice s.2.1 (a.nodes.length + b.nodes.length) s.2.2.1, .slice s.2.2.2.2.1 (a.links.length + b.links.length) s.2.2.2.2.2.1])]) (fun s w' => Below w2.heap.size w2 w' ∧ (w2.heap.size ≤ s.1 ∧ w'.heap[s.1]? = some (.cells #[.slice A0 a.nodes.length c0, .slice A2 b.nodes.length c2] 39 (0, 0))) ∧ (OwnI w' w2.heap.size 3 (.slice s.2.1 (a.nodes.length + b.nodes.length) s.2.2.1) (a.nodes ++ b.nodes)) ∧ (w2.heap.size ≤ s.2.2.2.1 ∧ w'.heap[s.2.2.2.1]? = some (.cells #[.slice A1 a.links.length c1, .slice A3 b.links.length c3] 41 (0, 0))) ∧ (OwnK w' w2.heap.size 51 (.slice s.2.2.2.2.1 (a.links.length + b.links.length) s.2.2.2.2.2.1) (a.links ++ b.links)) ∧ (w2.heap.size ≤ s.2.2.2.2.2.2 ∧ w'.heap[s.2.2.2.2.2.2]? = some (.cells #[.slice none 0 0, .slice none 0 0] 43 (0, 0)))) ?_ ?_
      rotate_left
      · intro hJ4_5_10_11_13
        refine join_ (σ := Nat × Option Addr × Nat × Nat × Option Addr × Nat × Nat) 2 #[true, true, true, true, true, true, true, true, true, true, true, true, true, false, false] (fun s => [(20, .slice (some ⟨s.1, 0, none⟩) 2 2), (21, .slice s.2.1 (a.nodes.length + b.nodes.length) s.2.2.1), (26, .slice (some ⟨s.2.2.2.1, 0, none⟩) 2 2), (27, .slice s.2.2.2.2.1 (a.links.length + b.links.length) s.2.2.2.2.2.1), (28, .agg #[.slice s.2.1 (a.nodes.length + b.nodes.length) s.2.2.1, .slice s.2.2.2.2.1 (a.links.length + b.links.length) s.2.2.2.2.2.1])]) (fun s w' => Below w2.heap.size w2 w' ∧ (w2.heap.size ≤ s.1 ∧ w'.heap[s.1]? = some (.cells #[.slice A0 a.nodes.length c0, .slice A2 b.nodes.length c2] 39 (0, 0))) ∧ (OwnI w' w2.heap.size 3 (.slice s.2.1 (a.nodes.length + b.nodes.length) s.2.2.1) (a.nodes ++ b.nodes)) ∧ (w2.heap.size ≤ s.2.2.2.1 ∧ w'.heap[s.2.2.2.1]? = some (.cells #[.slice A1 a.links.length c1, .slice A3 b.links.length c3] 41 (0, 0))) ∧ (OwnK w' w2.heap.size 51 (.slice s.2.2.2.2.1 (a.links.length + b.links.length) s.2.2.2.2.2.1) (a.links ++ b.links))) ?_ ?_
        rotate_left
        · intro hJ4_5_10_11
          refine join_ (σ := Nat × Option Addr × Nat × Nat × Option Addr × Nat × Nat) 3 #[true, true, true, true, true, true, true, true, true, true, true, false, false, true, false] (fun s => [(20, .slice (some ⟨s.1, 0, none⟩) 2 2), (21, .slice s.2.1 (a.nodes.length + b.nodes.length) s.2.2.1), (26, .slice (some ⟨s.2.2.2.1, 0, none⟩) 2 2), (6, .pointer (some ⟨s.2.2.2.2.2.2, 0, none⟩))]) (fun s w' => Below w2.heap.size w2 w' ∧ (w2.heap.size ≤ s.1 ∧ w'.heap[s.1]? = some (.cells #[.slice A0 a.nodes.length c0, .slice A2 b.nodes.length c2] 39 (0, 0))) ∧ (OwnI w' w2.heap.size 3 (.slice s.2.1 (a.nodes.length + b.nodes.length) s.2.2.1) (a.nodes ++ b.nodes)) ∧ (w2.heap.size ≤ s.2.2.2.1 ∧ w'.heap[s.2.2.2.1]? = some (.cells #[.slice A1 a.links.length c1, .slice A3 b.links.length c3] 41 (0, 0))) ∧ (w2.heap.size ≤ s.2.2.2.2.2.2 ∧ w'.heap[s.2.2.2.2.2.2]? = some (.cells #[.slice none 0 0, .slice none 0 0] 43 (0, 0)))) ?_ ?_
          rotate_left
          · intro hJ4_5_10_13
            refine join_ (σ := Nat × Option Addr × Nat × Nat × Option Addr × Nat × Nat) 4 #[true, true, true, true, true, true, true, true, true, true, true, false, false, false, false] (fun s => [(20, .slice (some ⟨s.1, 0, none⟩) 2 2), (21, .slice s.2.1 (a.nodes.length + b.nodes.length) s.2.2.1), (26, .slice (some ⟨s.2.2.2.1, 0, none⟩) 2 2)]) (fun s w' => Below w2.heap.size w2 w' ∧ (w2.heap.size ≤ s.1 ∧ w'.heap[s.1]? = some (.cells #[.slice A0 a.nodes.length c0, .slice A2 b.nodes.length c2] 39 (0, 0))) ∧ (OwnI w' w2.heap.size 3 (.slice s.2.1 (a.nodes.length + b.nodes.length) s.2.2.1) (a.nodes ++ b.nodes)) ∧ (w2.heap.size ≤ s.2.2.2.1 ∧ w'.heap[s.2.2.2.1]? = some (.cells #[.slice A1 a.links.length c1, .slice A3 b.links.length c3] 41 (0, 0)))) ?_ ?_
            rotate_left
            · intro hJ4_5_10
              refine join_ (σ := Nat × Option Addr × Nat × Nat × Option Addr × Nat × Nat) 4 #[true, true, true, true, true, true, true, true, true, true, false, false, false, true, false] (fun s => [(20, .slice (some ⟨s.1, 0, none⟩) 2 2), (21, .slice s.2.1 (a.nodes.length + b.nodes.length) s.2.2.1), (6, .pointer (some ⟨s.2.2.2.2.2.2, 0, none⟩))]) (fun s w' => Below w2.heap.size w2 w' ∧ (w2.heap.size ≤ s.1 ∧ w'.heap[s.1]? = some (.cells #[.slice A0 a.nodes.length c0, .slice A2 b.nodes.length c2] 39 (0, 0))) ∧ (OwnI w' w2.heap.size 3 (.slice s.2.1 (a.nodes.length + b.nodes.length) s.2.2.1) (a.nodes ++ b.nodes)) ∧ (w2.heap.size ≤ s.2.2.2.2.2.2 ∧ w'.heap[s.2.2.2.2.2.2]? = some (.cells #[.slice none 0 0, .slice none 0 0] 43 (0, 0)))) ?_ ?_
              rotate_left
              · intro hJ4_5_13
                refine join_ (σ := Nat × Option Addr × Nat × Nat × Option Addr × Nat × Nat) 4 #[true, true, true, true, true, false, true, true, true, true, true, false, false, true, false] (fun s => [(20, .slice (some ⟨s.1, 0, none⟩) 2 2), (26, .slice (some ⟨s.2.2.2.1, 0, none⟩) 2 2), (6, .pointer (some ⟨s.2.2.2.2.2.2, 0, none⟩))]) (fun s w' => Below w2.heap.size w2 w' ∧ (w2.heap.size ≤ s.1 ∧ w'.heap[s.1]? = some (.cells #[.slice A0 a.nodes.length c0, .slice A2 b.nodes.length c2] 39 (0, 0))) ∧ (w2.heap.size ≤ s.2.2.2.1 ∧ w'.heap[s.2.2.2.1]? = some (.cells #[.slice A1 a.links.length c1, .slice A3 b.links.length c3] 41 (0, 0))) ∧ (w2.heap.size ≤ s.2.2.2.2.2.2 ∧ w'.heap[s.2.2.2.2.2.2]? = some (.cells #[.slice none 0 0, .slice none 0 0] 43 (0, 0)))) ?_ ?_
                rotate_left
                · intro hJ4_10_13
                  refine join_ (σ := Nat × Option Addr × Nat × Nat × Option Addr × Nat × Nat) 5 #[true, true, true, true, true, true, true, true, true, true, false, false, false, false, false] (fun s => [(20, .slice (some ⟨s.1, 0, none⟩) 2 2), (21, .slice s.2.1 (a.nodes.length + b.nodes.length) s.2.2.1)]) (fun s w' => Below w2.heap.size w2 w' ∧ (w2.heap.size ≤ s.1 ∧ w'.heap[s.1]? = some (.cells #[.slice A0 a.nodes.length c0, .slice A2 b.nodes.length c2] 39 (0, 0))) ∧ (OwnI w' w2.heap.size 3 (.slice s.2.1 (a.nodes.length + b.nodes.length) s.2.2.1) (a.nodes ++ b.nodes))) ?_ ?_
                  rotate_left
                  · intro hJ4_5
                    refine join_ (σ := Nat × Option Addr × Nat × Nat × Option Addr × Nat × Nat) 5 #[true, true, true, true, true, false, true, true, true, true, true, false, false, false, false] (fun s => [(20, .slice (some ⟨s.1, 0, none⟩) 2 2), (26, .slice (some ⟨s.2.2.2.1, 0, none⟩) 2 2)]) (fun s w' => Below w2.heap.size w2 w' ∧ (w2.heap.size ≤ s.1 ∧ w'.heap[s.1]? = some (.cells #[.slice A0 a.nodes.length c0, .slice A2 b.nodes.length c2] 39 (0, 0))) ∧ (w2.heap.size ≤ s.2.2.2.1 ∧ w'.heap[s.2.2.2.1]? = some (.cells #[.slice A1 a.links.length c1, .slice A3 b.links.length c3] 41 (0, 0)))) ?_ ?_
                    rotate_left
                    · intro hJ4_10
                      refine join_ (σ := Nat × Option Addr × Nat × Nat × Option Addr × Nat × Nat) 5 #[true, true, true, true, true, false, true, true, true, true, false, false, false, true, false] (fun s => [(20, .slice (some ⟨s.1, 0, none⟩) 2 2), (6, .pointer (some ⟨s.2.2.2.2.2.2, 0, none⟩))]) (fun s w' => Below w2.heap.size w2 w' ∧ (w2.heap.size ≤ s.1 ∧ w'.heap[s.1]? = some (.cells #[.slice A0 a.nodes.length c0, .slice A2 b.nodes.length c2] 39 (0, 0))) ∧ (w2.heap.size ≤ s.2.2.2.2.2.2 ∧ w'.heap[s.2.2.2.2.2.2]? = some (.cells #[.slice none 0 0, .slice none 0 0] 43 (0, 0)))) ?_ ?_
                      rotate_left
                      · intro hJ4_13
                        refine join_ (σ := Nat × Option Addr × Nat × Nat × Option Addr × Nat × Nat) 5 #[true, true, true, true, false, false, true, true, true, true, true, false, false, true, false] (fun s => [(26, .slice (some ⟨s.2.2.2.1, 0, none⟩) 2 2), (6, .pointer (some ⟨s.2.2.2.2.2.2, 0, none⟩))]) (fun s w' => Below w2.heap.size w2 w' ∧ (w2.heap.size ≤ s.2.2.2.1 ∧ w'.heap[s.2.2.2.1]? = some (.cells #[.slice A1 a.links.length c1, .slice A3 b.links.length c3] 41 (0, 0))) ∧ (w2.heap.size ≤ s.2.2.2.2.2.2 ∧ w'.heap[s.2.2.2.2.2.2]? = some (.cells #[.slice none 0 0, .slice none 0 0] 43 (0, 0)))) ?_ ?_
                        rotate_left
                        · intro hJ10_13
                          refine join_ (σ := Nat × Option Addr × Nat × Nat × Option Addr × Nat × Nat) 6 #[true, true, true, true, true, false, true, true, true, true, false, false, false, false, false] (fun s => [(20, .slice (some ⟨s.1, 0, none⟩) 2 2)]) (fun s w' => Below w2.heap.size w2 w' ∧ (w2.heap.size ≤ s.1 ∧ w'.heap[s.1]? = some (.cells #[.slice A0 a.nodes.length c0, .slice A2 b.nodes.length c2] 39 (0, 0)))) ?_ ?_
                          rotate_left
                          · intro hJ4
                            refine join_ (σ := Nat × Option Addr × Nat × Nat × Option Addr × Nat × Nat) 6 #[true, true, true, true, false, false, true, true, true, true, true, false, false, false, false] (fun s => [(26, .slice (some ⟨s.2.2.2.1, 0, none⟩) 2 2)]) (fun s w' => Below w2.heap.size w2 w' ∧ (w2.heap.size ≤ s.2.2.2.1 ∧ w'.heap[s.2.2.2.1]? = some (.cells #[.slice A1 a.links.length c1, .slice A3 b.links.length c3] 41 (0, 0)))) ?_ ?_
                            rotate_left
                            · intro hJ10
                              refine join_ (σ := Nat × Option Addr × Nat × Nat × Option Addr × Nat × Nat) 6 #[true, true, true, true, false, false, true, true, true, true, false, false, false, true, false] (fun s => [(6, .pointer (some ⟨s.2.2.2.2.2.2, 0, none⟩))]) (fun s w' => Below w2.heap.size w2 w' ∧ (w2.heap.size ≤ s.2.2.2.2.2.2 ∧ w'.heap[s.2.2.2.2.2.2]? = some (.cells #[.slice none 0 0, .slice none 0 0] 43 (0, 0)))) ?_ ?_
                              rotate_left
                              · intro hJ13
                                refine three_ (i := 4) (j := 10) (k := 13) (Ni := some 20) (Nj := some 26) (Nk := some 6) #[true, true, true, true, true, false, true, true, true, true, false, false, false, false, false] #[true, true, true, true, false, false, true, true, true, true, true, false, false, false, false] #[true, true, true, true, false, false, true, true, true, true, false, false, false, true, false] rfl rfl rfl rfl rfl rfl (by kernel_rfl) (by decide) (by decide) (by decide) (fun K hK => ?_) (fun K hK => ?_) (fun K hK => ?_)
                                · skip
                                  refine value_ (w1 := ?_) (v := ?_) (by rfl) rfl ?_ ?_
                                  rotate_left 2
                                  · go_simp
                                    constructor
                                    · rfl
                                    · rfl
                                  have hq := b_alloc (o := .cells #[.slice A0 a.nodes.length c0, .slice A2 b.nodes.length c2] 39) (Below.refl w2.drew.heap.size w2.drew)
                                  have hn : w2.heap.size ≤ w2.drew.heap.size ∧ (w2.drew.alloc (.cells #[.slice A0 a.nodes.length c0, .slice A2 b.nodes.length c2] 39)).heap[w2.drew.heap.size]? = some (.cells #[.slice A0 a.nodes.length c0, .slice A2 b.nodes.length c2] 39 (0, 0)) := ⟨hB.size, heap_alloc_new w2.drew _⟩
                                  refine hK.out _ _ ⟨cell_of_below hq hHeld.1, cell_of_below hq hHeld.2.1, cell_of_below hq hHeld.2.2.1, cell_of_below hq hHeld.2.2.2⟩ (fun hHeld => ?_)
                                  clear hK K
                                  refine norm_ (a' := ?_) ?_ ?_
                                  rotate_left
                                  · show Act.put _ (some 20) _ = _
                                    simp only [Act.put, List.setIfInBounds_toArray, List.set_cons_zero, List.set_cons_succ]
                                    rfl
                                  exact norm_ (by first | (simp only [putAll, Act.put, List.setIfInBounds_toArray, List.set_cons_zero, List.set_cons_succ]; done) | (simp only [putAll, Act.put, List.setIfInBounds_toArray, List.set_cons_zero, List.set_cons_succ]; rfl)) (hJ4 ⟨_, none, 0, 0, none, 0, 0⟩ _ ⟨below_then hB hq, hn⟩)
                                · skip
                                  refine value_ (w1 := ?_) (v := ?_) (by rfl) rfl ?_ ?_
                                  rotate_left 2
                                  · go_simp
                                    constructor
                                    · rfl
                                    · rfl
                                  have hq := b_alloc (o := .cells #[.slice A1 a.links.length c1, .slice A3 b.links.length c3] 41) (Below.refl w2.drew.heap.size w2.drew)
                                  have hn : w2.heap.size ≤ w2.drew.heap.size ∧ (w2.drew.alloc (.cells #[.slice A1 a.links.length c1, .slice A3 b.links.length c3] 41)).heap[w2.drew.heap.size]? = some (.cells #[.slice A1 a.links.length c1, .slice A3 b.links.length c3] 41 (0, 0)) := ⟨hB.size, heap_alloc_new w2.drew _⟩
                                  refine hK.out _ _ ⟨cell_of_below hq hHeld.1, cell_of_below hq hHeld.2.1, cell_of_below hq hHeld.2.2.1, cell_of_below hq hHeld.2.2.2⟩ (fun hHeld => ?_)
                                  clear hK K
                                  refine norm_ (a' := ?_) ?_ ?_
                                  rotate_left
                                  · show Act.put _ (some 26) _ = _
                                    simp only [Act.put, List.setIfInBounds_toArray, List.set_cons_zero, List.set_cons_succ]
                                    rfl
                                  exact norm_ (by first | (simp only [putAll, Act.put, List.setIfInBounds_toArray, List.set_cons_zero, List.set_cons_succ]; done) | (simp only [putAll, Act.put, List.setIfInBounds_toArray, List.set_cons_zero, List.set_cons_succ]; rfl)) (hJ10 ⟨0, none, 0, _, none, 0, 0⟩ _ ⟨below_then hB hq, hn⟩)
                                · skip
                                  refine value_ (w1 := ?_) (v := ?_) (by rfl) rfl ?_ ?_
                                  rotate_left 2
                                  · go_simp
                                    constructor
                                    · rfl
                                    · rfl
                                  have hq := b_alloc (o := .cells #[.slice none 0 0, .slice none 0 0] 43) (Below.refl w2.drew.heap.size w2.drew)
                                  have hn : w2.heap.size ≤ w2.drew.heap.size ∧ (w2.drew.alloc (.cells #[.slice none 0 0, .slice none 0 0] 43)).heap[w2.drew.heap.size]? = some (.cells #[.slice none 0 0, .slice none 0 0] 43 (0, 0)) := ⟨hB.size, heap_alloc_new w2.drew _⟩
                                  refine hK.out _ _ ⟨cell_of_below hq hHeld.1, cell_of_below hq hHeld.2.1, cell_of_below hq hHeld.2.2.1, cell_of_below hq hHeld.2.2.2⟩ (fun hHeld => ?_)
                                  clear hK K
                                  refine norm_ (a' := ?_) ?_ ?_
                                  rotate_left
                                  · show Act.put _ (some 6) _ = _
                                    simp only [Act.put, List.setIfInBounds_toArray, List.set_cons_zero, List.set_cons_succ]
                                    rfl
                                  exact norm_ (by first | (simp only [putAll, Act.put, List.setIfInBounds_toArray, List.set_cons_zero, List.set_cons_succ]; done) | (simp only [putAll, Act.put, List.setIfInBounds_toArray, List.set_cons_zero, List.set_cons_succ]; rfl)) (hJ13 ⟨0, none, 0, 0, none, 0, _⟩ _ ⟨below_then hB hq, hn⟩)
                              · skip
                                rintro ⟨z4_0, z5_0, z5_1, z10_0, z11_0, z11_1, z13_0⟩ wn ⟨hB, h13⟩
                                try dsimp only at hB h13 ⊢
                                have hHeld : wn.cell? ⟨BX, 0, none⟩ = some (.slice A0 a.nodes.length c0) ∧ wn.cell? ⟨BX, 1, none⟩ = some (.slice A1 a.links.length c1) ∧ wn.cell? ⟨BX + 1, 0, none⟩ = some (.slice A2 b.nodes.length c2) ∧ wn.cell? ⟨BX + 1, 1, none⟩ = some (.slice A3 b.links.length c3) := ⟨cell_of_below hB (x0), cell_of_below hB (x1), cell_of_below hB (y0), cell_of_below hB (y1)⟩
                                refine norm_ (a' := ?_) ?_ ?_
                                rotate_left
                                · simp only [putAll, Act.put, List.setIfInBounds_toArray, List.set_cons_zero, List.set_cons_succ]
                                  rfl
                                refine two_ (i := 4) (j := 10) (Ni := some 20) (Nj := some 26) #[true, true, true, true, true, false, true, true, true, true, false, false, false, true, false] #[true, true, true, true, false, false, true, true, true, true, true, false, false, true, false] rfl rfl rfl rfl (by kernel_rfl) (by decide) (by decide) (fun K hK => ?_) (fun K hK => ?_)
                                · skip
                                  refine value_ (w1 := ?_) (v := ?_) (by rfl) rfl ?_ ?_
                                  rotate_left 2
                                  · go_simp
                                    constructor
                                    · rfl
                                    · rfl
                                  have hq := b_alloc (o := .cells #[.slice A0 a.nodes.length c0, .slice A2 b.nodes.length c2] 39) (Below.refl wn.heap.size wn)
                                  have hn : w2.heap.size ≤ wn.heap.size ∧ (wn.alloc (.cells #[.slice A0 a.nodes.length c0, .slice A2 b.nodes.length c2] 39)).heap[wn.heap.size]? = some (.cells #[.slice A0 a.nodes.length c0, .slice A2 b.nodes.length c2] 39 (0, 0)) := ⟨hB.size, heap_alloc_new wn _⟩
                                  refine hK.out _ _ ⟨cell_of_below hq hHeld.1, cell_of_below hq hHeld.2.1, cell_of_below hq hHeld.2.2.1, cell_of_below hq hHeld.2.2.2⟩ (fun hHeld => ?_)
                                  clear hK K
                                  refine norm_ (a' := ?_) ?_ ?_
                                  rotate_left
                                  · show Act.put _ (some 20) _ = _
                                    simp only [Act.put, List.setIfInBounds_toArray, List.set_cons_zero, List.set_cons_succ]
                                    rfl
                                  exact norm_ (by first | (simp only [putAll, Act.put, List.setIfInBounds_toArray, List.set_cons_zero, List.set_cons_succ]; done) | (simp only [putAll, Act.put, List.setIfInBounds_toArray, List.set_cons_zero, List.set_cons_succ]; rfl)) (hJ4_13 ⟨_, none, 0, 0, none, 0, z13_0⟩ _ ⟨below_then hB hq, hn, ⟨h13.1, block_of_below h13.2 hq⟩⟩)
                                · skip
                                  refine value_ (w1 := ?_) (v := ?_) (by rfl) rfl ?_ ?_
                                  rotate_left 2
                                  · go_simp
                                    constructor
                                    · rfl
                                    · rfl
                                  have hq := b_alloc (o := .cells #[.slice A1 a.links.length c1, .slice A3 b.links.length c3] 41) (Below.refl wn.heap.size wn)
                                  have hn : w2.heap.size ≤ wn.heap.size ∧ (wn.alloc (.cells #[.slice A1 a.links.length c1, .slice A3 b.links.length c3] 41)).heap[wn.heap.size]? = some (.cells #[.slice A1 a.links.length c1, .slice A3 b.links.length c3] 41 (0, 0)) := ⟨hB.size, heap_alloc_new wn _⟩
                                  refine hK.out _ _ ⟨cell_of_below hq hHeld.1, cell_of_below hq hHeld.2.1, cell_of_below hq hHeld.2.2.1, cell_of_below hq hHeld.2.2.2⟩ (fun hHeld => ?_)
                                  clear hK K
                                  refine norm_ (a' := ?_) ?_ ?_
                                  rotate_left
                                  · show Act.put _ (some 26) _ = _
                                    simp only [Act.put, List.setIfInBounds_toArray, List.set_cons_zero, List.set_cons_succ]
                                    rfl
                                  exact norm_ (by first | (simp only [putAll, Act.put, List.setIfInBounds_toArray, List.set_cons_zero, List.set_cons_succ]; done) | (simp only [putAll, Act.put, List.setIfInBounds_toArray, List.set_cons_zero, List.set_cons_succ]; rfl)) (hJ10_13 ⟨0, none, 0, _, none, 0, z13_0⟩ _ ⟨below_then hB hq, hn, ⟨h13.1, block_of_below h13.2 hq⟩⟩)
                            · skip
                              rintro ⟨z4_0, z5_0, z5_1, z10_0, z11_0, z11_1, z13_0⟩ wn ⟨hB, h10⟩
                              try dsimp only at hB h10 ⊢
                              have hHeld : wn.cell? ⟨BX, 0, none⟩ = some (.slice A0 a.nodes.length c0) ∧ wn.cell? ⟨BX, 1, none⟩ = some (.slice A1 a.links.length c1) ∧ wn.cell? ⟨BX + 1, 0, none⟩ = some (.slice A2 b.nodes.length c2) ∧ wn.cell? ⟨BX + 1, 1, none⟩ = some (.slice A3 b.links.length c3) := ⟨cell_of_below hB (x0), cell_of_below hB (x1), cell_of_below hB (y0), cell_of_below hB (y1)⟩
                              refine norm_ (a' := ?_) ?_ ?_
                              rotate_left
                              · simp only [putAll, Act.put, List.setIfInBounds_toArray, List.set_cons_zero, List.set_cons_succ]
                                rfl
                              refine two_ (i := 4) (j := 13) (Ni := some 20) (Nj := some 6) #[true, true, true, true, true, false, true, true, true, true, true, false, false, false, false] #[true, true, true, true, false, false, true, true, true, true, true, false, false, true, false] rfl rfl rfl rfl (by kernel_rfl) (by decide) (by decide) (fun K hK => ?_) (fun K hK => ?_)
                              · skip
                                refine value_ (w1 := ?_) (v := ?_) (by rfl) rfl ?_ ?_
                                rotate_left 2
                                · go_simp
                                  constructor
                                  · rfl
                                  · rfl
                                have hq := b_alloc (o := .cells #[.slice A0 a.nodes.length c0, .slice A2 b.nodes.length c2] 39) (Below.refl wn.heap.size wn)
                                have hn : w2.heap.size ≤ wn.heap.size ∧ (wn.alloc (.cells #[.slice A0 a.nodes.length c0, .slice A2 b.nodes.length c2] 39)).heap[wn.heap.size]? = some (.cells #[.slice A0 a.nodes.length c0, .slice A2 b.nodes.length c2] 39 (0, 0)) := ⟨hB.size, heap_alloc_new wn _⟩
                                refine hK.out _ _ ⟨cell_of_below hq hHeld.1, cell_of_below hq hHeld.2.1, cell_of_below hq hHeld.2.2.1, cell_of_below hq hHeld.2.2.2⟩ (fun hHeld => ?_)
                                clear hK K
                                refine norm_ (a' := ?_) ?_ ?_
                                rotate_left
                                · show Act.put _ (some 20) _ = _
                                  simp only [Act.put, List.setIfInBounds_toArray, List.set_cons_zero, List.set_cons_succ]
                                  rfl
                                exact norm_ (by first | (simp only [putAll, Act.put, List.setIfInBounds_toArray, List.set_cons_zero, List.set_cons_succ]; done) | (simp only [putAll, Act.put, List.setIfInBounds_toArray, List.set_cons_zero, List.set_cons_succ]; rfl)) (hJ4_10 ⟨_, none, 0, z10_0, none, 0, 0⟩ _ ⟨below_then hB hq, hn, ⟨h10.1, block_of_below h10.2 hq⟩⟩)
                              · skip
                                refine value_ (w1 := ?_) (v := ?_) (by rfl) rfl ?_ ?_
                                rotate_left 2
                                · go_simp
                                  constructor
                                  · rfl
                                  · rfl
                                have hq := b_alloc (o := .cells #[.slice none 0 0, .slice none 0 0] 43) (Below.refl wn.heap.size wn)
                                have hn : w2.heap.size ≤ wn.heap.size ∧ (wn.alloc (.cells #[.slice none 0 0, .slice none 0 0] 43)).heap[wn.heap.size]? = some (.cells #[.slice none 0 0, .slice none 0 0] 43 (0, 0)) := ⟨hB.size, heap_alloc_new wn _⟩
                                refine hK.out _ _ ⟨cell_of_below hq hHeld.1, cell_of_below hq hHeld.2.1, cell_of_below hq hHeld.2.2.1, cell_of_below hq hHeld.2.2.2⟩ (fun hHeld => ?_)
                                clear hK K
                                refine norm_ (a' := ?_) ?_ ?_
                                rotate_left
                                · show Act.put _ (some 6) _ = _
                                  simp only [Act.put, List.setIfInBounds_toArray, List.set_cons_zero, List.set_cons_succ]
                                  rfl
                                exact norm_ (by first | (simp only [putAll, Act.put, List.setIfInBounds_toArray, List.set_cons_zero, List.set_cons_succ]; done) | (simp only [putAll, Act.put, List.setIfInBounds_toArray, List.set_cons_zero, List.set_cons_succ]; rfl)) (hJ10_13 ⟨0, none, 0, z10_0, none, 0, _⟩ _ ⟨below_then hB hq, ⟨h10.1, block_of_below h10.2 hq⟩, hn⟩)
                          · skip
                            rintro ⟨z4_0, z5_0, z5_1, z10_0, z11_0, z11_1, z13_0⟩ wn ⟨hB, h4⟩
                            try dsimp only at hB h4 ⊢
                            have hHeld : wn.cell? ⟨BX, 0, none⟩ = some (.slice A0 a.nodes.length c0) ∧ wn.cell? ⟨BX, 1, none⟩ = some (.slice A1 a.links.length c1) ∧ wn.cell? ⟨BX + 1, 0, none⟩ = some (.slice A2 b.nodes.length c2) ∧ wn.cell? ⟨BX + 1, 1, none⟩ = some (.slice A3 b.links.length c3) := ⟨cell_of_below hB (x0), cell_of_below hB (x1), cell_of_below hB (y0), cell_of_below hB (y1)⟩
                            refine norm_ (a' := ?_) ?_ ?_
                            rotate_left
                            · simp only [putAll, Act.put, List.setIfInBounds_toArray, List.set_cons_zero, List.set_cons_succ]
                              rfl
                            refine three_ (i := 5) (j := 10) (k := 13) (Ni := some 21) (Nj := some 26) (Nk := some 6) #[true, true, true, true, true, true, true, true, true, true, false, false, false, false, false] #[true, true, true, true, true, false, true, true, true, true, true, false, false, false, false] #[true, true, true, true, true, false, true, true, true, true, false, false, false, true, false] rfl rfl rfl rfl rfl rfl (by kernel_rfl) (by decide) (by decide) (by decide) (fun K hK => ?_) (fun K hK => ?_) (fun K hK => ?_)
                            · skip
                              refine goes_ Try.func60 (by kernel_rfl) rfl #[.slice (some ⟨z4_0, 0, none⟩) 2 2] (by rfl) rfl rfl (by simp only [List.map_toArray, List.map_cons, List.map_nil]; rfl) ?_
                              with_reducible refine (concatI_s w2.heap.size a.nodes b.nodes h4.1 h4.2 (HRA.out _ hB).ns (HRB.out _ hB).ns hl1 hl2 hB.size).mono ?_
                              rintro r wm ⟨y0, y1, rfl, hn, hq⟩
                              refine ⟨_, rfl, ?_⟩
                              refine hK.out _ _ ⟨cell_of_below hq hHeld.1, cell_of_below hq hHeld.2.1, cell_of_below hq hHeld.2.2.1, cell_of_below hq hHeld.2.2.2⟩ (fun hHeld => ?_)
                              clear hK K
                              refine norm_ (a' := ?_) ?_ ?_
                              rotate_left
                              · show Act.put _ (some 21) _ = _
                                simp only [Act.put, List.setIfInBounds_toArray, List.set_cons_zero, List.set_cons_succ]
                                rfl
                              exact norm_ (by first | (simp only [putAll, Act.put, List.setIfInBounds_toArray, List.set_cons_zero, List.set_cons_succ]; done) | (simp only [putAll, Act.put, List.setIfInBounds_toArray, List.set_cons_zero, List.set_cons_succ]; rfl)) (hJ4_5 ⟨z4_0, _, _, 0, none, 0, 0⟩ _ ⟨below_then hB hq, ⟨h4.1, block_of_below h4.2 hq⟩, hn⟩)
                            · skip
                              refine value_ (w1 := ?_) (v := ?_) (by rfl) rfl ?_ ?_
                              rotate_left 2
                              · go_simp
                                constructor
                                · rfl
                                · rfl
                              have hq := b_alloc (o := .cells #[.slice A1 a.links.length c1, .slice A3 b.links.length c3] 41) (Below.refl wn.heap.size wn)
                              have hn : w2.heap.size ≤ wn.heap.size ∧ (wn.alloc (.cells #[.slice A1 a.links.length c1, .slice A3 b.links.length c3] 41)).heap[wn.heap.size]? = some (.cells #[.slice A1 a.links.length c1, .slice A3 b.links.length c3] 41 (0, 0)) := ⟨hB.size, heap_alloc_new wn _⟩
                              refine hK.out _ _ ⟨cell_of_below hq hHeld.1, cell_of_below hq hHeld.2.1, cell_of_below hq hHeld.2.2.1, cell_of_below hq hHeld.2.2.2⟩ (fun hHeld => ?_)
                              clear hK K
                              refine norm_ (a' := ?_) ?_ ?_
                              rotate_left
                              · show Act.put _ (some 26) _ = _
                                simp only [Act.put, List.setIfInBounds_toArray, List.set_cons_zero, List.set_cons_succ]
                                rfl
                              exact norm_ (by first | (simp only [putAll, Act.put, List.setIfInBounds_toArray, List.set_cons_zero, List.set_cons_succ]; done) | (simp only [putAll, Act.put, List.setIfInBounds_toArray, List.set_cons_zero, List.set_cons_succ]; rfl)) (hJ4_10 ⟨z4_0, none, 0, _, none, 0, 0⟩ _ ⟨below_then hB hq, ⟨h4.1, block_of_below h4.2 hq⟩, hn⟩)
                            · skip
                              refine value_ (w1 := ?_) (v := ?_) (by rfl) rfl ?_ ?_
                              rotate_left 2
                              · go_simp
                                constructor
                                · rfl
                                · rfl
                              have hq := b_alloc (o := .cells #[.slice none 0 0, .slice none 0 0] 43) (Below.refl wn.heap.size wn)
                              have hn : w2.heap.size ≤ wn.heap.size ∧ (wn.alloc (.cells #[.slice none 0 0, .slice none 0 0] 43)).heap[wn.heap.size]? = some (.cells #[.slice none 0 0, .slice none 0 0] 43 (0, 0)) := ⟨hB.size, heap_alloc_new wn _⟩
                              refine hK.out _ _ ⟨cell_of_below hq hHeld.1, cell_of_below hq hHeld.2.1, cell_of_below hq hHeld.2.2.1, cell_of_below hq hHeld.2.2.2⟩ (fun hHeld => ?_)
                              clear hK K
                              refine norm_ (a' := ?_) ?_ ?_
                              rotate_left
                              · show Act.put _ (some 6) _ = _
                                simp only [Act.put, List.setIfInBounds_toArray, List.set_cons_zero, List.set_cons_succ]
                                rfl
                              exact norm_ (by first | (simp only [putAll, Act.put, List.setIfInBounds_toArray, List.set_cons_zero, List.set_cons_succ]; done) | (simp only [putAll, Act.put, List.setIfInBounds_toArray, List.set_cons_zero, List.set_cons_succ]; rfl)) (hJ4_13 ⟨z4_0, none, 0, 0, none, 0, _⟩ _ ⟨below_then hB hq, ⟨h4.1, block_of_below h4.2 hq⟩, hn⟩)
                        · skip
                          rintro ⟨z4_0, z5_0, z5_1, z10_0, z11_0, z11_1, z13_0⟩ wn ⟨hB, h10, h13⟩
                          try dsimp only at hB h10 h13 ⊢
                          have hHeld : wn.cell? ⟨BX, 0, none⟩ = some (.slice A0 a.nodes.length c0) ∧ wn.cell? ⟨BX, 1, none⟩ = some (.slice A1 a.links.length c1) ∧ wn.cell? ⟨BX + 1, 0, none⟩ = some (.slice A2 b.nodes.length c2) ∧ wn.cell? ⟨BX + 1, 1, none⟩ = some (.slice A3 b.links.length c3) := ⟨cell_of_below hB (x0), cell_of_below hB (x1), cell_of_below hB (y0), cell_of_below hB (y1)⟩
                          refine norm_ (a' := ?_) ?_ ?_
                          rotate_left
                          · simp only [putAll, Act.put, List.setIfInBounds_toArray, List.set_cons_zero, List.set_cons_succ]
                            rfl
                          refine one_ (i := 4) (N := some 20) #[true, true, true, true, true, false, true, true, true, true, true, false, false, true, false] rfl rfl (by kernel_rfl) (by decide) (fun K hK => ?_)
                          refine value_ (w1 := ?_) (v := ?_) (by rfl) rfl ?_ ?_
                          rotate_left 2
                          · go_simp
                            constructor
                            · rfl
                            · rfl
                          have hq := b_alloc (o := .cells #[.slice A0 a.nodes.length c0, .slice A2 b.nodes.length c2] 39) (Below.refl wn.heap.size wn)
                          have hn : w2.heap.size ≤ wn.heap.size ∧ (wn.alloc (.cells #[.slice A0 a.nodes.length c0, .slice A2 b.nodes.length c2] 39)).heap[wn.heap.size]? = some (.cells #[.slice A0 a.nodes.length c0, .slice A2 b.nodes.length c2] 39 (0, 0)) := ⟨hB.size, heap_alloc_new wn _⟩
                          refine hK.out _ _ ⟨cell_of_below hq hHeld.1, cell_of_below hq hHeld.2.1, cell_of_below hq hHeld.2.2.1, cell_of_below hq hHeld.2.2.2⟩ (fun hHeld => ?_)
                          clear hK K
                          refine norm_ (a' := ?_) ?_ ?_
                          rotate_left
                          · show Act.put _ (some 20) _ = _
                            simp only [Act.put, List.setIfInBounds_toArray, List.set_cons_zero, List.set_cons_succ]
                            rfl
                          exact norm_ (by first | (simp only [putAll, Act.put, List.setIfInBounds_toArray, List.set_cons_zero, List.set_cons_succ]; done) | (simp only [putAll, Act.put, List.setIfInBounds_toArray, List.set_cons_zero, List.set_cons_succ]; rfl)) (hJ4_10_13 ⟨_, none, 0, z10_0, none, 0, z13_0⟩ _ ⟨below_then hB hq, hn, ⟨h10.1, block_of_below h10.2 hq⟩, ⟨h13.1, block_of_below h13.2 hq⟩⟩)
                      · skip
                        rintro ⟨z4_0, z5_0, z5_1, z10_0, z11_0, z11_1, z13_0⟩ wn ⟨hB, h4, h13⟩
                        try dsimp only at hB h4 h13 ⊢
                        have hHeld : wn.cell? ⟨BX, 0, none⟩ = some (.slice A0 a.nodes.length c0) ∧ wn.cell? ⟨BX, 1, none⟩ = some (.slice A1 a.links.length c1) ∧ wn.cell? ⟨BX + 1, 0, none⟩ = some (.slice A2 b.nodes.length c2) ∧ wn.cell? ⟨BX + 1, 1, none⟩ = some (.slice A3 b.links.length c3) := ⟨cell_of_below hB (x0), cell_of_below hB (x1), cell_of_below hB (y0), cell_of_below hB (y1)⟩
                        refine norm_ (a' := ?_) ?_ ?_
                        rotate_left
                        · simp only [putAll, Act.put, List.setIfInBounds_toArray, List.set_cons_zero, List.set_cons_succ]
                          rfl
                        refine two_ (i := 5) (j := 10) (Ni := some 21) (Nj := some 26) #[true, true, true, true, true, true, true, true, true, true, false, false, false, true, false] #[true, true, true, true, true, false, true, true, true, true, true, false, false, true, false] rfl rfl rfl rfl (by kernel_rfl) (by decide) (by decide) (fun K hK => ?_) (fun K hK => ?_)
                        · skip
                          refine goes_ Try.func60 (by kernel_rfl) rfl #[.slice (some ⟨z4_0, 0, none⟩) 2 2] (by rfl) rfl rfl (by simp only [List.map_toArray, List.map_cons, List.map_nil]; rfl) ?_
                          with_reducible refine (concatI_s w2.heap.size a.nodes b.nodes h4.1 h4.2 (HRA.out _ hB).ns (HRB.out _ hB).ns hl1 hl2 hB.size).mono ?_
                          rintro r wm ⟨y0, y1, rfl, hn, hq⟩
                          refine ⟨_, rfl, ?_⟩
                          refine hK.out _ _ ⟨cell_of_below hq hHeld.1, cell_of_below hq hHeld.2.1, cell_of_below hq hHeld.2.2.1, cell_of_below hq hHeld.2.2.2⟩ (fun hHeld => ?_)
                          clear hK K
                          refine norm_ (a' := ?_) ?_ ?_
                          rotate_left
                          · show Act.put _ (some 21) _ = _
                            simp only [Act.put, List.setIfInBounds_toArray, List.set_cons_zero, List.set_cons_succ]
                            rfl
                          exact norm_ (by first | (simp only [putAll, Act.put, List.setIfInBounds_toArray, List.set_cons_zero, List.set_cons_succ]; done) | (simp only [putAll, Act.put, List.setIfInBounds_toArray, List.set_cons_zero, List.set_cons_succ]; rfl)) (hJ4_5_13 ⟨z4_0, _, _, 0, none, 0, z13_0⟩ _ ⟨below_then hB hq, ⟨h4.1, block_of_below h4.2 hq⟩, hn, ⟨h13.1, block_of_below h13.2 hq⟩⟩)
                        · skip
                          refine value_ (w1 := ?_) (v := ?_) (by rfl) rfl ?_ ?_
                          rotate_left 2
                          · go_simp
                            constructor
                            · rfl
                            · rfl
                          have hq := b_alloc (o := .cells #[.slice A1 a.links.length c1, .slice A3 b.links.length c3] 41) (Below.refl wn.heap.size wn)
                          have hn : w2.heap.size ≤ wn.heap.size ∧ (wn.alloc (.cells #[.slice A1 a.links.length c1, .slice A3 b.links.length c3] 41)).heap[wn.heap.size]? = some (.cells #[.slice A1 a.links.length c1, .slice A3 b.links.length c3] 41 (0, 0)) := ⟨hB.size, heap_alloc_new wn _⟩
                          refine hK.out _ _ ⟨cell_of_below hq hHeld.1, cell_of_below hq hHeld.2.1, cell_of_below hq hHeld.2.2.1, cell_of_below hq hHeld.2.2.2⟩ (fun hHeld => ?_)
                          clear hK K
                          refine norm_ (a' := ?_) ?_ ?_
                          rotate_left
                          · show Act.put _ (some 26) _ = _
                            simp only [Act.put, List.setIfInBounds_toArray, List.set_cons_zero, List.set_cons_succ]
                            rfl
                          exact norm_ (by first | (simp only [putAll, Act.put, List.setIfInBounds_toArray, List.set_cons_zero, List.set_cons_succ]; done) | (simp only [putAll, Act.put, List.setIfInBounds_toArray, List.set_cons_zero, List.set_cons_succ]; rfl)) (hJ4_10_13 ⟨z4_0, none, 0, _, none, 0, z13_0⟩ _ ⟨below_then hB hq, ⟨h4.1, block_of_below h4.2 hq⟩, hn, ⟨h13.1, block_of_below h13.2 hq⟩⟩)
                    · skip
                      rintro ⟨z4_0, z5_0, z5_1, z10_0, z11_0, z11_1, z13_0⟩ wn ⟨hB, h4, h10⟩
                      try dsimp only at hB h4 h10 ⊢
                      have hHeld : wn.cell? ⟨BX, 0, none⟩ = some (.slice A0 a.nodes.length c0) ∧ wn.cell? ⟨BX, 1, none⟩ = some (.slice A1 a.links.length c1) ∧ wn.cell? ⟨BX + 1, 0, none⟩ = some (.slice A2 b.nodes.length c2) ∧ wn.cell? ⟨BX + 1, 1, none⟩ = some (.slice A3 b.links.length c3) := ⟨cell_of_below hB (x0), cell_of_below hB (x1), cell_of_below hB (y0), cell_of_below hB (y1)⟩
                      refine norm_ (a' := ?_) ?_ ?_
                      rotate_left
                      · simp only [putAll, Act.put, List.setIfInBounds_toArray, List.set_cons_zero, List.set_cons_succ]
                        rfl
                      refine two_ (i := 5) (j := 13) (Ni := some 21) (Nj := some 6) #[true, true, true, true, true, true, true, true, true, true, true, false, false, false, false] #[true, true, true, true, true, false, true, true, true, true, true, false, false, true, false] rfl rfl rfl rfl (by kernel_rfl) (by decide) (by decide) (fun K hK => ?_) (fun K hK => ?_)
                      · skip
                        refine goes_ Try.func60 (by kernel_rfl) rfl #[.slice (some ⟨z4_0, 0, none⟩) 2 2] (by rfl) rfl rfl (by simp only [List.map_toArray, List.map_cons, List.map_nil]; rfl) ?_
                        with_reducible refine (concatI_s w2.heap.size a.nodes b.nodes h4.1 h4.2 (HRA.out _ hB).ns (HRB.out _ hB).ns hl1 hl2 hB.size).mono ?_
                        rintro r wm ⟨y0, y1, rfl, hn, hq⟩
                        refine ⟨_, rfl, ?_⟩
                        refine hK.out _ _ ⟨cell_of_below hq hHeld.1, cell_of_below hq hHeld.2.1, cell_of_below hq hHeld.2.2.1, cell_of_below hq hHeld.2.2.2⟩ (fun hHeld => ?_)
                        clear hK K
                        refine norm_ (a' := ?_) ?_ ?_
                        rotate_left
                        · show Act.put _ (some 21) _ = _
                          simp only [Act.put, List.setIfInBounds_toArray, List.set_cons_zero, List.set_cons_succ]
                          rfl
                        exact norm_ (by first | (simp only [putAll, Act.put, List.setIfInBounds_toArray, List.set_cons_zero, List.set_cons_succ]; done) | (simp only [putAll, Act.put, List.setIfInBounds_toArray, List.set_cons_zero, List.set_cons_succ]; rfl)) (hJ4_5_10 ⟨z4_0, _, _, z10_0, none, 0, 0⟩ _ ⟨below_then hB hq, ⟨h4.1, block_of_below h4.2 hq⟩, hn, ⟨h10.1, block_of_below h10.2 hq⟩⟩)
                      · skip
                        refine value_ (w1 := ?_) (v := ?_) (by rfl) rfl ?_ ?_
                        rotate_left 2
                        · go_simp
                          constructor
                          · rfl
                          · rfl
                        have hq := b_alloc (o := .cells #[.slice none 0 0, .slice none 0 0] 43) (Below.refl wn.heap.size wn)
                        have hn : w2.heap.size ≤ wn.heap.size ∧ (wn.alloc (.cells #[.slice none 0 0, .slice none 0 0] 43)).heap[wn.heap.size]? = some (.cells #[.slice none 0 0, .slice none 0 0] 43 (0, 0)) := ⟨hB.size, heap_alloc_new wn _⟩
                        refine hK.out _ _ ⟨cell_of_below hq hHeld.1, cell_of_below hq hHeld.2.1, cell_of_below hq hHeld.2.2.1, cell_of_below hq hHeld.2.2.2⟩ (fun hHeld => ?_)
                        clear hK K
                        refine norm_ (a' := ?_) ?_ ?_
                        rotate_left
                        · show Act.put _ (some 6) _ = _
                          simp only [Act.put, List.setIfInBounds_toArray, List.set_cons_zero, List.set_cons_succ]
                          rfl
                        exact norm_ (by first | (simp only [putAll, Act.put, List.setIfInBounds_toArray, List.set_cons_zero, List.set_cons_succ]; done) | (simp only [putAll, Act.put, List.setIfInBounds_toArray, List.set_cons_zero, List.set_cons_succ]; rfl)) (hJ4_10_13 ⟨z4_0, none, 0, z10_0, none, 0, _⟩ _ ⟨below_then hB hq, ⟨h4.1, block_of_below h4.2 hq⟩, ⟨h10.1, block_of_below h10.2 hq⟩, hn⟩)
                  · skip
                    rintro ⟨z4_0, z5_0, z5_1, z10_0, z11_0, z11_1, z13_0⟩ wn ⟨hB, h4, h5⟩
                    try dsimp only at hB h4 h5 ⊢
                    have hHeld : wn.cell? ⟨BX, 0, none⟩ = some (.slice A0 a.nodes.length c0) ∧ wn.cell? ⟨BX, 1, none⟩ = some (.slice A1 a.links.length c1) ∧ wn.cell? ⟨BX + 1, 0, none⟩ = some (.slice A2 b.nodes.length c2) ∧ wn.cell? ⟨BX + 1, 1, none⟩ = some (.slice A3 b.links.length c3) := ⟨cell_of_below hB (x0), cell_of_below hB (x1), cell_of_below hB (y0), cell_of_below hB (y1)⟩
                    refine norm_ (a' := ?_) ?_ ?_
                    rotate_left
                    · simp only [putAll, Act.put, List.setIfInBounds_toArray, List.set_cons_zero, List.set_cons_succ]
                      rfl
                    refine two_ (i := 10) (j := 13) (Ni := some 26) (Nj := some 6) #[true, true, true, true, true, true, true, true, true, true, true, false, false, false, false] #[true, true, true, true, true, true, true, true, true, true, false, false, false, true, false] rfl rfl rfl rfl (by kernel_rfl) (by decide) (by decide) (fun K hK => ?_) (fun K hK => ?_)
                    · skip
                      refine value_ (w1 := ?_) (v := ?_) (by rfl) rfl ?_ ?_
                      rotate_left 2
                      · go_simp
                        constructor
                        · rfl
                        · rfl
                      have hq := b_alloc (o := .cells #[.slice A1 a.links.length c1, .slice A3 b.links.length c3] 41) (Below.refl wn.heap.size wn)
                      have hn : w2.heap.size ≤ wn.heap.size ∧ (wn.alloc (.cells #[.slice A1 a.links.length c1, .slice A3 b.links.length c3] 41)).heap[wn.heap.size]? = some (.cells #[.slice A1 a.links.length c1, .slice A3 b.links.length c3] 41 (0, 0)) := ⟨hB.size, heap_alloc_new wn _⟩
                      refine hK.out _ _ ⟨cell_of_below hq hHeld.1, cell_of_below hq hHeld.2.1, cell_of_below hq hHeld.2.2.1, cell_of_below hq hHeld.2.2.2⟩ (fun hHeld => ?_)
                      clear hK K
                      refine norm_ (a' := ?_) ?_ ?_
                      rotate_left
                      · show Act.put _ (some 26) _ = _
                        simp only [Act.put, List.setIfInBounds_toArray, List.set_cons_zero, List.set_cons_succ]
                        rfl
                      exact norm_ (by first | (simp only [putAll, Act.put, List.setIfInBounds_toArray, List.set_cons_zero, List.set_cons_succ]; done) | (simp only [putAll, Act.put, List.setIfInBounds_toArray, List.set_cons_zero, List.set_cons_succ]; rfl)) (hJ4_5_10 ⟨z4_0, z5_0, z5_1, _, none, 0, 0⟩ _ ⟨below_then hB hq, ⟨h4.1, block_of_below h4.2 hq⟩, Own.below h5 hq, hn⟩)
                    · skip
                      refine value_ (w1 := ?_) (v := ?_) (by rfl) rfl ?_ ?_
                      rotate_left 2
                      · go_simp
                        constructor
                        · rfl
                        · rfl
                      have hq := b_alloc (o := .cells #[.slice none 0 0, .slice none 0 0] 43) (Below.refl wn.heap.size wn)
                      have hn : w2.heap.size ≤ wn.heap.size ∧ (wn.alloc (.cells #[.slice none 0 0, .slice none 0 0] 43)).heap[wn.heap.size]? = some (.cells #[.slice none 0 0, .slice none 0 0] 43 (0, 0)) := ⟨hB.size, heap_alloc_new wn _⟩
                      refine hK.out _ _ ⟨cell_of_below hq hHeld.1, cell_of_below hq hHeld.2.1, cell_of_below hq hHeld.2.2.1, cell_of_below hq hHeld.2.2.2⟩ (fun hHeld => ?_)
                      clear hK K
                      refine norm_ (a' := ?_) ?_ ?_
                      rotate_left
                      · show Act.put _ (some 6) _ = _
                        simp only [Act.put, List.setIfInBounds_toArray, List.set_cons_zero, List.set_cons_succ]
                        rfl
                      exact norm_ (by first | (simp only [putAll, Act.put, List.setIfInBounds_toArray, List.set_cons_zero, List.set_cons_succ]; done) | (simp only [putAll, Act.put, List.setIfInBounds_toArray, List.set_cons_zero, List.set_cons_succ]; rfl)) (hJ4_5_13 ⟨z4_0, z5_0, z5_1, 0, none, 0, _⟩ _ ⟨below_then hB hq, ⟨h4.1, block_of_below h4.2 hq⟩, Own.below h5 hq, hn⟩)
                · skip
                  rintro ⟨z4_0, z5_0, z5_1, z10_0, z11_0, z11_1, z13_0⟩ wn ⟨hB, h4, h10, h13⟩
                  try dsimp only at hB h4 h10 h13 ⊢
                  have hHeld : wn.cell? ⟨BX, 0, none⟩ = some (.slice A0 a.nodes.length c0) ∧ wn.cell? ⟨BX, 1, none⟩ = some (.slice A1 a.links.length c1) ∧ wn.cell? ⟨BX + 1, 0, none⟩ = some (.slice A2 b.nodes.length c2) ∧ wn.cell? ⟨BX + 1, 1, none⟩ = some (.slice A3 b.links.length c3) := ⟨cell_of_below hB (x0), cell_of_below hB (x1), cell_of_below hB (y0), cell_of_below hB (y1)⟩
                  refine norm_ (a' := ?_) ?_ ?_
                  rotate_left
                  · simp only [putAll, Act.put, List.setIfInBounds_toArray, List.set_cons_zero, List.set_cons_succ]
                    rfl
                  refine one_ (i := 5) (N := some 21) #[true, true, true, true, true, true, true, true, true, true, true, false, false, true, false] rfl rfl (by kernel_rfl) (by decide) (fun K hK => ?_)
                  refine goes_ Try.func60 (by kernel_rfl) rfl #[.slice (some ⟨z4_0, 0, none⟩) 2 2] (by rfl) rfl rfl (by simp only [List.map_toArray, List.map_cons, List.map_nil]; rfl) ?_
                  with_reducible refine (concatI_s w2.heap.size a.nodes b.nodes h4.1 h4.2 (HRA.out _ hB).ns (HRB.out _ hB).ns hl1 hl2 hB.size).mono ?_
                  rintro r wm ⟨y0, y1, rfl, hn, hq⟩
                  refine ⟨_, rfl, ?_⟩
                  refine hK.out _ _ ⟨cell_of_below hq hHeld.1, cell_of_below hq hHeld.2.1, cell_of_below hq hHeld.2.2.1, cell_of_below hq hHeld.2.2.2⟩ (fun hHeld => ?_)
                  clear hK K
                  refine norm_ (a' := ?_) ?_ ?_
                  rotate_left
                  · show Act.put _ (some 21) _ = _
                    simp only [Act.put, List.setIfInBounds_toArray, List.set_cons_zero, List.set_cons_succ]
                    rfl
                  exact norm_ (by first | (simp only [putAll, Act.put, List.setIfInBounds_toArray, List.set_cons_zero, List.set_cons_succ]; done) | (simp only [putAll, Act.put, List.setIfInBounds_toArray, List.set_cons_zero, List.set_cons_succ]; rfl)) (hJ4_5_10_13 ⟨z4_0, _, _, z10_0, none, 0, z13_0⟩ _ ⟨below_then hB hq, ⟨h4.1, block_of_below h4.2 hq⟩, hn, ⟨h10.1, block_of_below h10.2 hq⟩, ⟨h13.1, block_of_below h13.2 hq⟩⟩)
              · skip
                rintro ⟨z4_0, z5_0, z5_1, z10_0, z11_0, z11_1, z13_0⟩ wn ⟨hB, h4, h5, h13⟩
                try dsimp only at hB h4 h5 h13 ⊢
                have hHeld : wn.cell? ⟨BX, 0, none⟩ = some (.slice A0 a.nodes.length c0) ∧ wn.cell? ⟨BX, 1, none⟩ = some (.slice A1 a.links.length c1) ∧ wn.cell? ⟨BX + 1, 0, none⟩ = some (.slice A2 b.nodes.length c2) ∧ wn.cell? ⟨BX + 1, 1, none⟩ = some (.slice A3 b.links.length c3) := ⟨cell_of_below hB (x0), cell_of_below hB (x1), cell_of_below hB (y0), cell_of_below hB (y1)⟩
                refine norm_ (a' := ?_) ?_ ?_
                rotate_left
                · simp only [putAll, Act.put, List.setIfInBounds_toArray, List.set_cons_zero, List.set_cons_succ]
                  rfl
                refine one_ (i := 10) (N := some 26) #[true, true, true, true, true, true, true, true, true, true, true, false, false, true, false] rfl rfl (by kernel_rfl) (by decide) (fun K hK => ?_)
                refine value_ (w1 := ?_) (v := ?_) (by rfl) rfl ?_ ?_
                rotate_left 2
                · go_simp
                  constructor
                  · rfl
                  · rfl
                have hq := b_alloc (o := .cells #[.slice A1 a.links.length c1, .slice A3 b.links.length c3] 41) (Below.refl wn.heap.size wn)
                have hn : w2.heap.size ≤ wn.heap.size ∧ (wn.alloc (.cells #[.slice A1 a.links.length c1, .slice A3 b.links.length c3] 41)).heap[wn.heap.size]? = some (.cells #[.slice A1 a.links.length c1, .slice A3 b.links.length c3] 41 (0, 0)) := ⟨hB.size, heap_alloc_new wn _⟩
                refine hK.out _ _ ⟨cell_of_below hq hHeld.1, cell_of_below hq hHeld.2.1, cell_of_below hq hHeld.2.2.1, cell_of_below hq hHeld.2.2.2⟩ (fun hHeld => ?_)
                clear hK K
                refine norm_ (a' := ?_) ?_ ?_
                rotate_left
                · show Act.put _ (some 26) _ = _
                  simp only [Act.put, List.setIfInBounds_toArray, List.set_cons_zero, List.set_cons_succ]
                  rfl
                exact norm_ (by first | (simp only [putAll, Act.put, List.setIfInBounds_toArray, List.set_cons_zero, List.set_cons_succ]; done) | (simp only [putAll, Act.put, List.setIfInBounds_toArray, List.set_cons_zero, List.set_cons_succ]; rfl)) (hJ4_5_10_13 ⟨z4_0, z5_0, z5_1, _, none, 0, z13_0⟩ _ ⟨below_then hB hq, ⟨h4.1, block_of_below h4.2 hq⟩, Own.below h5 hq, hn, ⟨h13.1, block_of_below h13.2 hq⟩⟩)
            · skip
              rintro ⟨z4_0, z5_0, z5_1, z10_0, z11_0, z11_1, z13_0⟩ wn ⟨hB, h4, h5, h10⟩
              try dsimp only at hB h4 h5 h10 ⊢
              have hHeld : wn.cell? ⟨BX, 0, none⟩ = some (.slice A0 a.nodes.length c0) ∧ wn.cell? ⟨BX, 1, none⟩ = some (.slice A1 a.links.length c1) ∧ wn.cell? ⟨BX + 1, 0, none⟩ = some (.slice A2 b.nodes.length c2) ∧ wn.cell? ⟨BX + 1, 1, none⟩ = some (.slice A3 b.links.length c3) := ⟨cell_of_below hB (x0), cell_of_below hB (x1), cell_of_below hB (y0), cell_of_below hB (y1)⟩
              refine norm_ (a' := ?_) ?_ ?_
              rotate_left
              · simp only [putAll, Act.put, List.setIfInBounds_toArray, List.set_cons_zero, List.set_cons_succ]
                rfl
              refine two_ (i := 11) (j := 13) (Ni := some 27) (Nj := some 6) #[true, true, true, true, true, true, true, true, true, true, true, true, false, false, false] #[true, true, true, true, true, true, true, true, true, true, true, false, false, true, false] rfl rfl rfl rfl (by kernel_rfl) (by decide) (by decide) (fun K hK => ?_) (fun K hK => ?_)
              · skip
                refine goes_ Try.func61 (by kernel_rfl) rfl #[.slice (some ⟨z10_0, 0, none⟩) 2 2] (by rfl) rfl rfl (by simp only [List.map_toArray, List.map_cons, List.map_nil]; rfl) ?_
                with_reducible refine (concatK_s w2.heap.size a.links b.links h10.1 h10.2 (HRA.out _ hB).ls (HRB.out _ hB).ls hl3 hl4 hB.size).mono ?_
                rintro r wm ⟨y0, y1, rfl, hn, hq⟩
                refine ⟨_, rfl, ?_⟩
                refine hK.out _ _ ⟨cell_of_below hq hHeld.1, cell_of_below hq hHeld.2.1, cell_of_below hq hHeld.2.2.1, cell_of_below hq hHeld.2.2.2⟩ (fun hHeld => ?_)
                clear hK K
                refine norm_ (a' := ?_) ?_ ?_
                rotate_left
                · show Act.put _ (some 27) _ = _
                  simp only [Act.put, List.setIfInBounds_toArray, List.set_cons_zero, List.set_cons_succ]
                  rfl
                refine pure_ (i := 12) (N := some 28) (v := ?_) (a' := ?_) #[true, true, true, true, true, true, true, true, true, true, true, true, true, false, false] rfl rfl (by kernel_rfl) (fun _ _ _ h => h) (Or.inl ⟨by rfl, ?_⟩) ?_ ?_
                rotate_left
                · intro w'
                  go_simp
                  with_reducible rfl
                rotate_left
                · simp only [Act.put, List.setIfInBounds_toArray, List.set_cons_zero, List.set_cons_succ]
                  rfl
                exact norm_ (by first | (simp only [putAll, Act.put, List.setIfInBounds_toArray, List.set_cons_zero, List.set_cons_succ]; done) | (simp only [putAll, Act.put, List.setIfInBounds_toArray, List.set_cons_zero, List.set_cons_succ]; rfl)) (hJ4_5_10_11 ⟨z4_0, z5_0, z5_1, z10_0, _, _, 0⟩ _ ⟨below_then hB hq, ⟨h4.1, block_of_below h4.2 hq⟩, Own.below h5 hq, ⟨h10.1, block_of_below h10.2 hq⟩, hn⟩)
              · skip
                refine value_ (w1 := ?_) (v := ?_) (by rfl) rfl ?_ ?_
                rotate_left 2
                · go_simp
                  constructor
                  · rfl
                  · rfl
                have hq := b_alloc (o := .cells #[.slice none 0 0, .slice none 0 0] 43) (Below.refl wn.heap.size wn)
                have hn : w2.heap.size ≤ wn.heap.size ∧ (wn.alloc (.cells #[.slice none 0 0, .slice none 0 0] 43)).heap[wn.heap.size]? = some (.cells #[.slice none 0 0, .slice none 0 0] 43 (0, 0)) := ⟨hB.size, heap_alloc_new wn _⟩
                refine hK.out _ _ ⟨cell_of_below hq hHeld.1, cell_of_below hq hHeld.2.1, cell_of_below hq hHeld.2.2.1, cell_of_below hq hHeld.2.2.2⟩ (fun hHeld => ?_)
                clear hK K
                refine norm_ (a' := ?_) ?_ ?_
                rotate_left
                · show Act.put _ (some 6) _ = _
                  simp only [Act.put, List.setIfInBounds_toArray, List.set_cons_zero, List.set_cons_succ]
                  rfl
                exact norm_ (by first | (simp only [putAll, Act.put, List.setIfInBounds_toArray, List.set_cons_zero, List.set_cons_succ]; done) | (simp only [putAll, Act.put, List.setIfInBounds_toArray, List.set_cons_zero, List.set_cons_succ]; rfl)) (hJ4_5_10_13 ⟨z4_0, z5_0, z5_1, z10_0, none, 0, _⟩ _ ⟨below_then hB hq, ⟨h4.1, block_of_below h4.2 hq⟩, Own.below h5 hq, ⟨h10.1, block_of_below h10.2 hq⟩, hn⟩)
          · skip
            rintro ⟨z4_0, z5_0, z5_1, z10_0, z11_0, z11_1, z13_0⟩ wn ⟨hB, h4, h5, h10, h13⟩
            try dsimp only at hB h4 h5 h10 h13 ⊢
            have hHeld : wn.cell? ⟨BX, 0, none⟩ = some (.slice A0 a.nodes.length c0) ∧ wn.cell? ⟨BX, 1, none⟩ = some (.slice A1 a.links.length c1) ∧ wn.cell? ⟨BX + 1, 0, none⟩ = some (.slice A2 b.nodes.length c2) ∧ wn.cell? ⟨BX + 1, 1, none⟩ = some (.slice A3 b.links.length c3) := ⟨cell_of_below hB (x0), cell_of_below hB (x1), cell_of_below hB (y0), cell_of_below hB (y1)⟩
            refine norm_ (a' := ?_) ?_ ?_
            rotate_left
            · simp only [putAll, Act.put, List.setIfInBounds_toArray, List.set_cons_zero, List.set_cons_succ]
              rfl
            refine one_ (i := 11) (N := some 27) #[true, true, true, true, true, true, true, true, true, true, true, true, false, true, false] rfl rfl (by kernel_rfl) (by decide) (fun K hK => ?_)
            refine goes_ Try.func61 (by kernel_rfl) rfl #[.slice (some ⟨z10_0, 0, none⟩) 2 2] (by rfl) rfl rfl (by simp only [List.map_toArray, List.map_cons, List.map_nil]; rfl) ?_
            with_reducible refine (concatK_s w2.heap.size a.links b.links h10.1 h10.2 (HRA.out _ hB).ls (HRB.out _ hB).ls hl3 hl4 hB.size).mono ?_
            rintro r wm ⟨y0, y1, rfl, hn, hq⟩
            refine ⟨_, rfl, ?_⟩
            refine hK.out _ _ ⟨cell_of_below hq hHeld.1, cell_of_below hq hHeld.2.1, cell_of_below hq hHeld.2.2.1, cell_of_below hq hHeld.2.2.2⟩ (fun hHeld => ?_)
            clear hK K
            refine norm_ (a' := ?_) ?_ ?_
            rotate_left
            · show Act.put _ (some 27) _ = _
              simp only [Act.put, List.setIfInBounds_toArray, List.set_cons_zero, List.set_cons_succ]
              rfl
            refine pure_ (i := 12) (N := some 28) (v := ?_) (a' := ?_) #[true, true, true, true, true, true, true, true, true, true, true, true, true, true, false] rfl rfl (by kernel_rfl) (fun _ _ _ h => h) (Or.inl ⟨by rfl, ?_⟩) ?_ ?_
            rotate_left
            · intro w'
              go_simp
              with_reducible rfl
            rotate_left
            · simp only [Act.put, List.setIfInBounds_toArray, List.set_cons_zero, List.set_cons_succ]
              rfl
            exact norm_ (by first | (simp only [putAll, Act.put, List.setIfInBounds_toArray, List.set_cons_zero, List.set_cons_succ]; done) | (simp only [putAll, Act.put, List.setIfInBounds_toArray, List.set_cons_zero, List.set_cons_succ]; rfl)) (hJ4_5_10_11_13 ⟨z4_0, z5_0, z5_1, z10_0, _, _, z13_0⟩ _ ⟨below_then hB hq, ⟨h4.1, block_of_below h4.2 hq⟩, Own.below h5 hq, ⟨h10.1, block_of_below h10.2 hq⟩, hn, ⟨h13.1, block_of_below h13.2 hq⟩⟩)
        · skip
          rintro ⟨z4_0, z5_0, z5_1, z10_0, z11_0, z11_1, z13_0⟩ wn ⟨hB, h4, h5, h10, h11⟩
          try dsimp only at hB h4 h5 h10 h11 ⊢
          have hHeld : wn.cell? ⟨BX, 0, none⟩ = some (.slice A0 a.nodes.length c0) ∧ wn.cell? ⟨BX, 1, none⟩ = some (.slice A1 a.links.length c1) ∧ wn.cell? ⟨BX + 1, 0, none⟩ = some (.slice A2 b.nodes.length c2) ∧ wn.cell? ⟨BX + 1, 1, none⟩ = some (.slice A3 b.links.length c3) := ⟨cell_of_below hB (x0), cell_of_below hB (x1), cell_of_below hB (y0), cell_of_below hB (y1)⟩
          refine norm_ (a' := ?_) ?_ ?_
          rotate_left
          · simp only [putAll, Act.put, List.setIfInBounds_toArray, List.set_cons_zero, List.set_cons_succ]
            rfl
          refine one_ (i := 13) (N := some 6) #[true, true, true, true, true, true, true, true, true, true, true, true, true, true, false] rfl rfl (by kernel_rfl) (by decide) (fun K hK => ?_)
          refine value_ (w1 := ?_) (v := ?_) (by rfl) rfl ?_ ?_
          rotate_left 2
          · go_simp
            constructor
            · rfl
            · rfl
          have hq := b_alloc (o := .cells #[.slice none 0 0, .slice none 0 0] 43) (Below.refl wn.heap.size wn)
          have hn : w2.heap.size ≤ wn.heap.size ∧ (wn.alloc (.cells #[.slice none 0 0, .slice none 0 0] 43)).heap[wn.heap.size]? = some (.cells #[.slice none 0 0, .slice none 0 0] 43 (0, 0)) := ⟨hB.size, heap_alloc_new wn _⟩
          refine hK.out _ _ ⟨cell_of_below hq hHeld.1, cell_of_below hq hHeld.2.1, cell_of_below hq hHeld.2.2.1, cell_of_below hq hHeld.2.2.2⟩ (fun hHeld => ?_)
          clear hK K
          refine norm_ (a' := ?_) ?_ ?_
          rotate_left
          · show Act.put _ (some 6) _ = _
            simp only [Act.put, List.setIfInBounds_toArray, List.set_cons_zero, List.set_cons_succ]
            rfl
          exact norm_ (by first | (simp only [putAll, Act.put, List.setIfInBounds_toArray, List.set_cons_zero, List.set_cons_succ]; done) | (simp only [putAll, Act.put, List.setIfInBounds_toArray, List.set_cons_zero, List.set_cons_succ]; rfl)) (hJ4_5_10_11_13 ⟨z4_0, z5_0, z5_1, z10_0, z11_0, z11_1, _⟩ _ ⟨below_then hB hq, ⟨h4.1, block_of_below h4.2 hq⟩, Own.below h5 hq, ⟨h10.1, block_of_below h10.2 hq⟩, Own.below h11 hq, hn⟩)
      rintro ⟨z4_0, z5_0, z5_1, z10_0, z11_0, z11_1, z13_0⟩ wn ⟨hB, h4, h5, h10, h11, h13⟩
      try dsimp only at hB h4 h5 h10 h11 h13 ⊢
      have hHeld : wn.cell? ⟨BX, 0, none⟩ = some (.slice A0 a.nodes.length c0) ∧ wn.cell? ⟨BX, 1, none⟩ = some (.slice A1 a.links.length c1) ∧ wn.cell? ⟨BX + 1, 0, none⟩ = some (.slice A2 b.nodes.length c2) ∧ wn.cell? ⟨BX + 1, 1, none⟩ = some (.slice A3 b.links.length c3) := ⟨cell_of_below hB (x0), cell_of_below hB (x1), cell_of_below hB (y0), cell_of_below hB (y1)⟩
      refine norm_ (a' := ?_) ?_ ?_
      rotate_left
      · simp only [putAll, Act.put, List.setIfInBounds_toArray, List.set_cons_zero, List.set_cons_succ]
        rfl
      refine last_ (i := 14) (N := none) #[true, true, true, true, true, true, true, true, true, true, true, true, true, true, true] rfl rfl (by kernel_rfl) (by decide) (fun K hK => ?_)
      have k0 := cell_in h13.2 0 _ rfl
      have k1 := cell_in h13.2 1 _ rfl
      have r0 := frozen_of_row wn z13_0 0 _ _ h13.2
      have r1 := frozen_of_row wn z13_0 1 _ _ h13.2
      refine skip_ (w1 := ?_) (by rfl) rfl ?_ ?_
      rotate_left
      · go_simp
        rfl
      refine hK.out _ _ ?_
      clear hK K
      refine done_ (by kernel_rfl) ?_
      clear k0 k1 r0 r1 hHeld h4 h10
      obtain ⟨hg13, hrow⟩ := h13
      have hn5 := h5.apart_of hrow (by decide)
      have hn11 := h11.apart_of hrow (by decide)
      have hrow2 := heap_setCell_same _ z13_0 1 _ _ (.slice z11_0 (a.links.length + b.links.length) z11_1) (heap_setCell_same wn z13_0 0 _ _ (.slice z5_0 (a.nodes.length + b.nodes.length) z5_1) hrow)
      have ho5 := (h5.setCell_other (i := 0) (x := .slice z5_0 (a.nodes.length + b.nodes.length) z5_1) hn5).setCell_other (i := 1) (x := .slice z11_0 (a.links.length + b.links.length) z11_1) hn5
      have ho11 := (h11.setCell_other (i := 0) (x := .slice z5_0 (a.nodes.length + b.nodes.length) z5_1) hn11).setCell_other (i := 1) (x := .slice z11_0 (a.links.length + b.links.length) z11_1) hn11
      have hb5 : Below w2.heap.size w2 ((wn.setCell ⟨z13_0, 0, none⟩ (.slice z5_0 (a.nodes.length + b.nodes.length) z5_1)).setCell ⟨z13_0, 1, none⟩ (.slice z11_0 (a.links.length + b.links.length) z11_1)) := (hB.setCell (by exact hg13) _).setCell (by exact hg13) _
      obtain ⟨w5, hw5⟩ : ∃ w5, (wn.setCell ⟨z13_0, 0, none⟩ (.slice z5_0 (a.nodes.length + b.nodes.length) z5_1)).setCell ⟨z13_0, 1, none⟩ (.slice z11_0 (a.links.length + b.links.length) z11_1) = w5 := ⟨_, rfl⟩
      rw [hw5] at hrow2 ho5 ho11 hb5
      rw [hw5]
      replace hrow2 : w5.heap[z13_0]? = some (.cells #[.slice z5_0 (a.nodes.length + b.nodes.length) z5_1, .slice z11_0 (a.links.length + b.links.length) z11_1] 43 (0, 0)) := hrow2
      clear hw5 hrow hB h5 h11 hn5 hn11 x0 x1 y0 y1
      have HO5 := Lib.hid ho5
      have HO11 := Lib.hid ho11
      have HB5 := Lib.hid hb5
      have HROW := Lib.hid hrow2
      have HG := Lib.hid hg13
      have k0 := cell_in hrow2 0 _ rfl
      have k1 := cell_in hrow2 1 _ rfl
      clear ho5 ho11 hb5 hrow2 hg13
      simp only [Exit.then]
      go_wp2_with fail
      go_at_call 57; refine (sortI_g (a.nodes ++ b.nodes) _ _ w2.heap.size HO5.out (by simp; omega)).mono ?_; rintro e w6 ⟨rfl, ho6, hg6⟩
      have hrow6 := (hg6.block z13_0 (Array.getElem?_eq_some_iff.1 HROW.out).1 (fun e => HO5.out.apart_of HROW.out (by decide) e.symm)).trans HROW.out
      have ho66 := HO11.out.kept hg6 (HO11.out.apart_own HO5.out (by decide))
      have hb6 := HB5.out.grown hg6 HB5.out.size (fun x hx => (HO5.out.lt x hx).1)
      have HO6 := Lib.hid ho6
      have HO66 := Lib.hid ho66
      have HB6 := Lib.hid hb6
      have HROW6 := Lib.hid hrow6
      clear ho6 hg6 ho66 hb6 hrow6 k0 k1 HO5 HO11 HROW HB5
      have k0 := cell_in HROW6.out 0 _ rfl
      have k1 := cell_in HROW6.out 1 _ rfl
      go_wp2_with fail
      go_at_call 62; refine (sortFuncK_c (a.links ++ b.links) _ _ w2.heap.size HO66.out (by simp; omega)).mono ?_; rintro e w7 ⟨rfl, l', hp7, hs7, ho7, hg7⟩
      have hrow7 := (hg7.block z13_0 (Array.getElem?_eq_some_iff.1 HROW6.out).1 (fun e => HO66.out.apart_of HROW6.out (by decide) e.symm)).trans HROW6.out
      have ho77 := HO6.out.kept hg7 (HO6.out.apart_own HO66.out (by decide))
      have hb7 := HB6.out.grown hg7 HB6.out.size (fun x hx => (HO66.out.lt x hx).1)
      have hmc := merge_check HM.out HM2.out hp7 hs7
      have hlen := hp7.length_eq
      have HO7 := Lib.hid ho7
      have HO77 := Lib.hid ho77
      have HB7 := Lib.hid hb7
      have HROW7 := Lib.hid hrow7
      have HMC := Lib.hid hmc
      clear ho7 hg7 ho77 hb7 hrow7 k0 k1 hmc hp7 hs7 HO6 HO66 HROW6 HB6 hlen
      have k0 := cell_in HROW7.out 0 _ rfl
      have k1 := cell_in HROW7.out 1 _ rfl
      have hck := viewCheck_c ⟨sortI (a.nodes ++ b.nodes), l'⟩ _ _ w7 ⟨HO77.out.rd encI_len, HO7.out.rd encK_len⟩
      have HBW7 := Lib.hid (HBw2.out.trans (HB7.out.mono (by have := HBw2.out.size; rw [HBX.out] at this; exact this)))
      have hk2 := block_of_below HK2.out (below_then HB2.out HB7.out)
      cases hap : apartV a b
      · rw [HMC.out.2 hap] at hck
        have HCK := Lib.hid hck
        have HAP := Lib.hid hap
        clear hck hap
        go_wp2_with fail
        go_at_call 33; refine HCK.out.mono ?_; rintro e w8 ⟨rfl, hb8⟩
        have hk8 := block_of_below hk2 hb8
        have z0 := cell_in hk8 0 _ rfl
        have z1 := cell_in hk8 1 _ rfl
        have r0 := frozen_of_row w8 (BX + 1 + 1) 0 _ _ hk8
        have r1 := frozen_of_row w8 (BX + 1 + 1) 1 _ _ hk8
        have HB8 := Lib.hid (HBW7.out.trans (hb8.mono (by have := HBW7.out.size; rw [HBX.out] at this; exact this)))
        clear hb8 hk8 hk2 k0 k1
        go_wp2_with fail
        (try simp only [Exit.inBlock, Exit.then])
        refine bodyPost_ret (v := .tuple #[.agg #[.slice none 0 0, .slice none 0 0], .int .i64 11]) ?_ rfl (MergePost.err11 ?_ HM.out HM2.out HAP.out)
        · rw [results_cell_tmp rfl]; go_simp
        · rw [HBX.out]
          exact (HB8.out.setCell (by simp; omega) _).setCell (by simp; omega) _
      · obtain ⟨he, hm⟩ := HMC.out.1 hap
        rw [hm] at hck
        have HCK := Lib.hid hck
        have HAP := Lib.hid hap
        have HE := Lib.hid he
        clear hck hap he hm
        go_wp2_with fail
        go_at_call 33; refine HCK.out.mono ?_; rintro e w8 ⟨rfl, hb8⟩
        have hk8 := block_of_below hk2 hb8
        have z0 := cell_in hk8 0 _ rfl
        have z1 := cell_in hk8 1 _ rfl
        have r0 := frozen_of_row w8 (BX + 1 + 1) 0 _ _ hk8
        have r1 := frozen_of_row w8 (BX + 1 + 1) 1 _ _ hk8
        have HO8 := Lib.hid (HO7.out.below hb8)
        have HO88 := Lib.hid (HO77.out.below hb8)
        have HK8 := Lib.hid hk8
        have j0 := cell_in (block_of_below HROW7.out hb8) 0 _ rfl
        have j1 := cell_in (block_of_below HROW7.out hb8) 1 _ rfl
        have HB8 := Lib.hid (HBW7.out.trans (hb8.mono (by have := HBW7.out.size; rw [HBX.out] at this; exact this)))
        clear hb8 hk8 hk2 k0 k1
        go_wp2_with fail
        (try simp only [Exit.inBlock, Exit.then])
        refine bodyPost_ret (v := .tuple #[.agg #[.slice z5_0 (a.nodes.length + b.nodes.length) z5_1, .slice z11_0 (a.links.length + b.links.length) z11_1], .int .i64 0]) ?_ rfl (MergePost.ok ?_ HM.out HM2.out HAP.out ?_ ?_)
        · rw [results_cell_tmp rfl]; go_simp
        · rw [HBX.out]
          exact (HB8.out.setCell (by simp; omega) _).setCell (by simp; omega) _
        · have hn := HO88.out.apart_of HK8.out (by decide)
          exact (((HO88.out.setCell_other hn).setCell_other hn).base_le (by rw [HBX.out]; have := HBw2.out.size; rw [HBX.out] at this; exact this))
        · have hn := HO8.out.apart_of HK8.out (by decide)
          rw [← HE.out]
          exact (((HO8.out.setCell_other hn).setCell_other hn).base_le (by rw [HBX.out]; have := HBw2.out.size; rw [HBX.out] at this; exact this))

end Go.Proofs.Ytandminldgiheaa
