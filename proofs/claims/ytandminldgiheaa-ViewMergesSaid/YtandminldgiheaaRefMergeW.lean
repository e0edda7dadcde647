/- Walk: the reference's view of two. -/
import Derived.Test.YtandminldgiheaaVAt
import Derived.Test.YtandminldgiheaaStepA
import Derived.Test.YtandminldgiheaaWLast
import Derived.Test.YtandminldgiheaaRefViewW
import Derived.Laws.ResultCell
namespace Go.Proofs.Ytandminldgiheaa
open Go.RowKit Go.Proofs.YtandminldgiheaaW.PrintLast
attribute [local go_sem ↓] Go.wp_at_zero Go.wp_at_succ

def RMPost (a b : View) (w : World) (e : Ending) (w' : World) : Prop :=
  Below w.heap.size w w' ∧ (rmClash a b 64 = true → e = .returned (.tuple #[.agg #[.slice none 0 0, .slice none 0 0], .bool false])) ∧
  (rmClash a b 64 = false → ∃ vn vl, e = .returned (.tuple #[.agg #[vn, vl], .bool true]) ∧ OwnI w' w.heap.size 3 vn (rmNodes a b 64) ∧ OwnK w' w.heap.size 51 vl (rmLinks a b 64))
theorem rmClash_mono {a b : View} {n m : Nat} (h : n ≤ m) (hc : rmClash a b n = true) : rmClash a b m = true := by
  induction m with
  | zero => obtain rfl : n = 0 := by omega
            exact hc
  | succ m ih =>
    by_cases hn : n = m + 1
    · subst hn; exact hc
    · rw [rmClash_succ, ih (by omega), Bool.true_or]
theorem RMPost.no {a b : View} {w w' : World} {n : Nat} (hB : Below w.heap.size w w') (hn : n ≤ 64) (hc : rmClash a b n = true) : RMPost a b w (.returned (.tuple #[.agg #[.slice none 0 0, .slice none 0 0], .bool false])) w' :=
  ⟨hB, fun _ => rfl, fun h => (by rw [rmClash_mono hn hc] at h; cases h)⟩
theorem RMPost.ok {a b : View} {w w' : World} {vn vl : Value} (hB : Below w.heap.size w w') (hc : rmClash a b 64 = false) (h1 : OwnI w' w.heap.size 3 vn (rmNodes a b 64)) (h2 : OwnK w' w.heap.size 51 vl (rmLinks a b 64)) :
    RMPost a b w (.returned (.tuple #[.agg #[vn, vl], .bool true])) w' :=
  ⟨hB, fun h => (by rw [hc] at h; cases h), fun _ => ⟨vn, vl, rfl, h1, h2⟩⟩

set_option maxRecDepth 100000 in
set_option maxHeartbeats 8000000 in
theorem refMergeV_c (a b : View) (an al bn bl : Value) (w : World) (ha : RdV w an al a) (hb : RdV w bn bl b) (h1 : a.links.length ≤ 100000) (h2 : b.links.length ≤ 100000) :
    Calls Try.prog 36 #[.agg #[an, al], .agg #[bn, bl]] w (RMPost a b w) := by
  have HA := Lib.hid ha
  have HB := Lib.hid hb
  obtain ⟨A0, c0, rfl, _, _, _⟩ := ha.1
  obtain ⟨A1, c1, rfl, _, _, _⟩ := ha.2
  obtain ⟨A2, c2, rfl, _, _, _⟩ := hb.1
  obtain ⟨A3, c3, rfl, _, _, _⟩ := hb.2
  clear ha hb
  obtain ⟨W1, e1⟩ : ∃ W1, w.alloc (.cells #[.slice A0 a.nodes.length c0, .slice A1 a.links.length c1] 43) = W1 := ⟨_, rfl⟩
  have f1 := alloc_facts e1
  obtain ⟨W2, e2⟩ : ∃ W2, W1.alloc (.cells #[.slice A2 b.nodes.length c2, .slice A3 b.links.length c3] 43) = W2 := ⟨_, rfl⟩
  have f2 := alloc_facts e2
  obtain ⟨W3, e3⟩ : ∃ W3, W2.alloc (.cells #[.slice none 0 0, .slice none 0 0] 43) = W3 := ⟨_, rfl⟩
  have f3 := alloc_facts e3
  obtain ⟨W, e4⟩ : ∃ W, W3.alloc (.cells #[.slice none 0 0, .slice none 0 0] 43) = W := ⟨_, rfl⟩
  have f4 := alloc_facts e4
  obtain ⟨BX, hBX⟩ : ∃ BX, w.heap.size = BX := ⟨_, rfl⟩
  have k0 := f4.2.2.2 _ _ (f3.2.2.2 _ _ (f2.2.2.2 _ _ f1.1))
  have k1 := f4.2.2.2 _ _ (f3.2.2.2 _ _ f2.1)
  have k2 := f4.2.2.2 _ _ f3.1
  have k3 := f4.1
  have hb3 := below_then f1.2.2.1 (below_then f2.2.2.1 (below_then f3.2.2.1 f4.2.2.1))
  have hs1 : W1.heap.size = BX + 1 := by rw [f1.2.1, hBX]
  have hs2 : W2.heap.size = BX + 1 + 1 := by rw [f2.2.1, hs1]
  have hs3 : W3.heap.size = BX + 1 + 1 + 1 := by rw [f3.2.1, hs2]
  have hsz : W.heap.size = BX + 1 + 1 + 1 + 1 := by rw [f4.2.1, hs3]
  rw [hBX] at k0
  rw [hs1] at k1
  rw [hs2] at k2
  rw [hs3] at k3
  rw [hBX] at hb3
  have hcell : ∀ w', Below (BX + 1 + 1 + 1) W w' → w'.cell? ⟨BX, 0, none⟩ = some (.slice A0 a.nodes.length c0) ∧ w'.cell? ⟨BX, 1, none⟩ = some (.slice A1 a.links.length c1) ∧ w'.cell? ⟨BX + 1, 0, none⟩ = some (.slice A2 b.nodes.length c2) ∧ w'.cell? ⟨BX + 1, 1, none⟩ = some (.slice A3 b.links.length c3) ∧ w'.heap[BX + 1 + 1]? = some (.cells #[.slice none 0 0, .slice none 0 0] 43 (0, 0)) := fun w' hq => by
    have j0 := (hq.block BX (by omega)).trans k0
    have j1 := (hq.block (BX + 1) (by omega)).trans k1
    have j2 := (hq.block (BX + 1 + 1) (by omega)).trans k2
    exact ⟨cell_in j0 0 _ rfl, cell_in j0 1 _ rfl, cell_in j1 0 _ rfl, cell_in j1 1 _ rfl, j2⟩
  have hra : ∀ w', Below (BX + 1 + 1 + 1) W w' → RdV w' (.slice A0 a.nodes.length c0) (.slice A1 a.links.length c1) a := fun w' hq => HA.out.below (by rw [hBX]; exact hb3.trans (hq.mono (by omega)))
  have hrb : ∀ w', Below (BX + 1 + 1 + 1) W w' → RdV w' (.slice A2 b.nodes.length c2) (.slice A3 b.links.length c3) b := fun w' hq => HB.out.below (by rw [hBX]; exact hb3.trans (hq.mono (by omega)))
  have hv0 : VAt W W (BX + 1 + 1 + 1) (BX + 1 + 1 + 1) (.slice none 0 0) (.slice none 0 0) (rmNodes a b 0) (rmLinks a b 0) := ⟨k3, Nat.le_refl _, Own.nil _ _ _, Own.nil _ _ _, Below.refl _ _, by omega⟩
  have HCE := Lib.hid hcell
  have HRA := Lib.hid hra
  have HRB := Lib.hid hrb
  have HB3 := Lib.hid hb3
  have HBX := Lib.hid hBX
  have HV0 := Lib.hid hv0
  have HSZ := Lib.hid hsz
  clear f1 f2 f3 f4 k0 k1 k2 k3 hb3 hcell hra hrb hv0 hsz HA HB
  have HE4 := Lib.hid e4
  clear e4
  go_enter Try.func36, Try.ntmps36
  go_upto_region 2 with fail
  rw [HE4.out]
  clear e1 e2 e3 hBX hs1 hs2 hs3 HE4
  go_wp2_with fail
  go_loopw [7] (fun s7 wr => ∃ (n : Nat) (vn vl : Value), n ≤ 64 ∧ s7 = .int .i64 (↑n + 1) ∧ rmClash a b n = false ∧ VAt W wr (BX + 1 + 1 + 1) (BX + 1 + 1 + 1) vn vl (rmNodes a b n) (rmLinks a b n)) (fun s7 _ => 66 - (intOf s7).toNat)
  case atStart => exact ⟨0, _, _, by omega, rfl, rfl, HV0.out⟩
  case round =>
    clear HV0
    obtain ⟨n, vn, vl, hn64, rfl, hcl, hv⟩ := hrel
    have HV := Lib.hid hv
    have HCL := Lib.hid hcl
    obtain ⟨x0, x1, y0, y1, hr2⟩ := HCE.out wr hv.below
    obtain ⟨An, dn, rfl, _, _, _⟩ := hv.n.rd encI_len
    obtain ⟨Al, dl, rfl, _, _, _⟩ := hv.l.rd encK_len
    have z0 := hv.c0
    have z1 := hv.c1
    have q0 := hv.f0
    have q1 := hv.f1
    have HR2 := Lib.hid hr2
    clear hv hcl hr2
    by_cases hlt : n < 64
    · have hi0 : (n : Int) + 1 ≤ 64 := by omega
      have ha1 := fun w' hq => refIn_c a.nodes ((n : Int) + 1) _ w' (HRA.out w' hq).ns
      have hb1 := fun w' hq => refIn_c b.nodes ((n : Int) + 1) _ w' (HRB.out w' hq).ns
      have hsc := rmClash_succ a b n
      have hsn := rmNodes_succ a b n
      have hsl := rmLinks_succ a b n
      rw [HCL.out, Bool.false_or] at hsc
      obtain ⟨p, hp⟩ : ∃ p, decide ((n : Int) + 1 ∈ a.nodes) = p := ⟨_, rfl⟩
      obtain ⟨q, hq⟩ : ∃ q, decide ((n : Int) + 1 ∈ b.nodes) = q := ⟨_, rfl⟩
      rw [hp] at ha1 hsc hsn
      rw [hq] at hb1 hsc hsn
      have HA1 := Lib.hid ha1
      have HB1 := Lib.hid hb1
      have HSC := Lib.hid hsc
      have HSN := Lib.hid hsn
      have HSL := Lib.hid hsl
      have hnl := rmNodes_length a b n
      have hll := rmLinks_length a b n
      clear ha1 hb1 hsc hsn hsl hp hq
      by_cases hpq : p = true ∧ q = true
      · obtain ⟨rfl, rfl⟩ := hpq
        have w0 := cell_in HR2.out 0 _ rfl
        have w1 := cell_in HR2.out 1 _ rfl
        have r0 := frozen_of_row wr (BX + 1 + 1) 0 _ _ HR2.out
        have r1 := frozen_of_row wr (BX + 1 + 1) 1 _ _ HR2.out
        go_wp2_with (go_at_call 67; first | ((with_reducible refine (HA1.out _ HV.out.below).mono ?_); rintro e w' ⟨rfl, rfl⟩) | ((with_reducible refine (HB1.out _ HV.out.below).mono ?_); rintro e w' ⟨rfl, rfl⟩))
        (try simp only [Exit.inBlock, Exit.then])
        refine bodyPost_ret (v := .tuple #[.agg #[.slice none 0 0, .slice none 0 0], .bool false]) ?_ rfl (RMPost.no (n := n + 1) ?_ (by omega) (by rw [HSC.out]; rfl))
        · rw [results_cell_tmp rfl]; go_simp
        · rw [HBX.out]
          have hbb := HB3.out.trans (HV.out.below.mono (by omega))
          exact (hbb.setCell (by simp; omega) _).setCell (by simp; omega) _
      · have hno : (p && q) = false := by cases p <;> cases q <;> simp_all
        have hsc := HSC.out
        rw [hno] at hsc
        have HSC2 := Lib.hid hsc
        clear hno hsc HSC
        have hinner : ∀ vn1 vl1 ns1 (wr1 : World), VAt W wr1 (BX + 1 + 1 + 1) (BX + 1 + 1 + 1) vn1 vl1 ns1 (rmLinks a b n) → True := fun _ _ _ _ _ => trivial
        clear hinner
        obtain ⟨pq, hpq2⟩ : ∃ pq, (p || q) = pq := ⟨_, rfl⟩
        rw [hpq2] at HSN
        have HPQ := Lib.hid hpq
        have HPQ2 := Lib.hid hpq2
        clear hpq hpq2
        go_upto_region 5 with fail
        go_cut [24] (fun s24 wx => s24 = .bool false ∧ wr = wx)
        case first =>
          have h1 := HPQ.out
          cases p <;> cases q
          all_goals first
            | (exfalso; exact h1 ⟨rfl, rfl⟩)
            | (clear h1
               go_wp2_with (go_at_call 67; first | ((with_reducible refine (HA1.out _ HV.out.below).mono ?_); rintro e w' ⟨rfl, rfl⟩) | ((with_reducible refine (HB1.out _ HV.out.below).mono ?_); rintro e w' ⟨rfl, rfl⟩))
               go_meet
               exact ⟨rfl, rfl⟩)
        case rest =>
          obtain ⟨rfl, rfl⟩ := hcut
          go_upto_region 7 with fail
          go_cut [35] (fun s35 wx => s35 = .bool pq ∧ wr = wx)
          case first =>
            have h1 := HPQ2.out
            cases p <;> cases q
            all_goals
              (go_wp2_with (go_at_call 67; first | ((with_reducible refine (HA1.out _ HV.out.below).mono ?_); rintro e w' ⟨rfl, rfl⟩) | ((with_reducible refine (HB1.out _ HV.out.below).mono ?_); rintro e w' ⟨rfl, rfl⟩))
               go_meet
               exact ⟨by rw [← h1]; rfl, rfl⟩)
          case rest =>
            obtain ⟨rfl, rfl⟩ := hcut
            clear HPQ HPQ2 HA1 HB1
            go_upto_if 35 with fail
            go_cut [] (fun wx => ∃ vn2, VAt W wx (BX + 1 + 1 + 1) (BX + 1 + 1 + 1) vn2 (.slice Al (rmLinks a b n).length dl) (rmNodes a b (n + 1)) (rmLinks a b n))
            case first =>
              cases pq
              · go_wp2_with fail
                go_meet
                exact ⟨_, by rw [HSN.out]; simpa using HV.out⟩
              · go_wp2_with (at_builtin; refine wpList_append1 encI_len encI_one (BX + 1 + 1 + 1) (BX + 1 + 1 + 1) rfl _ _ 39 (.int .i64 0) 8 rfl Try.underlying39 infoI rfl (by decide) (by decide) _ (rmNodes a b n) ((n : Int) + 1) rfl rfl _ rfl (by simp) HV.out.n HV.out.below (Nat.le_refl _) HV.out.le (by omega) ?_; intro v1 w1 ho1 hb1 hg1 hat1; (obtain ⟨Av, dv, rfl, _, _, _⟩ := ho1.rd encI_len); (obtain ⟨⟨g0, g1⟩, hva⟩ := HV.out.addN ho1 hb1 hg1); clear ho1 hb1 hg1 hat1; simp only [List.length_append, List.length_singleton] at hva; have HVA := Lib.hid hva; clear hva)
                go_meet
                exact ⟨_, by rw [HSN.out, if_pos trivial]; exact HVA.out⟩
            case rest =>
            obtain ⟨vn2, hv2⟩ := hcut
            have HV2 := Lib.hid hv2
            clear hv2 x0 x1 y0 y1 z0 z1 q0 q1 HV HSN
            go_wp2_with fail
            go_loopw [8] (fun s8 wq => ∃ (i : Nat) (vl : Value), i ≤ a.links.length ∧ s8 = .int .i64 i ∧ VAt W wq (BX + 1 + 1 + 1) (BX + 1 + 1 + 1) vn2 vl (rmNodes a b (n + 1)) (rmLinks a b n ++ (a.links.take i).filter (fun k => decide (k.node = (n : Int) + 1)))) (fun s8 _ => a.links.length - (intOf s8).toNat)
            case atStart => exact ⟨0, _, by omega, rfl, by simpa using HV2.out⟩
            case round =>
              clear HV2
              obtain ⟨i, vl, hi, rfl, hv⟩ := hrel
              obtain ⟨ks, hks⟩ : ∃ ks, (rmLinks a b n ++ (a.links.take i).filter (fun k => decide (k.node = (n : Int) + 1))) = ks := ⟨_, rfl⟩
              rw [hks] at hv
              have HKS := Lib.hid hks
              have HV := Lib.hid hv
              obtain ⟨x0, x1, y0, y1, _⟩ := HCE.out wr hv.below
              obtain ⟨Al, dl, rfl, _, _, _⟩ := hv.l.rd encK_len
              have z0 := hv.c0
              have z1 := hv.c1
              have q1 := hv.f1
              have hrd := (HRA.out _ hv.below).ls
              clear hks
              clear hv
              by_cases hil : i < a.links.length
              · obtain ⟨A9, d9, e9, _, _, h39⟩ := hrd
                obtain ⟨b9, o9, rfl, _, g9⟩ := h39 (by intro h; rw [h] at hil; simp at hil)
                simp only [Value.slice.injEq, true_and] at e9
                obtain ⟨rfl, rfl⟩ := e9
                obtain ⟨j0, j1, j2, j3, j4⟩ := cells_K g9 i hil
                have hfs := filter_snoc hil ((n : Int) + 1)
                have hlf := List.length_filter_le (fun k : Known => decide (k.node = (n : Int) + 1)) (a.links.take i)
                have hlt2 : (a.links.take i).length ≤ 100000 := by rw [List.length_take]; omega
                have hi9 : (i : Int) < (a.links.length : Int) := by omega
                have hi8 : (0 : Int) ≤ (i : Int) := by omega
                obtain ⟨y, hy⟩ : ∃ y, a.links[i] = y := ⟨_, rfl⟩
                rw [hy] at j0 j1 j2 j3 j4 hfs
                clear g9 h39 hy
                by_cases hny : y.node = (n : Int) + 1
                · rw [if_pos hny] at hfs
                  have hd : (y.node == (n : Int) + 1) = true := by rw [beq_iff_eq]; exact hny
                  have HFS := Lib.hid hfs
                  have hlen : ks.length ≤ 400000 := by rw [← HKS.out, List.length_append]; first | omega | (rw [List.length_append]; have := List.length_filter_le (fun k : Known => decide (k.node = (n : Int) + 1)) a.links; omega)
                  clear hfs hny hlf hlt2
                  go_wp2_with fail
                  have HVD := Lib.hid (HV.out.on (b_drew (Below.refl _ wr)))
                  refine start_ (n := 11) (S := fun w' => w'.cell? ⟨BX + 1 + 1 + 1, 1, none⟩ = some (.slice Al ks.length dl) ∧ w'.cell? ⟨BX, 1, none⟩ = some (.slice (some ⟨b9, o9, none⟩) a.links.length c1) ∧ w'.cell? ⟨b9, o9 + i * 5, none⟩ = some (.int .i64 y.node) ∧ w'.cell? ⟨b9, o9 + i * 5 + 1, none⟩ = some (.int .i64 y.peer) ∧ w'.cell? ⟨b9, o9 + i * 5 + 2, none⟩ = some (.int .i64 y.w) ∧ w'.cell? ⟨b9, o9 + i * 5 + 3, none⟩ = some (.int .i64 y.session) ∧ w'.cell? ⟨b9, o9 + i * 5 + 4, none⟩ = some (.bool y.marked)) (ds := [8, 10]) #[false, false, false, false, false, false, false, false, false, false, false] (by kernel_rfl) rfl rfl ⟨z1, x1, j0, j1, j2, j3, j4⟩ (fun hHeld => ?_)
                  refine pure_ (i := 0) (N := some 57) (v := ?_) (a' := ?_) #[true, false, false, false, false, false, false, false, false, false, false] rfl rfl (by kernel_rfl) (fun _ _ _ h => h) (Or.inl ⟨by rfl, ?_⟩) ?_ ?_
                  rotate_left
                  · intro w'
                    go_simp
                    with_reducible rfl
                  rotate_left
                  · simp only [Act.put, List.setIfInBounds_toArray, List.set_cons_zero, List.set_cons_succ]
                    rfl
                  refine pure_ (i := 2) (N := some 59) (v := ?_) (a' := ?_) #[true, false, true, false, false, false, false, false, false, false, false] rfl rfl (by kernel_rfl) (fun _ _ _ h => h) (Or.inl ⟨by rfl, ?_⟩) ?_ ?_
                  rotate_left
                  · intro w'
                    go_simp
                    with_reducible rfl
                  rotate_left
                  · simp only [Act.put, List.setIfInBounds_toArray, List.set_cons_zero, List.set_cons_succ]
                    rfl
                  refine pure_ (i := 4) (N := some 61) (v := ?_) (a' := ?_) #[true, false, true, false, true, false, false, false, false, false, false] rfl rfl (by kernel_rfl) (fun _ _ _ h => h) (Or.inl ⟨by rfl, ?_⟩) ?_ ?_
                  rotate_left
                  · intro w'
                    go_simp
                    with_reducible rfl
                  rotate_left
                  · simp only [Act.put, List.setIfInBounds_toArray, List.set_cons_zero, List.set_cons_succ]
                    rfl
                  refine take_ (i := 1) (N := some 58) (v := ?_) (a' := ?_) #[true, true, true, false, true, false, false, false, false, false, false] rfl rfl (by kernel_rfl) (fun _ _ _ h => h) (Or.inl ⟨by rfl, ?_⟩) hHeld ?_ ?_
                  rotate_left
                  · rintro w' ⟨s0, s1, s2, s3, s4, s5, s6⟩
                    go_simp
                    with_reducible rfl
                  rotate_left
                  · simp only [Act.put, List.setIfInBounds_toArray, List.set_cons_zero, List.set_cons_succ]
                    rfl
                  refine take_ (i := 3) (N := some 60) (v := ?_) (a' := ?_) #[true, true, true, true, true, false, false, false, false, false, false] rfl rfl (by kernel_rfl) (fun _ _ _ h => h) (Or.inl ⟨by rfl, ?_⟩) hHeld ?_ ?_
                  rotate_left
                  · rintro w' ⟨s0, s1, s2, s3, s4, s5, s6⟩
                    go_simp
                    with_reducible rfl
                  rotate_left
                  · simp only [Act.put, List.setIfInBounds_toArray, List.set_cons_zero, List.set_cons_succ]
                    rfl
                  refine pure_ (i := 5) (N := some 62) (v := ?_) (a' := ?_) #[true, true, true, true, true, true, false, false, false, false, false] rfl rfl (by kernel_rfl) (fun _ _ _ h => h) (Or.inl ⟨by rfl, ?_⟩) ?_ ?_
                  rotate_left
                  · intro w'
                    go_simp
                    with_reducible rfl
                  rotate_left
                  · simp only [Act.put, List.setIfInBounds_toArray, List.set_cons_zero, List.set_cons_succ]
                    rfl
                  refine take_ (i := 6) (N := some 63) (v := ?_) (a' := ?_) #[true, true, true, true, true, true, true, false, false, false, false] rfl rfl (by kernel_rfl) (fun _ _ _ h => h) (Or.inl ⟨by rfl, ?_⟩) hHeld ?_ ?_
                  rotate_left
                  · rintro w' ⟨s0, s1, s2, s3, s4, s5, s6⟩
                    go_simp
                    with_reducible rfl
                  rotate_left
                  · simp only [Act.put, List.setIfInBounds_toArray, List.set_cons_zero, List.set_cons_succ]
                    rfl
                  refine one_ (i := 7) (N := some 64) #[true, true, true, true, true, true, true, true, false, false, false] rfl rfl (by kernel_rfl) (by decide) (fun K hK => ?_)
                  refine value_ (w1 := ?_) (v := ?_) (by rfl) rfl ?_ ?_
                  rotate_left 2
                  · go_simp
                    constructor
                    · rfl
                    · rfl
                  refine hK.out _ _ ⟨cell_alloc hHeld.1 _, cell_alloc hHeld.2.1 _, cell_alloc hHeld.2.2.1 _, cell_alloc hHeld.2.2.2.1 _, cell_alloc hHeld.2.2.2.2.1 _, cell_alloc hHeld.2.2.2.2.2.1 _, cell_alloc hHeld.2.2.2.2.2.2 _⟩ (fun hHeld => ?_)
                  clear hK K
                  refine norm_ (a' := ?_) ?_ ?_
                  rotate_left
                  · show Act.put _ (some 64) _ = _
                    simp only [Act.put, List.setIfInBounds_toArray, List.set_cons_zero, List.set_cons_succ]
                    rfl
                  refine last_ (i := 8) (N := some 65) #[true, true, true, true, true, true, true, true, true, false, false] rfl rfl (by kernel_rfl) (by decide) (fun K hK => ?_)
                  refine step_append1 encK_len encK_one (by rfl) _ _ 41 51 (.agg #[.int .i64 0, .int .i64 0, .int .i64 0, .int .i64 0, .bool false]) 40 (by rfl) Try.underlying41 infoK rfl (by decide) (y := y) (HVD.out.l.alloc _) (heap_alloc_new wr.drew _) rfl (by rfl) (by rfl) (by have := HVD.out.le; simp at this ⊢; omega) (by omega) (by omega) ?_
                  intro g cap w2 ho hg hat hlt2
                  have hvx := HVD.out.on (b_alloc (o := .cells #[.int .i64 y.node, .int .i64 y.peer, .int .i64 y.w, .int .i64 y.session, .bool y.marked] 51) (Below.refl wr.drew.heap.size wr.drew))
                  obtain ⟨⟨g0, g1⟩, hva⟩ := hvx.addL ho (hvx.below.grown hg hvx.le (fun b hb => (hvx.l.lt b hb).1)) hg
                  refine hK.out _ _ ?_
                  clear hK K
                  refine norm_ (a' := ?_) ?_ ?_
                  rotate_left
                  · show Act.put _ (some 65) _ = _
                    simp only [Act.put, List.setIfInBounds_toArray, List.set_cons_zero, List.set_cons_succ]
                    rfl
                  refine pure_ (i := 9) (N := some 66) (v := ?_) (a' := ?_) #[true, true, true, true, true, true, true, true, true, true, false] rfl rfl (by kernel_rfl) (fun _ _ _ h => h) (Or.inl ⟨by rfl, ?_⟩) ?_ ?_
                  rotate_left
                  · intro w'
                    go_simp
                    with_reducible rfl
                  rotate_left
                  · simp only [Act.put, List.setIfInBounds_toArray, List.set_cons_zero, List.set_cons_succ]
                    rfl
                  refine last_ (i := 10) (N := none) #[true, true, true, true, true, true, true, true, true, true, true] rfl rfl (by kernel_rfl) (by decide) (fun K hK => ?_)
                  refine skip_ (w1 := ?_) (by rfl) rfl ?_ ?_
                  rotate_left
                  · go_simp
                    rfl
                  refine hK.out _ _ ?_
                  clear hK K
                  refine done_ (by kernel_rfl) ?_
                  try simp only [Exit.then]
                  have HVA := Lib.hid hva
                  clear ho hg hat hlt2 hvx g0 g1 hva
                  go_wp2_with fail
                  go_roundw
                  case rel => exact ⟨i + 1, _, by omega, by go_num, by rw [HFS.out, ← List.append_assoc, HKS.out]; exact HVA.out⟩
                  case measure => (simp [intOf]) <;> omega
                · rw [if_neg hny, List.append_nil] at hfs
                  have hd : (y.node == (n : Int) + 1) = false := by rw [beq_eq_false_iff_ne]; exact hny
                  have HFS := Lib.hid hfs
                  clear hfs hny hlf
                  go_wp2_with fail
                  go_roundw
                  case rel => exact ⟨i + 1, _, by omega, by go_num, by rw [HFS.out, HKS.out]; exact HV.out⟩
                  case measure => (simp [intOf]) <;> omega
              · obtain rfl : i = a.links.length := by omega
                rw [List.take_length] at HKS
                go_wp2_with fail
                rw [← HKS.out] at HV
                have HV3 := HV
                clear HV x0 x1 y0 y1 z0 z1 q1 hrd
                have HV2 := HV3
                clear HV3
                go_loopw [9] (fun s8 wq => ∃ (i : Nat) (vl : Value), i ≤ b.links.length ∧ s8 = .int .i64 i ∧ VAt W wq (BX + 1 + 1 + 1) (BX + 1 + 1 + 1) vn2 vl (rmNodes a b (n + 1)) ((rmLinks a b n ++ a.links.filter (fun k => decide (k.node = (n : Int) + 1))) ++ (b.links.take i).filter (fun k => decide (k.node = (n : Int) + 1)))) (fun s8 _ => b.links.length - (intOf s8).toNat)
                case atStart => exact ⟨0, _, by omega, rfl, by simpa using HV2.out⟩
                case round =>
                  clear HV2
                  obtain ⟨i, vl, hi, rfl, hv⟩ := hrel
                  obtain ⟨ks, hks⟩ : ∃ ks, ((rmLinks a b n ++ a.links.filter (fun k => decide (k.node = (n : Int) + 1))) ++ (b.links.take i).filter (fun k => decide (k.node = (n : Int) + 1))) = ks := ⟨_, rfl⟩
                  rw [hks] at hv
                  have HKS := Lib.hid hks
                  have HV := Lib.hid hv
                  obtain ⟨x0, x1, y0, y1, _⟩ := HCE.out wr hv.below
                  obtain ⟨Al, dl, rfl, _, _, _⟩ := hv.l.rd encK_len
                  have z0 := hv.c0
                  have z1 := hv.c1
                  have q1 := hv.f1
                  have hrd := (HRB.out _ hv.below).ls
                  clear hks
                  clear hv
                  by_cases hil : i < b.links.length
                  · obtain ⟨A9, d9, e9, _, _, h39⟩ := hrd
                    obtain ⟨b9, o9, rfl, _, g9⟩ := h39 (by intro h; rw [h] at hil; simp at hil)
                    simp only [Value.slice.injEq, true_and] at e9
                    obtain ⟨rfl, rfl⟩ := e9
                    obtain ⟨j0, j1, j2, j3, j4⟩ := cells_K g9 i hil
                    have hfs := filter_snoc hil ((n : Int) + 1)
                    have hlf := List.length_filter_le (fun k : Known => decide (k.node = (n : Int) + 1)) (b.links.take i)
                    have hlt2 : (b.links.take i).length ≤ 100000 := by rw [List.length_take]; omega
                    have hi9 : (i : Int) < (b.links.length : Int) := by omega
                    have hi8 : (0 : Int) ≤ (i : Int) := by omega
                    obtain ⟨y, hy⟩ : ∃ y, b.links[i] = y := ⟨_, rfl⟩
                    rw [hy] at j0 j1 j2 j3 j4 hfs
                    clear g9 h39 hy
                    by_cases hny : y.node = (n : Int) + 1
                    · rw [if_pos hny] at hfs
                      have hd : (y.node == (n : Int) + 1) = true := by rw [beq_iff_eq]; exact hny
                      have HFS := Lib.hid hfs
                      have hlen : ks.length ≤ 400000 := by rw [← HKS.out, List.length_append]; first | omega | (rw [List.length_append]; have := List.length_filter_le (fun k : Known => decide (k.node = (n : Int) + 1)) a.links; omega)
                      clear hfs hny hlf hlt2
                      go_wp2_with fail
                      have HVD := Lib.hid (HV.out.on (b_drew (Below.refl _ wr)))
                      refine start_ (n := 11) (S := fun w' => w'.cell? ⟨BX + 1 + 1 + 1, 1, none⟩ = some (.slice Al ks.length dl) ∧ w'.cell? ⟨BX + 1, 1, none⟩ = some (.slice (some ⟨b9, o9, none⟩) b.links.length c3) ∧ w'.cell? ⟨b9, o9 + i * 5, none⟩ = some (.int .i64 y.node) ∧ w'.cell? ⟨b9, o9 + i * 5 + 1, none⟩ = some (.int .i64 y.peer) ∧ w'.cell? ⟨b9, o9 + i * 5 + 2, none⟩ = some (.int .i64 y.w) ∧ w'.cell? ⟨b9, o9 + i * 5 + 3, none⟩ = some (.int .i64 y.session) ∧ w'.cell? ⟨b9, o9 + i * 5 + 4, none⟩ = some (.bool y.marked)) (ds := [8, 10]) #[false, false, false, false, false, false, false, false, false, false, false] (by kernel_rfl) rfl rfl ⟨z1, y1, j0, j1, j2, j3, j4⟩ (fun hHeld => ?_)
                      refine pure_ (i := 0) (N := some 82) (v := ?_) (a' := ?_) #[true, false, false, false, false, false, false, false, false, false, false] rfl rfl (by kernel_rfl) (fun _ _ _ h => h) (Or.inl ⟨by rfl, ?_⟩) ?_ ?_
                      rotate_left
                      · intro w'
                        go_simp
                        with_reducible rfl
                      rotate_left
                      · simp only [Act.put, List.setIfInBounds_toArray, List.set_cons_zero, List.set_cons_succ]
                        rfl
                      refine pure_ (i := 2) (N := some 84) (v := ?_) (a' := ?_) #[true, false, true, false, false, false, false, false, false, false, false] rfl rfl (by kernel_rfl) (fun _ _ _ h => h) (Or.inl ⟨by rfl, ?_⟩) ?_ ?_
                      rotate_left
                      · intro w'
                        go_simp
                        with_reducible rfl
                      rotate_left
                      · simp only [Act.put, List.setIfInBounds_toArray, List.set_cons_zero, List.set_cons_succ]
                        rfl
                      refine pure_ (i := 4) (N := some 86) (v := ?_) (a' := ?_) #[true, false, true, false, true, false, false, false, false, false, false] rfl rfl (by kernel_rfl) (fun _ _ _ h => h) (Or.inl ⟨by rfl, ?_⟩) ?_ ?_
                      rotate_left
                      · intro w'
                        go_simp
                        with_reducible rfl
                      rotate_left
                      · simp only [Act.put, List.setIfInBounds_toArray, List.set_cons_zero, List.set_cons_succ]
                        rfl
                      refine take_ (i := 1) (N := some 83) (v := ?_) (a' := ?_) #[true, true, true, false, true, false, false, false, false, false, false] rfl rfl (by kernel_rfl) (fun _ _ _ h => h) (Or.inl ⟨by rfl, ?_⟩) hHeld ?_ ?_
                      rotate_left
                      · rintro w' ⟨s0, s1, s2, s3, s4, s5, s6⟩
                        go_simp
                        with_reducible rfl
                      rotate_left
                      · simp only [Act.put, List.setIfInBounds_toArray, List.set_cons_zero, List.set_cons_succ]
                        rfl
                      refine take_ (i := 3) (N := some 85) (v := ?_) (a' := ?_) #[true, true, true, true, true, false, false, false, false, false, false] rfl rfl (by kernel_rfl) (fun _ _ _ h => h) (Or.inl ⟨by rfl, ?_⟩) hHeld ?_ ?_
                      rotate_left
                      · rintro w' ⟨s0, s1, s2, s3, s4, s5, s6⟩
                        go_simp
                        with_reducible rfl
                      rotate_left
                      · simp only [Act.put, List.setIfInBounds_toArray, List.set_cons_zero, List.set_cons_succ]
                        rfl
                      refine pure_ (i := 5) (N := some 87) (v := ?_) (a' := ?_) #[true, true, true, true, true, true, false, false, false, false, false] rfl rfl (by kernel_rfl) (fun _ _ _ h => h) (Or.inl ⟨by rfl, ?_⟩) ?_ ?_
                      rotate_left
                      · intro w'
                        go_simp
                        with_reducible rfl
                      rotate_left
                      · simp only [Act.put, List.setIfInBounds_toArray, List.set_cons_zero, List.set_cons_succ]
                        rfl
                      refine take_ (i := 6) (N := some 88) (v := ?_) (a' := ?_) #[true, true, true, true, true, true, true, false, false, false, false] rfl rfl (by kernel_rfl) (fun _ _ _ h => h) (Or.inl ⟨by rfl, ?_⟩) hHeld ?_ ?_
                      rotate_left
                      · rintro w' ⟨s0, s1, s2, s3, s4, s5, s6⟩
                        go_simp
                        with_reducible rfl
                      rotate_left
                      · simp only [Act.put, List.setIfInBounds_toArray, List.set_cons_zero, List.set_cons_succ]
                        rfl
                      refine one_ (i := 7) (N := some 89) #[true, true, true, true, true, true, true, true, false, false, false] rfl rfl (by kernel_rfl) (by decide) (fun K hK => ?_)
                      refine value_ (w1 := ?_) (v := ?_) (by rfl) rfl ?_ ?_
                      rotate_left 2
                      · go_simp
                        constructor
                        · rfl
                        · rfl
                      refine hK.out _ _ ⟨cell_alloc hHeld.1 _, cell_alloc hHeld.2.1 _, cell_alloc hHeld.2.2.1 _, cell_alloc hHeld.2.2.2.1 _, cell_alloc hHeld.2.2.2.2.1 _, cell_alloc hHeld.2.2.2.2.2.1 _, cell_alloc hHeld.2.2.2.2.2.2 _⟩ (fun hHeld => ?_)
                      clear hK K
                      refine norm_ (a' := ?_) ?_ ?_
                      rotate_left
                      · show Act.put _ (some 89) _ = _
                        simp only [Act.put, List.setIfInBounds_toArray, List.set_cons_zero, List.set_cons_succ]
                        rfl
                      refine last_ (i := 8) (N := some 90) #[true, true, true, true, true, true, true, true, true, false, false] rfl rfl (by kernel_rfl) (by decide) (fun K hK => ?_)
                      refine step_append1 encK_len encK_one (by rfl) _ _ 41 51 (.agg #[.int .i64 0, .int .i64 0, .int .i64 0, .int .i64 0, .bool false]) 40 (by rfl) Try.underlying41 infoK rfl (by decide) (y := y) (HVD.out.l.alloc _) (heap_alloc_new wr.drew _) rfl (by rfl) (by rfl) (by have := HVD.out.le; simp at this ⊢; omega) (by omega) (by omega) ?_
                      intro g cap w2 ho hg hat hlt2
                      have hvx := HVD.out.on (b_alloc (o := .cells #[.int .i64 y.node, .int .i64 y.peer, .int .i64 y.w, .int .i64 y.session, .bool y.marked] 51) (Below.refl wr.drew.heap.size wr.drew))
                      obtain ⟨⟨g0, g1⟩, hva⟩ := hvx.addL ho (hvx.below.grown hg hvx.le (fun b hb => (hvx.l.lt b hb).1)) hg
                      refine hK.out _ _ ?_
                      clear hK K
                      refine norm_ (a' := ?_) ?_ ?_
                      rotate_left
                      · show Act.put _ (some 90) _ = _
                        simp only [Act.put, List.setIfInBounds_toArray, List.set_cons_zero, List.set_cons_succ]
                        rfl
                      refine pure_ (i := 9) (N := some 91) (v := ?_) (a' := ?_) #[true, true, true, true, true, true, true, true, true, true, false] rfl rfl (by kernel_rfl) (fun _ _ _ h => h) (Or.inl ⟨by rfl, ?_⟩) ?_ ?_
                      rotate_left
                      · intro w'
                        go_simp
                        with_reducible rfl
                      rotate_left
                      · simp only [Act.put, List.setIfInBounds_toArray, List.set_cons_zero, List.set_cons_succ]
                        rfl
                      refine last_ (i := 10) (N := none) #[true, true, true, true, true, true, true, true, true, true, true] rfl rfl (by kernel_rfl) (by decide) (fun K hK => ?_)
                      refine skip_ (w1 := ?_) (by rfl) rfl ?_ ?_
                      rotate_left
                      · go_simp
                        rfl
                      refine hK.out _ _ ?_
                      clear hK K
                      refine done_ (by kernel_rfl) ?_
                      try simp only [Exit.then]
                      have HVA := Lib.hid hva
                      clear ho hg hat hlt2 hvx g0 g1 hva
                      go_wp2_with fail
                      go_roundw
                      case rel => exact ⟨i + 1, _, by omega, by go_num, by rw [HFS.out, ← List.append_assoc, HKS.out]; exact HVA.out⟩
                      case measure => (simp [intOf]) <;> omega
                    · rw [if_neg hny, List.append_nil] at hfs
                      have hd : (y.node == (n : Int) + 1) = false := by rw [beq_eq_false_iff_ne]; exact hny
                      have HFS := Lib.hid hfs
                      clear hfs hny hlf
                      go_wp2_with fail
                      go_roundw
                      case rel => exact ⟨i + 1, _, by omega, by go_num, by rw [HFS.out, HKS.out]; exact HV.out⟩
                      case measure => (simp [intOf]) <;> omega
                  · obtain rfl : i = b.links.length := by omega
                    rw [List.take_length] at HKS
                    go_wp2_with fail
                    go_roundw
                    case rel => exact ⟨n + 1, _, _, by omega, by go_num, HSC2.out, by rw [HSL.out, ← List.append_assoc, HKS.out]; exact HV.out⟩
                    case measure => (simp [intOf]) <;> omega
    · obtain rfl : n = 64 := by omega
      have w0 := cell_in HR2.out 0 _ rfl
      have w1 := cell_in HR2.out 1 _ rfl
      have r0 := frozen_of_row wr (BX + 1 + 1) 0 _ _ HR2.out
      have r1 := frozen_of_row wr (BX + 1 + 1) 1 _ _ HR2.out
      go_wp2_with fail
      (try simp only [Exit.inBlock, Exit.then])
      refine bodyPost_ret (v := .tuple #[.agg #[.slice An (rmNodes a b 64).length dn, .slice Al (rmLinks a b 64).length dl], .bool true]) ?_ rfl (RMPost.ok ?_ HCL.out ?_ ?_)
      · rw [results_cell_tmp rfl]; go_simp
      · rw [HBX.out]
        have hbb := HB3.out.trans (HV.out.below.mono (by omega))
        exact (hbb.setCell (by simp; omega) _).setCell (by simp; omega) _
      · have hn := HV.out.n.apart_of HR2.out (by decide)
        exact ((HV.out.n.setCell_other hn).setCell_other hn).base_le (by rw [HBX.out]; omega)
      · have hn := HV.out.l.apart_of HR2.out (by decide)
        exact ((HV.out.l.setCell_other hn).setCell_other hn).base_le (by rw [HBX.out]; omega)

end Go.Proofs.Ytandminldgiheaa
