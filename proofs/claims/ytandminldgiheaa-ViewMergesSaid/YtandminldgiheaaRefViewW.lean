/- Walks: the reference's test of a view. -/
import Derived.Test.YtandminldgiheaaViewCheckW
namespace Go.Proofs.Ytandminldgiheaa
open Go.RowKit
attribute [local go_sem ↓] Go.wp_at_zero Go.wp_at_succ

set_option maxHeartbeats 1000000 in
theorem refIn_c (l : List Int) (n : Int) (v : Value) (w : World) (hv : RdI w v l) :
    Calls Try.prog 67 #[v, .int .i64 n] w fun e w' => e = .returned (.bool (decide (n ∈ l))) ∧ w = w' := by
  obtain ⟨A0, c0, rfl, h10, h20, h30⟩ := hv
  have hn : l.length ≤ 9223372036854775807 := by omega
  clear h10 h20
  go_enter Try.func67, Try.ntmps67
  go_wp2
  go_loop [5] (fun i => ∃ k : Nat, k ≤ l.length ∧ i = .int .i64 k ∧ (∀ i x, i < k → l[i]? = some x → x ≠ n)) (fun i => l.length - (intOf i).toNat)
  case atStart => exact ⟨0, by omega, rfl, by omega⟩
  case round =>
    obtain ⟨k, hk, rfl, hs⟩ := hrel
    have HS := Lib.hid hs
    clear hs
    by_cases hlt : k < l.length
    · obtain ⟨b0, o0, rfl, _, g0⟩ := h30 (by intro h; subst h; simp at hlt)
      have x0 := cells_I g0 k hlt
      clear g0 h30
      have hi0 : (k : Int) < (l.length : Int) := by omega
      by_cases he : l[k] = n
      · have hd : (l[k] == n) = true := by simp [he]
        have HE := Lib.hid he
        clear he
        go_wp2
        go_ret
        exact ⟨ret_b (by symm; rw [decide_eq_true_iff]; exact HE.out ▸ List.getElem_mem hlt), rfl⟩
      · have hd : (l[k] == n) = false := by simpa using he
        have HE := Lib.hid he
        clear he
        go_wp2
        go_round
        case rel => exact ⟨k + 1, by omega, by go_num, fun i x hi hx => by
          by_cases h : i < k
          · exact HS.out i x h hx
          · obtain rfl : i = k := by omega
            rw [List.getElem?_eq_getElem hlt] at hx
            obtain rfl := Option.some.inj hx
            exact HE.out⟩
        case measure => (simp [intOf]) <;> omega
    · go_wp2
      go_ret
      exact ⟨ret_b (by
        symm
        rw [decide_eq_false_iff_not]
        intro hm
        obtain ⟨i, hi, he⟩ := List.getElem_of_mem hm
        exact HS.out i _ (by omega) (List.getElem?_eq_getElem hi) he), rfl⟩

set_option maxHeartbeats 1000000 in
theorem refAhead_c (x y : Known) (w : World) :
    Calls Try.prog 68 #[.agg #[.int .i64 x.node, .int .i64 x.peer, .int .i64 x.w, .int .i64 x.session, .bool x.marked], .agg #[.int .i64 y.node, .int .i64 y.peer, .int .i64 y.w, .int .i64 y.session, .bool y.marked]] w fun e w' => e = .returned (.bool (aheadK x y)) ∧ Below w.heap.size w w' := by
  go_enter Try.func68, Try.ntmps68
  go_wp2
  all_goals (go_ret; refine ⟨ret_b ?_, ((Below.refl _ w).alloc (Nat.le_refl _) _).alloc (by simp) _⟩; unfold aheadK; simp_all; try omega)

set_option maxRecDepth 100000 in
set_option maxHeartbeats 8000000 in
theorem refMayV_c (x : View) (vn vl : Value) (w : World) (hv : RdV w vn vl x) :
    Calls Try.prog 34 #[.agg #[vn, vl]] w fun e w' => e = .returned (.bool (mayV x)) ∧ Below w.heap.size w w' := by
  obtain ⟨ns, ls⟩ := x
  obtain ⟨hv1, hv2⟩ := hv
  have HV1 := Lib.hid hv1
  have HV2 := Lib.hid hv2
  obtain ⟨A0, c0, rfl, h10, h20, h30⟩ := hv1
  obtain ⟨A1, c1, rfl, h11, h21, h31⟩ := hv2
  simp only at *
  have hn : ns.length ≤ 9223372036854775807 := by omega
  have hm : ls.length ≤ 9223372036854775807 := by omega
  have hmay := mayV_eq ⟨ns, ls⟩
  simp only at hmay
  have HMAY := Lib.hid hmay
  clear h10 h20 h11 h21 h31 h30 hmay
  obtain ⟨W, hW⟩ : ∃ W, w.alloc (.cells #[.slice A0 ns.length c0, .slice A1 ls.length c1] 43) = W := ⟨_, rfl⟩
  obtain ⟨BX, hBX⟩ : ∃ BX, w.heap.size = BX := ⟨_, rfl⟩
  have f1 := alloc_facts hW
  have HBX := Lib.hid f1.2.2.1
  have hbox := f1.1
  rw [hBX] at hbox
  have E0 := cell_in hbox 0 _ rfl
  have E1 := cell_in hbox 1 _ rfl
  have HV1' := Lib.hid (HV1.out.below HBX.out)
  have HV2' := Lib.hid (HV2.out.below HBX.out)
  clear f1 hbox HV1 HV2
  go_enter Try.func34, Try.ntmps34
  go_wp2_with fail
  clear hW hBX
  go_loopw [3] (fun i wr => ∃ k : Nat, k ≤ ns.length ∧ i = .int .i64 k ∧ nodesTill (ns.take k) = true ∧ Below W.heap.size W wr) (fun i _ => ns.length - (intOf i).toNat)
  case atStart => exact ⟨0, by omega, rfl, rfl, Below.refl _ _⟩
  case round =>
    obtain ⟨k, hk, rfl, hs, hb⟩ := hrel
    have HS := Lib.hid hs
    have HB := Lib.hid hb
    have e0 := cell_of_below hb E0
    have e1 := cell_of_below hb E1
    clear hs hb
    by_cases hlt : k < ns.length
    · have hsu := nodesTill_succ hlt
      rw [HS.out, Bool.true_and] at hsu
      obtain ⟨A2, c2, q2, _, _, h30⟩ := HV1'.out.below HB.out
      obtain ⟨b0, o0, rfl, _, g0⟩ := h30 (by intro h; subst h; simp at hlt)
      simp only [Value.slice.injEq, true_and] at q2
      obtain ⟨rfl, rfl⟩ := q2
      have x0 := cells_I g0 k hlt
      have hi0 : (k : Int) < (ns.length : Int) := by omega
      have hi1 : (0 : Int) ≤ (k : Int) := by omega
      cases hno : node ns[k]
      · rw [hno, Bool.false_and] at hsu
        have hans : mayV ⟨ns, ls⟩ = false := by rw [HMAY.out, nodesTill_false _ hsu]; rfl
        have HANS := Lib.hid hans
        have hc := fun W => refNode_c ns[k] W
        rw [hno] at hc
        have HC := Lib.hid hc
        clear hc hno hsu hans g0 h30
        go_wp2_with fail
        go_quiet ((go_at_call 46; exact quiet_S (HC.out _)))
        go_wp2_with fail
        go_ret
        exact ⟨ret_b HANS.out.symm, below_then HBX.out (below_drewN HB.out _)⟩
      · rw [hno, Bool.true_and] at hsu
        have hc := fun W => refNode_c ns[k] W
        rw [hno] at hc
        have HC := Lib.hid hc
        clear hc hno
        by_cases hk0 : k = 0
        · subst hk0
          rw [Nat.add_zero] at x0
          have HSU := Lib.hid hsu
          have dz : decide ((0 : Int) < 0) = false := by simp
          clear g0 h30 hsu
          go_wp2_with fail
          go_quiet ((go_at_call 46; exact quiet_S (HC.out _)))
          go_wp2_with fail
          go_roundw
          case rel => exact ⟨1, by omega, rfl, HSU.out, below_drewN HB.out _⟩
          case measure => (simp [intOf]) <;> omega
        · obtain ⟨m, rfl⟩ : ∃ m, k = m + 1 := ⟨k - 1, by omega⟩
          have y0 := cells_I g0 m (by omega)
          have h9 : (0 : Int) < (m : Int) + 1 := by omega
          have dz : decide ((0 : Int) < (m : Int) + 1) = true := by rw [decide_eq_true_iff]; omega
          rw [dif_pos (by omega)] at hsu
          simp only [Nat.add_sub_cancel, ltI] at hsu
          have hi9 : (m : Int) < (ns.length : Int) := by omega
          have hi8 : (0 : Int) ≤ (m : Int) := by omega
          have wz : IntKind.i64.wrap (m : Int) = (m : Int) := by rw [IntKind.wrap_i64]; omega
          have HSU := Lib.hid hsu
          clear hsu g0 h30
          obtain ⟨p, hp⟩ : ∃ p, ns[m] = p := ⟨_, rfl⟩
          obtain ⟨q, hq⟩ : ∃ q, ns[m + 1] = q := ⟨_, rfl⟩
          rw [hp] at y0 HSU
          rw [hq] at x0 HSU HC
          clear hp hq
          by_cases hle : q ≤ p
          · have hans : mayV ⟨ns, ls⟩ = false := by
              rw [HMAY.out, nodesTill_false (m + 1 + 1) (by rw [HSU.out]; simp; omega)]; rfl
            have HANS := Lib.hid hans
            have dc : decide (q ≤ p) = true := by rw [decide_eq_true_iff]; exact hle
            clear hans
            go_wp2_with fail
            go_quiet ((go_at_call 46; exact quiet_S (HC.out _)))
            go_wp2_with fail
            go_ret
            exact ⟨ret_b HANS.out.symm, below_then HBX.out (below_drewN HB.out _)⟩
          · have dc : decide (q ≤ p) = false := by rw [decide_eq_false_iff_not]; exact hle
            go_wp2_with fail
            go_quiet ((go_at_call 46; exact quiet_S (HC.out _)))
            go_wp2_with fail
            go_roundw
            case rel => exact ⟨m + 1 + 1, by omega, by go_num, by rw [HSU.out]; simp; omega, below_drewN HB.out _⟩
            case measure => (simp [intOf]) <;> omega
    · obtain rfl : k = ns.length := by omega
      rw [List.take_length] at HS
      go_wp2_with fail
      go_loopw [4] (fun i wq => ∃ k : Nat, k ≤ ls.length ∧ i = .int .i64 k ∧ linksTill ns (ls.take k) = true ∧ Below W.heap.size W wq) (fun i _ => ls.length - (intOf i).toNat)
      case atStart => exact ⟨0, by omega, rfl, rfl, HB.out⟩
      case round =>
        clear e0 e1 HB
        obtain ⟨k, hk, rfl, hs, hb⟩ := hrel
        have HL := Lib.hid hs
        have HB := Lib.hid hb
        have e0 := cell_of_below hb E0
        have e1 := cell_of_below hb E1
        clear hs hb
        by_cases hlt : k < ls.length
        · have hsu := linksTill_succ ns hlt
          rw [HL.out, Bool.true_and] at hsu
          obtain ⟨A2, c2, q2, _, _, h32⟩ := HV2'.out.below HB.out
          obtain ⟨b1, o1, rfl, _, g1⟩ := h32 (by intro h; subst h; simp at hlt)
          simp only [Value.slice.injEq, true_and] at q2
          obtain ⟨rfl, rfl⟩ := q2
          obtain ⟨x0, x1, x2, x3, x4⟩ := cells_K g1 k hlt
          have hi0 : (k : Int) < (ls.length : Int) := by omega
          have hcn := fun W => refNode_c ls[k].peer W
          have hci := fun w' (hb : Below W.heap.size W w') => refIn_c ns ls[k].node _ w' (HV1'.out.below hb)
          have hsz := HB.out.size
          have hbz := (Below.refl wr.heap.size wr).alloc (Nat.le_refl _) (.cells #[.int .i64 ls[k].node, .int .i64 ls[k].peer, .int .i64 ls[k].w, .int .i64 ls[k].session, .bool ls[k].marked] 51)
          have HB1 := Lib.hid (below_then HB.out hbz)
          have e0 := cell_of_below hbz e0
          have e1 := cell_of_below hbz e1
          have hord := fun (hk0 : 0 < k) W => refAhead_c ls[k - 1] ls[k] W
          have hprev : 0 < k → ∃ m, k = m + 1 ∧ (wr.cell? ⟨b1, o1 + m * 5, none⟩ = some (.int .i64 ls[k - 1].node) ∧ wr.cell? ⟨b1, o1 + m * 5 + 1, none⟩ = some (.int .i64 ls[k - 1].peer) ∧ wr.cell? ⟨b1, o1 + m * 5 + 2, none⟩ = some (.int .i64 ls[k - 1].w) ∧ wr.cell? ⟨b1, o1 + m * 5 + 3, none⟩ = some (.int .i64 ls[k - 1].session) ∧ wr.cell? ⟨b1, o1 + m * 5 + 4, none⟩ = some (.bool ls[k - 1].marked)) := by
            intro h0
            obtain ⟨m, rfl⟩ : ∃ m, k = m + 1 := ⟨k - 1, by omega⟩
            refine ⟨m, rfl, ?_⟩
            have := cells_K g1 m (by omega)
            simpa using this
          clear hbz g1 h32
          obtain ⟨x, hx⟩ : ∃ x, ls[k] = x := ⟨_, rfl⟩
          rw [hx] at x0 x1 x2 x3 x4 hsu hcn hci hord HB1 e0 e1
          have HORD := Lib.hid hord
          have HPREV := Lib.hid hprev
          have hcase := link_cases ns x true true
          have hansf : linkOk ns x = false → mayV ⟨ns, ls⟩ = false := fun h => by rw [HMAY.out, linksTill_false (k + 1) (by rw [hsu, h, Bool.false_and]), Bool.and_false]
          have HANF := Lib.hid hansf
          obtain ⟨bn, hbn⟩ : ∃ bn, node x.peer = bn := ⟨_, rfl⟩
          obtain ⟨bi, hbi⟩ : ∃ bi, decide (x.node ∈ ns) = bi := ⟨_, rfl⟩
          rw [hbn] at hcn hcase
          rw [hbi] at hci hcase
          have HCN := Lib.hid hcn
          have HCI := Lib.hid hci
          have hlk : linkOk ns x = (bn && !decide (x.peer = x.node) && decide (0 ≤ x.w) && decide (x.w ≤ 2147483647) && decide (1 ≤ x.session) && decide (x.session ≤ 2147483647) && bi) := by unfold linkOk; rw [hbn, hbi]
          have HLK := Lib.hid hlk
          have HSU := Lib.hid hsu
          clear hcn hci hord hprev hx hansf hbn hbi hcase hlk hsu
          cases bi
          · have HANS := Lib.hid (HANF.out (by rw [HLK.out]; simp))
            go_wp2_with (first | (go_at_call 67; refine (HCI.out _ HB1.out).mono ?_; rintro e w' ⟨rfl, rfl⟩))
            go_ret
            exact ⟨ret_b HANS.out.symm, below_then HBX.out HB1.out⟩
          cases bn
          · have HANS := Lib.hid (HANF.out (by rw [HLK.out]; simp))
            go_wp2_with (first | (go_at_call 67; refine (HCI.out _ HB1.out).mono ?_; rintro e w' ⟨rfl, rfl⟩) | (go_at_call 46; refine (HCN.out _).mono ?_; rintro e w' ⟨rfl, rfl⟩))
            go_ret
            exact ⟨ret_b HANS.out.symm, below_then HBX.out HB1.out⟩
          by_cases hall : x.peer ≠ x.node ∧ 0 ≤ x.w ∧ x.w ≤ 2147483647 ∧ 1 ≤ x.session ∧ x.session ≤ 2147483647
          · obtain ⟨a1, a2, a3, a4, a5⟩ := hall
            have hgood : linkOk ns x = true := by rw [HLK.out]; simp [a1, a2, a3, a4, a5]
            have hsu := HSU.out
            rw [hgood, Bool.true_and] at hsu
            have d1 : (x.node == x.peer) = false := by rw [beq_eq_false_iff_ne]; exact fun h => a1 h.symm
            have d2 : ¬ (x.w < 0) := by omega
            have d3 : ¬ (2147483647 < x.w) := by omega
            have d4 : ¬ (x.session < 1) := by omega
            have d5 : ¬ (2147483647 < x.session) := by omega
            clear a1 hgood
            by_cases hk0 : k = 0
            · subst hk0
              simp only [Nat.zero_mul, Nat.add_zero] at x0 x1 x2 x3 x4
              have HSU := Lib.hid hsu
              have dz : decide ((0 : Int) < 0) = false := by simp
              clear hsu HPREV HORD
              go_wp2_with (first | (go_at_call 67; refine (HCI.out _ HB1.out).mono ?_; rintro e w' ⟨rfl, rfl⟩) | (go_at_call 46; refine (HCN.out _).mono ?_; rintro e w' ⟨rfl, rfl⟩))
              go_quiet (fail)
              go_wp2_with fail
              go_roundw
              case rel => exact ⟨1, by omega, rfl, HSU.out, below_drewN HB1.out _⟩
              case measure => (simp [intOf]) <;> omega
            · obtain ⟨m, rfl, y0, y1, y2, y3, y4⟩ := HPREV.out (by omega)
              have hord := HORD.out (by omega)
              rw [dif_pos (by omega)] at hsu
              obtain ⟨y, hy⟩ : ∃ y, ls[m + 1 - 1] = y := ⟨_, rfl⟩
              rw [hy] at hsu hord y0 y1 y2 y3 y4
              have dz : decide ((0 : Int) < (m : Int) + 1) = true := by rw [decide_eq_true_iff]; omega
              have hi8 : (0 : Int) ≤ (m : Int) := by omega
              have hi9 : (m : Int) < (ls.length : Int) := by omega
              have wz : IntKind.i64.wrap (m : Int) = (m : Int) := by rw [IntKind.wrap_i64]; omega
              have hans : aheadK y x = false → mayV ⟨ns, ls⟩ = false := fun h => by rw [HMAY.out, linksTill_false (m + 1 + 1) (by rw [hsu, h]), Bool.and_false]
              have HANS := Lib.hid hans
              obtain ⟨q, hq⟩ : ∃ q, aheadK y x = q := ⟨_, rfl⟩
              rw [hq] at hord hsu
              have HQ := Lib.hid hq
              have HO := Lib.hid hord
              have HSU := Lib.hid hsu
              clear hord hy hq hsu hans HPREV HORD
              cases q
              all_goals
                go_wp2_with (first | (go_at_call 67; refine (HCI.out _ HB1.out).mono ?_; rintro e w' ⟨rfl, rfl⟩) | (go_at_call 46; refine (HCN.out _).mono ?_; rintro e w' ⟨rfl, rfl⟩))
                refine region_tail 10 (by kernel_rfl) (by kernel_rfl) ?_
                simp only [List.take_succ_cons, List.take_zero, List.drop_succ_cons, List.drop_zero]
                repeat still_step
                refine wpStill_nil ?_
                go_wp2_with fail
                go_at_call 68; refine (HO.out _).mono ?_; rintro e w2 ⟨rfl, hbo⟩
                go_wp2_with fail
              · go_ret
                exact ⟨ret_b (HANS.out HQ.out).symm, below_then HBX.out (below_then (below_drew HB1.out) hbo)⟩
              · go_roundw
                case rel => exact ⟨m + 1 + 1, by omega, by go_num, HSU.out, below_then (below_drew HB1.out) hbo⟩
                case measure => (simp [intOf]) <;> omega
          · have hbad : linkOk ns x = false := by
              rw [HLK.out, Bool.eq_false_iff]
              intro h
              simp at h
              exact hall ⟨h.1.1.1.1, h.1.1.1.2, h.1.1.2, h.1.2, h.2⟩
            have HANS := Lib.hid (HANF.out hbad)
            have HALL := Lib.hid hall
            clear hall hbad HPREV HORD
            by_cases c1 : x.node = x.peer
            · have d1 : (x.node == x.peer) = true := by rw [beq_iff_eq]; exact c1
              clear c1
              go_wp2_with (first | (go_at_call 67; refine (HCI.out _ HB1.out).mono ?_; rintro e w' ⟨rfl, rfl⟩) | (go_at_call 46; refine (HCN.out _).mono ?_; rintro e w' ⟨rfl, rfl⟩))
              go_ret
              exact ⟨ret_b HANS.out.symm, below_then HBX.out HB1.out⟩
            · have d1 : (x.node == x.peer) = false := by rw [beq_eq_false_iff_ne]; exact c1
              have hor : x.w < 0 ∨ ¬ x.w < 0 ∧ 2147483647 < x.w ∨ ¬ x.w < 0 ∧ ¬ 2147483647 < x.w ∧ x.session < 1 ∨ ¬ x.w < 0 ∧ ¬ 2147483647 < x.w ∧ ¬ x.session < 1 ∧ 2147483647 < x.session := by
                have := HALL.out
                by_cases h2 : x.w < 0 <;> by_cases h3 : 2147483647 < x.w <;> by_cases h4 : x.session < 1 <;> by_cases h5 : 2147483647 < x.session <;> simp only [h2, h3, h4, h5, not_true_eq_false, not_false_eq_true, true_and, true_or, or_true, false_and, or_false, false_or, and_true, and_false]
                exact this ⟨fun h => c1 h.symm, by omega, by omega, by omega, by omega⟩
              clear c1
              rcases hor with h2 | ⟨h2, h3⟩ | ⟨h2, h3, h4⟩ | ⟨h2, h3, h4, h5⟩
              all_goals
                go_wp2_with (first | (go_at_call 67; refine (HCI.out _ HB1.out).mono ?_; rintro e w' ⟨rfl, rfl⟩) | (go_at_call 46; refine (HCN.out _).mono ?_; rintro e w' ⟨rfl, rfl⟩))
                go_ret
                exact ⟨ret_b HANS.out.symm, below_then HBX.out HB1.out⟩
        · obtain rfl : k = ls.length := by omega
          rw [List.take_length] at HL
          have hans : mayV ⟨ns, ls⟩ = true := by rw [HMAY.out, HS.out, HL.out]; rfl
          have HANS := Lib.hid hans
          clear hans
          go_wp2_with fail
          go_ret
          exact ⟨ret_b HANS.out.symm, below_then HBX.out HB.out⟩

end Go.Proofs.Ytandminldgiheaa
