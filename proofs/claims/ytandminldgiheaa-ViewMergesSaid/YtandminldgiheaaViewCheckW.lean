/- Walk: view.Check. -/
import Derived.Test.YtandminldgiheaaViewW
import Derived.Test.YtandminldgiheaaTail
import Derived.Test.YtandminldgiheaaWLast
namespace Go.Proofs.Ytandminldgiheaa
open Go.RowKit Go.Proofs.YtandminldgiheaaW.PrintLast
attribute [local go_sem ↓] Go.wp_at_zero Go.wp_at_succ

/-- The way through a link's test: what the first thing is that fails. -/
theorem link_cases (ns : List Int) (k : Known) (first : Bool) (ah : Bool) :
    (linkOk ns k = false ∧ (node k.peer = false ∨ (node k.peer = true ∧ (k.peer == k.node) = true) ∨ (node k.peer = true ∧ (k.peer == k.node) = false ∧ k.w < 0) ∨ (node k.peer = true ∧ (k.peer == k.node) = false ∧ ¬ k.w < 0 ∧ 2147483647 < k.w) ∨
      (node k.peer = true ∧ (k.peer == k.node) = false ∧ ¬ k.w < 0 ∧ ¬ 2147483647 < k.w ∧ k.session < 1) ∨ (node k.peer = true ∧ (k.peer == k.node) = false ∧ ¬ k.w < 0 ∧ ¬ 2147483647 < k.w ∧ ¬ k.session < 1 ∧ 2147483647 < k.session) ∨
      (node k.peer = true ∧ (k.peer == k.node) = false ∧ ¬ k.w < 0 ∧ ¬ 2147483647 < k.w ∧ ¬ k.session < 1 ∧ ¬ 2147483647 < k.session ∧ decide (k.node ∈ ns) = false))) ∨
    (linkOk ns k = true ∧ node k.peer = true ∧ (k.peer == k.node) = false ∧ ¬ k.w < 0 ∧ ¬ 2147483647 < k.w ∧ ¬ k.session < 1 ∧ ¬ 2147483647 < k.session ∧ decide (k.node ∈ ns) = true) := by
  have hb : (k.peer == k.node) = decide (k.peer = k.node) := by rw [Bool.eq_iff_iff]; simp
  rw [hb]
  unfold linkOk
  by_cases h2 : k.peer = k.node <;> by_cases h3 : k.w < 0 <;> by_cases h4 : 2147483647 < k.w <;> by_cases h5 : k.session < 1 <;> by_cases h6 : 2147483647 < k.session <;> cases h1 : node k.peer <;> cases h7 : decide (k.node ∈ ns) <;> simp [*] <;> omega

set_option maxRecDepth 100000 in
set_option maxHeartbeats 40000000 in
theorem viewCheck_c (x : View) (vn vl : Value) (w : World) (hv : RdV w vn vl x) :
    Calls Try.prog 33 #[.agg #[vn, vl]] w fun e w' => e = .returned (.int .i64 (eArg (mayV x))) ∧ Below w.heap.size w w' := by
  obtain ⟨ns, ls⟩ := x
  obtain ⟨hv1, hv2⟩ := hv
  have HV1 := Lib.hid hv1
  have HV2 := Lib.hid hv2
  obtain ⟨A0, c0, rfl, h10, h20, h30⟩ := hv1
  obtain ⟨A1, c1, rfl, h11, h21, h31⟩ := hv2
  simp only at *
  have hn : ns.length ≤ 9223372036854775807 := by omega
  have hm : ls.length ≤ 9223372036854775807 := by omega
  have hmay := mayV_eq ⟨ns, ls⟩
  simp only at hmay
  have HMAY := Lib.hid hmay
  clear h10 h20 h11 h21 h31 hmay
  go_enter Try.func33, Try.ntmps33
  go_wp2
  have hbx := ((Below.refl w.heap.size w).alloc (Nat.le_refl _) (.cells #[.slice A0 ns.length c0, .slice A1 ls.length c1] 43))
  have hbox := heap_alloc_new w (.cells #[.slice A0 ns.length c0, .slice A1 ls.length c1] 43)
  obtain ⟨W, hW⟩ : ∃ W, w.alloc (.cells #[.slice A0 ns.length c0, .slice A1 ls.length c1] 43) = W := ⟨_, rfl⟩
  obtain ⟨BX, hBX⟩ : ∃ BX, w.heap.size = BX := ⟨_, rfl⟩
  rw [hW] at hbx
  rw [hW, hBX] at hbox
  have E0 : W.cell? ⟨BX, 0, none⟩ = some (.slice A0 ns.length c0) := (cell_of_row W _ 0 _ _ _ hbox).trans rfl
  have E1 : W.cell? ⟨BX, 1, none⟩ = some (.slice A1 ls.length c1) := (cell_of_row W _ 1 _ _ _ hbox).trans rfl
  rw [hW, hBX]
  have HBX := Lib.hid hbx
  have HV1' := Lib.hid (HV1.out.below hbx)
  have HV2' := Lib.hid (HV2.out.below hbx)
  clear hbx hbox HV1 HV2
  clear hW hBX
  go_loop [10] (fun i => ∃ k : Nat, k ≤ ns.length ∧ i = .int .i64 k ∧ nodesTill (ns.take k) = true) (fun i => ns.length - (intOf i).toNat)
  case atStart => exact ⟨0, by omega, rfl, rfl⟩
  case round =>
    obtain ⟨k, hk, rfl, hs⟩ := hrel
    have HS := Lib.hid hs
    clear hs
    by_cases hlt : k < ns.length
    · have hsu := nodesTill_succ hlt
      rw [HS.out, Bool.true_and] at hsu
      obtain ⟨b0, o0, rfl, _, g0⟩ := h30 (by intro h; subst h; simp at hlt)
      have x0 := cells_I g0 k hlt
      have hi0 : (k : Int) < (ns.length : Int) := by omega
      have x0 := cell_of_below HBX.out x0
      cases hno : node ns[k]
      · rw [hno, Bool.false_and] at hsu
        have hans : eArg (mayV ⟨ns, ls⟩) = 1 := by rw [HMAY.out, nodesTill_false _ hsu]; rfl
        have HANS := Lib.hid hans
        have hc := fun W => edgeNode_c ns[k] W
        rw [hno] at hc
        have HC := Lib.hid hc
        clear hc hno hsu hans g0 h30
        go_wp2_with (go_at_call 51; refine (HC.out _).mono ?_; rintro e w' ⟨rfl, rfl⟩)
        go_ret
        exact ⟨ret_i HANS.out.symm, HBX.out⟩
      · rw [hno, Bool.true_and] at hsu
        have hc := fun W => edgeNode_c ns[k] W
        rw [hno] at hc
        have HC := Lib.hid hc
        clear hc hno
        by_cases hk0 : k = 0
        · subst hk0
          rw [Nat.add_zero] at x0
          have HSU := Lib.hid hsu
          clear g0 h30 hsu
          go_wp2_with (go_at_call 51; refine (HC.out _).mono ?_; rintro e w' ⟨rfl, rfl⟩)
          go_round
          case rel => exact ⟨1, by omega, rfl, HSU.out⟩
          case measure => (simp [intOf]) <;> omega
        · obtain ⟨m, rfl⟩ : ∃ m, k = m + 1 := ⟨k - 1, by omega⟩
          have y0 := cells_I g0 m (by omega)
          have y0 := cell_of_below HBX.out y0
          have h9 : (0 : Int) < (m : Int) + 1 := by omega
          rw [dif_pos (by omega)] at hsu
          simp only [Nat.add_sub_cancel, ltI] at hsu
          have hi9 : (m : Int) < (ns.length : Int) := by omega
          have HSU := Lib.hid hsu
          clear hsu g0 h30
          by_cases hle : ns[m + 1] ≤ ns[m]
          · have hans : eArg (mayV ⟨ns, ls⟩) = 1 := by
              rw [HMAY.out, nodesTill_false (m + 1 + 1) (by rw [HSU.out]; simp; omega)]; rfl
            have HANS := Lib.hid hans
            clear hans
            go_wp2_with (go_at_call 51; refine (HC.out _).mono ?_; rintro e w' ⟨rfl, rfl⟩)
            go_ret
            exact ⟨ret_i HANS.out.symm, HBX.out⟩
          · go_wp2_with (go_at_call 51; refine (HC.out _).mono ?_; rintro e w' ⟨rfl, rfl⟩)
            go_round
            case rel => exact ⟨m + 1 + 1, by omega, by go_num, by rw [HSU.out]; simp; omega⟩
            case measure => (simp [intOf]) <;> omega
    · obtain rfl : k = ns.length := by omega
      rw [List.take_length] at HS
      go_wp2
      go_loopw [36] (fun i wr => ∃ k : Nat, k ≤ ls.length ∧ i = .int .i64 k ∧ linksTill ns (ls.take k) = true ∧ Below W.heap.size W wr) (fun i _ => ls.length - (intOf i).toNat)
      case atStart => exact ⟨0, by omega, rfl, rfl, Below.refl _ _⟩
      case round =>
        obtain ⟨k, hk, rfl, hs, hb⟩ := hrel
        have HL := Lib.hid hs
        have HB := Lib.hid hb
        have E0 := cell_of_below hb E0
        have E1 := cell_of_below hb E1
        clear hs hb
        by_cases hlt : k < ls.length
        · have hsu := linksTill_succ ns hlt
          rw [HL.out, Bool.true_and] at hsu
          obtain ⟨A2, c2, e2, _, _, h32⟩ := HV2'.out.below HB.out
          obtain ⟨b1, o1, rfl, _, g1⟩ := h32 (by intro h; subst h; simp at hlt)
          simp only [Value.slice.injEq, true_and] at e2
          obtain ⟨rfl, rfl⟩ := e2
          obtain ⟨x0, x1, x2, x3, x4⟩ := cells_K g1 k hlt
          have hi0 : (k : Int) < (ls.length : Int) := by omega
          have hcn := fun W => edgeNode_c ls[k].peer W
          have hcc := fun w' (hb : Below W.heap.size W w') => containsI_c ns ls[k].node _ w' (HV1'.out.below hb)
          have hsz := HB.out.size
          have hbz := (Below.refl wr.heap.size wr).alloc (Nat.le_refl _) (.cells #[.int .i64 ls[k].node, .int .i64 ls[k].peer, .int .i64 ls[k].w, .int .i64 ls[k].session, .bool ls[k].marked] 51)
          have HB1 := Lib.hid (below_then HB.out hbz)
          have E0 := cell_of_below hbz E0
          have E1 := cell_of_below hbz E1
          have hord := fun (hk0 : 0 < k) W => viewOrder_b ls[k - 1] ls[k] W
          have hprev : 0 < k → ∃ m, k = m + 1 ∧ (wr.cell? ⟨b1, o1 + m * 5, none⟩ = some (.int .i64 ls[k - 1].node) ∧ wr.cell? ⟨b1, o1 + m * 5 + 1, none⟩ = some (.int .i64 ls[k - 1].peer) ∧ wr.cell? ⟨b1, o1 + m * 5 + 2, none⟩ = some (.int .i64 ls[k - 1].w) ∧ wr.cell? ⟨b1, o1 + m * 5 + 3, none⟩ = some (.int .i64 ls[k - 1].session) ∧ wr.cell? ⟨b1, o1 + m * 5 + 4, none⟩ = some (.bool ls[k - 1].marked)) := by
            intro h0
            obtain ⟨m, rfl⟩ : ∃ m, k = m + 1 := ⟨k - 1, by omega⟩
            refine ⟨m, rfl, ?_⟩
            have := cells_K g1 m (by omega)
            simpa using this
          clear hbz g1 h32
          obtain ⟨x, hx⟩ : ∃ x, ls[k] = x := ⟨_, rfl⟩
          rw [hx] at x0 x1 x2 x3 x4 hsu hcn hcc hord HB1 E0 E1
          have HCN := Lib.hid hcn
          have HCC := Lib.hid hcc
          have HORD := Lib.hid hord
          have HPREV := Lib.hid hprev
          have hca := link_cases ns x true true
          clear hcn hcc hord hprev hx
          rcases hca with ⟨hbad, hca⟩ | ⟨hgood, q1, q2, q3, q4, q5, q6, q7⟩
          · rw [hbad, Bool.false_and] at hsu
            have hans : eArg (mayV ⟨ns, ls⟩) = 1 := by rw [HMAY.out, linksTill_false _ hsu, Bool.and_false]; rfl
            have HANS := Lib.hid hans
            clear hans hsu hbad
            rcases hca with q1 | ⟨q1, q2⟩ | ⟨q1, q2, q3⟩ | ⟨q1, q2, q3, q4⟩ | ⟨q1, q2, q3, q4, q5⟩ | ⟨q1, q2, q3, q4, q5, q6⟩ | ⟨q1, q2, q3, q4, q5, q6, q7⟩
            · have hcn := HCN.out
              rw [q1] at hcn
              have HN := Lib.hid hcn
              clear hcn
              clear hsz HPREV HORD HL HS HMAY HV1' HV2'
              go_wp2_with fail
              go_quiet ((go_at_call 51; exact quiet_S (HN.out _)))
              go_wp2_with fail
              go_ret
              exact ⟨ret_i HANS.out.symm, below_then HBX.out (below_drewN HB1.out _)⟩
            · have hcn := HCN.out
              rw [q1] at hcn
              have HN := Lib.hid hcn
              clear hcn
              clear hsz HPREV HORD HL HS HMAY HV1' HV2'
              go_wp2_with fail
              go_quiet ((go_at_call 51; exact quiet_S (HN.out _)))
              go_wp2_with fail
              go_ret
              exact ⟨ret_i HANS.out.symm, below_then HBX.out (below_drewN HB1.out _)⟩
            · have hcn := HCN.out
              rw [q1] at hcn
              have HN := Lib.hid hcn
              clear hcn
              have d2 : decide (x.w < 0) = true := by simpa using q3
              clear hsz HPREV HORD HL HS HMAY HV1' HV2'
              go_wp2_with fail
              go_quiet ((go_at_call 51; exact quiet_S (HN.out _)))
              go_wp2_with fail
              go_ret
              exact ⟨ret_i HANS.out.symm, below_then HBX.out (below_drewN HB1.out _)⟩
            · have hcn := HCN.out
              rw [q1] at hcn
              have HN := Lib.hid hcn
              clear hcn
              have d2 : decide (x.w < 0) = false := by simpa using q3
              have d3 : decide (2147483647 < x.w) = true := by simpa using q4
              clear hsz HPREV HORD HL HS HMAY HV1' HV2'
              go_wp2_with fail
              go_quiet ((go_at_call 51; exact quiet_S (HN.out _)))
              go_wp2_with fail
              go_ret
              exact ⟨ret_i HANS.out.symm, below_then HBX.out (below_drewN HB1.out _)⟩
            · have hcn := HCN.out
              rw [q1] at hcn
              have HN := Lib.hid hcn
              clear hcn
              have d2 : decide (x.w < 0) = false := by simpa using q3
              have d3 : decide (2147483647 < x.w) = false := by simpa using q4
              have d4 : decide (x.session < 1) = true := by simpa using q5
              clear hsz HPREV HORD HL HS HMAY HV1' HV2'
              go_wp2_with fail
              go_quiet ((go_at_call 51; exact quiet_S (HN.out _)))
              go_wp2_with fail
              go_ret
              exact ⟨ret_i HANS.out.symm, below_then HBX.out (below_drewN HB1.out _)⟩
            · have hcn := HCN.out
              rw [q1] at hcn
              have HN := Lib.hid hcn
              clear hcn
              have d2 : decide (x.w < 0) = false := by simpa using q3
              have d3 : decide (2147483647 < x.w) = false := by simpa using q4
              have d4 : decide (x.session < 1) = false := by simpa using q5
              have d5 : decide (2147483647 < x.session) = true := by simpa using q6
              clear hsz HPREV HORD HL HS HMAY HV1' HV2'
              go_wp2_with fail
              go_quiet ((go_at_call 51; exact quiet_S (HN.out _)))
              go_wp2_with fail
              go_ret
              exact ⟨ret_i HANS.out.symm, below_then HBX.out (below_drewN HB1.out _)⟩
            · have hcn := HCN.out
              rw [q1] at hcn
              have HN := Lib.hid hcn
              clear hcn
              have hcc := HCC.out
              rw [q7] at hcc
              have HC := Lib.hid hcc
              clear hcc
              have d2 : decide (x.w < 0) = false := by simpa using q3
              have d3 : decide (2147483647 < x.w) = false := by simpa using q4
              have d4 : decide (x.session < 1) = false := by simpa using q5
              have d5 : decide (2147483647 < x.session) = false := by simpa using q6
              clear hsz HPREV HORD HL HS HMAY HV1' HV2'
              go_wp2_with fail
              go_quiet ((first | (go_at_call 51; exact quiet_S (HN.out _)) | (go_at_call 66; exact quiet_S (HC.out _ (below_drewN HB1.out _)))))
              go_wp2_with fail
              go_ret
              exact ⟨ret_i HANS.out.symm, below_then HBX.out (below_drewN HB1.out _)⟩
          · rw [hgood, Bool.true_and] at hsu
            have hcn := HCN.out
            have hcc := HCC.out
            rw [q1] at hcn
            rw [q7] at hcc
            have HN := Lib.hid hcn
            have HC := Lib.hid hcc
            have d2 : decide (x.w < 0) = false := by simpa using q3
            have d3 : decide (2147483647 < x.w) = false := by simpa using q4
            have d4 : decide (x.session < 1) = false := by simpa using q5
            have d5 : decide (2147483647 < x.session) = false := by simpa using q6
            clear hcn hcc hgood
            by_cases hk0 : k = 0
            · subst hk0
              simp only [Nat.zero_mul, Nat.add_zero] at x0 x1 x2 x3 x4
              have HSU := Lib.hid hsu
              clear hsu hsz HPREV HORD HL HS HMAY HV1' HV2'
              have dz : decide ((0 : Int) < 0) = false := by simp
              go_wp2_with fail
              go_quiet ((first | (go_at_call 51; exact quiet_S (HN.out _)) | (go_at_call 66; exact quiet_S (HC.out _ (below_drewN HB1.out _)))))
              go_wp2_with fail
              go_roundw
              case rel => exact ⟨1, by omega, rfl, HSU.out, below_drewN HB1.out _⟩
              case measure => (simp [intOf]) <;> omega
            · obtain ⟨m, rfl, y0, y1, y2, y3, y4⟩ := HPREV.out (by omega)
              have hord := HORD.out (by omega)
              rw [dif_pos (by omega)] at hsu
              obtain ⟨y, hy⟩ : ∃ y, ls[m + 1 - 1] = y := ⟨_, rfl⟩
              rw [hy] at hsu hord y0 y1 y2 y3 y4
              have dz : decide ((0 : Int) < (m : Int) + 1) = true := by rw [decide_eq_true_iff]; omega
              have hge := cmpK_ge y x
              obtain ⟨c, hc⟩ : ∃ c, cmpK y x = c := ⟨_, rfl⟩
              rw [hc] at hord hge
              have HO := Lib.hid hord
              have hi8 : (0 : Int) ≤ (m : Int) := by omega
              have hi9 : (m : Int) < (ls.length : Int) := by omega
              have wz : IntKind.i64.wrap (m : Int) = (m : Int) := by rw [IntKind.wrap_i64]; omega
              clear hord hy hc
              cases hah : aheadK y x
              · rw [hah] at hsu
                have hcd : (0 : Int) ≤ c := hge.2 hah
                have dc : decide ((0 : Int) ≤ c) = true := by simpa using hcd
                have hans : eArg (mayV ⟨ns, ls⟩) = 1 := by rw [HMAY.out, linksTill_false _ hsu, Bool.and_false]; rfl
                have HANS := Lib.hid hans
                clear hans hsu hge hah hsz HPREV HORD HL HS HMAY HV1' HV2'
                go_wp2_with fail
                refine region_tail 50 (by kernel_rfl) (by kernel_rfl) ?_
                simp only [List.take_succ_cons, List.take_zero, List.drop_succ_cons, List.drop_zero]
                repeat (first | still_step | still_call (still_S (HN.out _)) | still_call (still_S (HC.out _ (below_drew HB1.out))))
                refine wpStill_nil ?_
                go_wp2_with fail
                go_at_call 63; refine (HO.out _).mono ?_; rintro e w2 ⟨rfl, hbo⟩
                go_wp2_with fail
                go_ret
                exact ⟨ret_i HANS.out.symm, below_then HBX.out (below_then (below_drew HB1.out) hbo)⟩
              · rw [hah] at hsu
                have hcd : ¬ ((0 : Int) ≤ c) := by rw [hge, hah]; simp
                have dc : decide ((0 : Int) ≤ c) = false := by simpa using hcd
                have HSU := Lib.hid hsu
                clear hsu hge hah hsz HPREV HORD HL HS HMAY HV1' HV2'
                go_wp2_with fail
                refine region_tail 50 (by kernel_rfl) (by kernel_rfl) ?_
                simp only [List.take_succ_cons, List.take_zero, List.drop_succ_cons, List.drop_zero]
                repeat (first | still_step | still_call (still_S (HN.out _)) | still_call (still_S (HC.out _ (below_drew HB1.out))))
                refine wpStill_nil ?_
                go_wp2_with fail
                go_at_call 63; refine (HO.out _).mono ?_; rintro e w2 ⟨rfl, hbo⟩
                go_wp2_with fail
                go_roundw
                case rel => exact ⟨m + 1 + 1, by omega, by go_num, HSU.out, below_then (below_drew HB1.out) hbo⟩
                case measure => (simp [intOf]) <;> omega
        · obtain rfl : k = ls.length := by omega
          rw [List.take_length] at HL
          have hans : eArg (mayV ⟨ns, ls⟩) = 0 := by rw [HMAY.out, HS.out, HL.out]; rfl
          have HANS := Lib.hid hans
          clear hans
          go_wp2
          go_ret
          exact ⟨ret_i HANS.out.symm, HBX.out.trans (HB.out.mono HBX.out.size)⟩

end Go.Proofs.Ytandminldgiheaa
