/- The law 'SpanLoses', walked. -/
import Derived.Test.YtandminldgiheaaLosesB
import Derived.Test.YtandminldgiheaaSpanLeastW
import Derived.Test.YtandminldgiheaaEdgeEq
import Derived.Test.YtandminldgiheaaWLast
namespace Go.Proofs.Ytandminldgiheaa
open Go.RowKit Go.Proofs.YtandminldgiheaaW.PrintLast
attribute [local go_sem ↓] guardE neqE eqlE Go.wp_at_zero Go.wp_at_succ

set_option maxRecDepth 100000 in
set_option maxHeartbeats 16000000 in
theorem spanLosesLaw_c (l : List Edge) (a : Int) (ha0 : 0 ≤ a) (ha1 : a ≤ 255) (v : Value) (w : World) (hv : RdE w v l) :
    Calls Try.prog 4 #[v, .int .u8 a] w fun r w' => r = .returned (.bool true) ∧ Below w.heap.size w w' := by
  have HV := Lib.hid hv
  obtain ⟨A0, c0, rfl, h10, h20, h30⟩ := hv
  have hn : l.length ≤ 9223372036854775807 := by omega
  clear h20 h30
  by_cases h40 : 40 < l.length
  · have hi : (40 : Int) < (l.length : Int) := by omega
    go_enter Try.func4, Try.ntmps4
    go_wp2_with fail
    go_at_call 11; refine (awake07_c _).mono ?_; rintro r w1 ⟨rfl, h1⟩
    go_wp2_with fail
    go_ret
    exact ⟨rfl, h1⟩
  have hi : ¬ ((40 : Int) < (l.length : Int)) := by omega
  have hl40 : l.length ≤ 40 := by omega
  clear h40
  by_cases h0 : check l = 0
  · have hck := fun u w hu => refCheck_c l u w hu
    rw [h0] at hck
    have HCK := Lib.hid hck
    have H0 := Lib.hid h0
    have hap := apart_of_check h0
    have HAP := Lib.hid hap
    have hfl := least_length l
    have HM := Lib.hid (mays_of_check h0)
    have HFM := Lib.hid (fun (x : Edge) (hx : x ∈ least l) => mays_of_check h0 x (least_mem hx))
    obtain ⟨f, hf⟩ : ∃ f, least l = f := ⟨_, rfl⟩
    rw [hf] at hfl HFM
    have HF := Lib.hid hf
    clear hck h0 hap hf
    go_enter Try.func4, Try.ntmps4
    go_wp2_with fail
    go_at_call 10; refine (HCK.out _ _ HV.out).mono ?_; rintro r w1 ⟨rfl, hb1⟩
    have HB1 := Lib.hid hb1
    clear hb1
    go_wp2_with fail
    go_at_call 12; refine (least_ok H0.out _ _ (HV.out.below HB1.out)).mono ?_; rintro r w2 ⟨vf, rfl, hrf, hb2⟩
    rw [HF.out] at hrf
    have HB2 := Lib.hid (below_then HB1.out hb2)
    have HRF := Lib.hid hrf
    obtain ⟨Af, cf, rfl, hcf1, hcf2, hcf3⟩ := hrf
    clear hb2 HB1
    by_cases hf0 : f.length = 0
    · have hz : ((f.length : Int) == 0) = true := by rw [hf0]; rfl
      clear hf0 hcf1 hcf2 hcf3
      go_wp2_with fail
      go_at_call 11; refine (awake07_c _).mono ?_; rintro r w3 ⟨rfl, h3⟩
      go_wp2_with fail
      go_ret
      exact ⟨rfl, below_then HB2.out h3⟩
    · have hz : ((f.length : Int) == 0) = false := by rw [beq_eq_false_iff_ne]; omega
      have hpos : (0 : Int) < (f.length : Int) := by omega
      obtain ⟨j, hj⟩ : ∃ j : Nat, a % (f.length : Int) = j := ⟨(a % (f.length : Int)).toNat, by rw [Int.toNat_of_nonneg (Int.emod_nonneg _ (by omega))]⟩
      have hjl : j < f.length := by have := Int.emod_lt_of_pos a hpos; omega
      obtain ⟨b0, o0, rfl, hlt0, g0⟩ := hcf3 (by intro h; subst h; simp at hf0)
      obtain ⟨x0, x1, x2⟩ := cells_E g0 j hjl
      clear g0 hcf1 hcf2 hf0
      obtain ⟨cut, hcut⟩ : ∃ cut, f[j] = cut := ⟨_, rfl⟩
      rw [hcut] at x0 x1 x2
      have hji : (j : Int) < (f.length : Int) := by omega
      go_wp2_with fail
      obtain ⟨W, hW⟩ : ∃ W, w2.alloc (.cells #[.int .i64 cut.a, .int .i64 cut.b, .int .i64 cut.w] 24) = W := ⟨_, rfl⟩
      obtain ⟨BX, hBX⟩ : ∃ BX, w2.heap.size = BX := ⟨_, rfl⟩
      have hbox := heap_alloc_new w2 (.cells #[.int .i64 cut.a, .int .i64 cut.b, .int .i64 cut.w] 24)
      have hbW := (Below.refl w2.heap.size w2).alloc (Nat.le_refl _) (.cells #[.int .i64 cut.a, .int .i64 cut.b, .int .i64 cut.w] 24)
      have hsW : W.heap.size = BX + 1 := by rw [← hW, ← hBX]; simp
      rw [hW] at hbW
      rw [hW, hBX] at hbox
      have C0 : W.cell? ⟨BX, 0, none⟩ = some (.int .i64 cut.a) := (cell_of_row W _ 0 _ _ _ hbox).trans rfl
      have C1 : W.cell? ⟨BX, 1, none⟩ = some (.int .i64 cut.b) := (cell_of_row W _ 1 _ _ _ hbox).trans rfl
      have C2 : W.cell? ⟨BX, 2, none⟩ = some (.int .i64 cut.w) := (cell_of_row W _ 2 _ _ _ hbox).trans rfl
      have HD0 := Lib.hid C0
      have HD1 := Lib.hid C1
      have HD2 := Lib.hid C2
      clear C0 C1 C2
      have HBW := Lib.hid (below_then HB2.out hbW)
      have HVW := Lib.hid (HV.out.below HBW.out)
      have HRFW := Lib.hid (HRF.out.below hbW)
      have t0 : Two W ((W.alloc (.cells #[] 24)).alloc (.cells #[] 24)) (BX + 1) 24 (.slice (some ⟨BX + 1 + 1, 0, none⟩) 0 0) [] (.slice (some ⟨BX + 1, 0, none⟩) 0 0) [] := by
        rw [← hsW]
        refine ⟨?_, ?_, ?_, ((Below.refl _ W).alloc (Nat.le_refl _) _).alloc (by simp) _, by simp; omega⟩
        · have := World.ownsRow_made (e := 24) (size := 3) (W.alloc (.cells #[] 24)) #[] 0 (base := W.heap.size) (by simp) (Nat.zero_le _) (by simp)
          simpa [Own] using this
        · have := World.ownsRow.alloc (World.ownsRow_made (e := 24) (size := 3) W #[] 0 (Nat.le_refl _) (Nat.zero_le _) (by simp)) (.cells #[] 24)
          simpa [Own] using this
        · intro g h1 h2
          simp [Value.ownBlock] at h1 h2
          omega
      rw [hW, hBX]
      have HT0 := Lib.hid t0
      clear t0 hbox hbW hlt0 x0 x1 x2 HB2 HRF HV
      have hjk : cut ∈ f := hcut ▸ List.getElem_mem hjl
      have HJK := Lib.hid hjk
      rw [hj]
      clear hjk hj hcut hpos hji
      have hf40 : f.length ≤ 40 := by omega
      go_loopw [8, 10] (fun s8 s10 wr => ∃ i : Nat, i ≤ f.length ∧ s10 = .int .i64 i ∧ Two W wr (BX + 1) 24 (.slice (some ⟨BX + 1 + 1, 0, none⟩) 0 0) [] s8 (but (f.take i) cut)) (fun _ s10 _ => f.length - (intOf s10).toNat)
      case atStart => exact ⟨0, by omega, rfl, HT0.out⟩
      case round =>
        clear HT0
        obtain ⟨i, hi, rfl, ht⟩ := hrel
        have HT := Lib.hid ht
        have hbr := ht.below
        rw [← hsW] at hbr
        have C0 := cell_of_below hbr HD0.out
        have C1 := cell_of_below hbr HD1.out
        have C2 := cell_of_below hbr HD2.out
        clear ht
        by_cases hlt : i < f.length
        · obtain ⟨A1, c1, e1, _, _, h3⟩ := HRFW.out.below hbr
          obtain ⟨b1, o1, e2, _, g0⟩ := h3 (by intro h; subst h; simp at hlt)
          simp only [Value.slice.injEq, true_and] at e1
          obtain ⟨rfl, rfl⟩ := e1
          simp only [Option.some.injEq, Addr.mk.injEq, and_true] at e2
          obtain ⟨rfl, rfl⟩ := e2
          obtain ⟨x0, x1, x2⟩ := cells_E g0 i hlt
          clear g0 h3
          have hi0 : (i : Int) < (f.length : Int) := by omega
          have hs := but_snoc (f.take i) cut f[i]
          rw [← take_succ_at hlt] at hs
          obtain ⟨x, hx⟩ : ∃ x, f[i] = x := ⟨_, rfl⟩
          rw [hx] at hs x0 x1 x2
          have hd := elseE_iff x cut
          have hbl := (but_sub (f.take i) cut).length_le
          have hbl2 : (but (f.take i) cut).length ≤ 40 := by rw [List.length_take] at hbl; omega
          clear hbl hx
          by_cases hxc : x = cut
          · rw [if_pos hxc] at hs
            rw [decide_eq_true hxc] at hd
            have hd2 : elseE x.a x.b x.w cut.a cut.b cut.w = false := hd
            have HS := Lib.hid hs
            clear hs hd hxc
            go_wp2_with fail
            go_quiet (fail)
            go_wp2_with fail
            go_roundw
            case rel => exact ⟨i + 1, by omega, by go_num, by rw [HS.out]; exact HT.out.on (below_drewN (Below.refl _ _) _)⟩
            case measure => (simp [intOf]) <;> omega
          · rw [if_neg hxc] at hs
            rw [decide_eq_false hxc] at hd
            have hd2 : elseE x.a x.b x.w cut.a cut.b cut.w = true := hd
            have HS := Lib.hid hs
            clear hs hd hxc
            go_wp2_with fail
            go_quiet (fail)
            have HTD := Lib.hid (HT.out.on (below_drewN (Below.refl _ _) nq))
            go_wp2_with (at_builtin; refine wpList_append1 encE_len encE_one (BX + 1) (BX + 1) rfl _ _ 22 (.agg #[.int .i64 0, .int .i64 0, .int .i64 0]) 24 rfl Try.underlying22 infoE rfl (by decide) (by decide) _ (but (f.take i) cut) x rfl rfl _ rfl (by simp) HTD.out.b HTD.out.below (Nat.le_refl _) HTD.out.le (by omega) ?_; intro v3 w3 ho3 hb3 hg3 hat3)
            have HT3 := Lib.hid (HTD.out.more ho3 hb3 hg3 hat3)
            clear ho3 hb3 hg3 hat3
            go_wp2_with fail
            go_roundw
            case rel => exact ⟨i + 1, by omega, by go_num, by rw [HS.out]; exact HT3.out⟩
            case measure => (simp [intOf]) <;> omega
        · obtain rfl : i = f.length := by omega
          rw [List.take_length] at HT
          have hcl := (but_sub f cut).length_le
          have hkl : (but f cut).length ≤ 40 := by omega
          have HKM := Lib.hid (fun (x : Edge) (hx : x ∈ but f cut) => HFM.out x ((but_sub f cut).subset hx))
          obtain ⟨kk, hkk⟩ : ∃ kk, but f cut = kk := ⟨_, rfl⟩
          rw [hkk] at HT HKM hkl hcl
          have HKK := Lib.hid hkk
          have HB0 := Lib.hid hbr
          clear hkk hcl hbr C0 C1 C2
          go_wp2_with fail
          go_loopw [9, 11, 12] (fun s9 s11 s12 wq => ∃ (i : Nat) (b : Int), i ≤ l.length ∧ s12 = .int .i64 i ∧ s11 = .int .i64 b ∧ BestAt l kk cut i b ∧ Two W wq (BX + 1) 24 u8 kk s9 (but (l.take i) cut)) (fun _ _ s12 _ => l.length - (intOf s12).toNat)
          case atStart => exact ⟨0, -1, by omega, rfl, rfl, BestAt.start _ _ _, HT.out.swap⟩
          case round =>
            clear HT
            obtain ⟨i, b, hi, rfl, rfl, hbest, ht⟩ := hrel
            have HT := Lib.hid ht
            have HBEST := Lib.hid hbest
            have hbr := ht.below
            rw [← hsW] at hbr
            have C0 := cell_of_below hbr HD0.out
            have C1 := cell_of_below hbr HD1.out
            have C2 := cell_of_below hbr HD2.out
            have hbc := hbest.cases
            clear ht hbest
            by_cases hlt : i < l.length
            · obtain ⟨A1, c1, e1, _, _, h3⟩ := HVW.out.below hbr
              obtain ⟨b1, o1, rfl, _, g0⟩ := h3 (by intro h; subst h; simp at hlt)
              simp only [Value.slice.injEq, true_and] at e1
              obtain ⟨rfl, rfl⟩ := e1
              obtain ⟨x0, x1, x2⟩ := cells_E g0 i hlt
              have hG := Lib.hid g0
              clear g0 h3
              have hi0 : (i : Int) < (l.length : Int) := by omega
              have hs := but_snoc (l.take i) cut l[i]
              rw [← take_succ_at hlt] at hs
              have hmx := HM.out l[i] (List.getElem_mem hlt)
              have hcx : ∀ (q : Bool), linked kk l[i].a l[i].b = q → l[i] ≠ cut → (q = true → ¬ Cand kk cut l[i]) ∧ (q = false → Cand kk cut l[i]) := fun q hq hn => by
                subst hq
                exact ⟨fun h hc => hc.2 (linked_iff.1 h), fun h => ⟨hn, linked_false.1 h⟩⟩
              have hskip := fun hn => HBEST.out.skip hlt hn
              have hfirst := fun (hb1 : b = -1) (hc : Cand kk cut l[i]) => by
                have := HBEST.out
                rw [hb1] at this
                exact this.first hlt hc
              have hless := fun (j : Nat) (y : Edge) (hb1 : b = j) (hy : l[j]? = some y) (hc : Cand kk cut l[i]) (hl : ltE l[i] y = true) => by
                have := HBEST.out
                rw [hb1] at this
                exact this.less hlt hy hc hl
              have hmore := fun (j : Nat) (y : Edge) (hb1 : b = j) (hy : l[j]? = some y) (hl : ltE l[i] y = false) => by
                have := HBEST.out
                rw [hb1] at this
                exact this.more hlt hy hl
              have hcall := fun w' u (hr : RdE w' u kk) => refLinked_c kk l[i].a l[i].b HKM.out u w' hr
              rw [linkedN_eq hmx] at hcall
              obtain ⟨x, hx⟩ : ∃ x, l[i] = x := ⟨_, rfl⟩
              rw [hx] at hs x0 x1 x2 hcx hskip hfirst hless hmore hcall
              have hd := sameE_iff x cut
              have hbl := (but_sub (l.take i) cut).length_le
              have hbl2 : (but (l.take i) cut).length ≤ 40 := by rw [List.length_take] at hbl; omega
              have HX := Lib.hid hx
              have HSK := Lib.hid hskip
              have HFI := Lib.hid hfirst
              have HLE := Lib.hid hless
              have HMO := Lib.hid hmore
              have HCX := Lib.hid hcx
              have HCA := Lib.hid hcall
              clear hbl hx hskip hfirst hless hmore hcx hcall hmx
              by_cases hxc : x = cut
              · rw [if_pos hxc] at hs
                rw [decide_eq_true hxc] at hd
                have hd2 : sameE x.a x.b x.w cut.a cut.b cut.w = true := hd
                have HS := Lib.hid hs
                have HXC := Lib.hid hxc
                clear hs hd hxc hbc
                go_wp2_with fail
                go_quiet (fail)
                go_wp2_with fail
                go_roundw
                case rel => exact ⟨i + 1, b, by omega, by go_num, rfl, HSK.out (fun h => h.1 HXC.out), by rw [HS.out]; exact HT.out.on (below_drewN (Below.refl _ _) _)⟩
                case measure => (simp [intOf]) <;> omega
              · rw [if_neg hxc] at hs
                rw [decide_eq_false hxc] at hd
                have hd2 : sameE x.a x.b x.w cut.a cut.b cut.w = false := hd
                have HS := Lib.hid hs
                have HXC := Lib.hid hxc
                clear hs hd hxc
                go_wp2_with fail
                go_quiet (fail)
                have HTD := Lib.hid (HT.out.on (below_drewN (Below.refl _ _) nq))
                go_wp2_with (at_builtin; refine wpList_append1 encE_len encE_one (BX + 1) (BX + 1) rfl _ _ 22 (.agg #[.int .i64 0, .int .i64 0, .int .i64 0]) 24 rfl Try.underlying22 infoE rfl (by decide) (by decide) _ (but (l.take i) cut) x rfl rfl _ rfl (by simp) HTD.out.b HTD.out.below (Nat.le_refl _) HTD.out.le (by omega) ?_; intro v3 w3 ho3 hb3 hg3 hat3)
                have HT3 := Lib.hid (HTD.out.more ho3 hb3 hg3 hat3)
                have hbr3 := HT3.out.below
                rw [← hsW] at hbr3
                obtain ⟨A1, c1, e1, _, _, h3⟩ := HVW.out.below hbr3
                obtain ⟨b2, o2, e3, _, g0⟩ := h3 (by intro h; subst h; simp at hlt)
                simp only [Value.slice.injEq, true_and] at e1
                obtain ⟨rfl, rfl⟩ := e1
                simp only [Option.some.injEq, Addr.mk.injEq, and_true] at e3
                obtain ⟨rfl, rfl⟩ := e3
                have hG := Lib.hid g0
                clear ho3 hb3 hg3 hat3 h3 g0 x0 x1 x2 C0 C1 C2
                obtain ⟨x0, x1, x2⟩ := cells_E hG.out i hlt
                rw [HX.out] at x0 x1 x2
                have hcq := fun q hq => HCX.out q hq HXC.out
                have hcall := HCA.out
                obtain ⟨q, hq⟩ : ∃ q, linked kk x.a x.b = q := ⟨_, rfl⟩
                rw [hq] at hcall
                have HC := Lib.hid hcall
                have hq1 := hcq q hq
                clear hcq hcall hq
                cases q
                · have HQ2 := Lib.hid (hq1.2 rfl)
                  clear hq1
                  rcases hbc with hb1 | ⟨j, y, hb1, hji, hy⟩
                  · have HB1 := Lib.hid hb1
                    have hz : b < 0 := by omega
                    have dz : decide (b < 0) = true := by rw [decide_eq_true_iff]; exact hz
                    clear hb1
                    go_wp2_with fail
                    refine start_ (n := 28) (S := fun w' => w'.cell? ⟨b1, o1 + i * 3, none⟩ = some (.int .i64 x.a) ∧ w'.cell? ⟨b1, o1 + i * 3 + 1, none⟩ = some (.int .i64 x.b)) (ds := []) #[false, false, false, false, false, false, false, false, false, false, false, false, false, false, false, false, false, false, false, false, false, false, false, false, false, false, false, false] (by kernel_rfl) rfl rfl ⟨x0, x1⟩ (fun hHeld => ?_)
                    refine pure_ (i := 0) (N := some 89) (v := ?_) (a' := ?_) #[true, false, false, false, false, false, false, false, false, false, false, false, false, false, false, false, false, false, false, false, false, false, false, false, false, false, false, false] rfl rfl (by kernel_rfl) (fun _ _ _ h => h) (Or.inl ⟨by rfl, ?_⟩) ?_ ?_
                    rotate_left
                    · intro w'
                      go_simp
                      with_reducible rfl
                    rotate_left
                    · simp only [Act.put, List.setIfInBounds_toArray, List.set_cons_zero, List.set_cons_succ]
                      rfl
                    refine pure_ (i := 1) (N := some 90) (v := ?_) (a' := ?_) #[true, true, false, false, false, false, false, false, false, false, false, false, false, false, false, false, false, false, false, false, false, false, false, false, false, false, false, false] rfl rfl (by kernel_rfl) (fun _ _ _ h => h) (Or.inl ⟨by rfl, ?_⟩) ?_ ?_
                    rotate_left
                    · intro w'
                      go_simp
                      with_reducible rfl
                    rotate_left
                    · simp only [Act.put, List.setIfInBounds_toArray, List.set_cons_zero, List.set_cons_succ]
                      rfl
                    refine pure_ (i := 2) (N := some 91) (v := ?_) (a' := ?_) #[true, true, true, false, false, false, false, false, false, false, false, false, false, false, false, false, false, false, false, false, false, false, false, false, false, false, false, false] rfl rfl (by kernel_rfl) (fun _ _ _ h => h) (Or.inl ⟨by rfl, ?_⟩) ?_ ?_
                    rotate_left
                    · intro w'
                      go_simp
                      with_reducible rfl
                    rotate_left
                    · simp only [Act.put, List.setIfInBounds_toArray, List.set_cons_zero, List.set_cons_succ]
                      rfl
                    refine pure_ (i := 3) (N := some 92) (v := ?_) (a' := ?_) #[true, true, true, true, false, false, false, false, false, false, false, false, false, false, false, false, false, false, false, false, false, false, false, false, false, false, false, false] rfl rfl (by kernel_rfl) (fun _ _ _ h => h) (Or.inl ⟨by rfl, ?_⟩) ?_ ?_
                    rotate_left
                    · intro w'
                      go_simp
                      with_reducible rfl
                    rotate_left
                    · simp only [Act.put, List.setIfInBounds_toArray, List.set_cons_zero, List.set_cons_succ]
                      rfl
                    refine pure_ (i := 4) (N := some 93) (v := ?_) (a' := ?_) #[true, true, true, true, true, false, false, false, false, false, false, false, false, false, false, false, false, false, false, false, false, false, false, false, false, false, false, false] rfl rfl (by kernel_rfl) (fun _ _ _ h => h) (Or.inl ⟨by rfl, ?_⟩) ?_ ?_
                    rotate_left
                    · intro w'
                      go_simp
                      with_reducible rfl
                    rotate_left
                    · simp only [Act.put, List.setIfInBounds_toArray, List.set_cons_zero, List.set_cons_succ]
                      rfl
                    refine pure_ (i := 6) (N := some 95) (v := ?_) (a' := ?_) #[true, true, true, true, true, false, true, false, false, false, false, false, false, false, false, false, false, false, false, false, false, false, false, false, false, false, false, false] rfl rfl (by kernel_rfl) (fun _ _ _ h => h) (Or.inl ⟨by rfl, ?_⟩) ?_ ?_
                    rotate_left
                    · intro w'
                      go_simp
                      with_reducible rfl
                    rotate_left
                    · simp only [Act.put, List.setIfInBounds_toArray, List.set_cons_zero, List.set_cons_succ]
                      rfl
                    refine pure_ (i := 7) (N := some 96) (v := ?_) (a' := ?_) #[true, true, true, true, true, false, true, true, false, false, false, false, false, false, false, false, false, false, false, false, false, false, false, false, false, false, false, false] rfl rfl (by kernel_rfl) (fun _ _ _ h => h) (Or.inl ⟨by rfl, ?_⟩) ?_ ?_
                    rotate_left
                    · intro w'
                      go_simp
                      with_reducible rfl
                    rotate_left
                    · simp only [Act.put, List.setIfInBounds_toArray, List.set_cons_zero, List.set_cons_succ]
                      rfl
                    refine pure_ (i := 8) (N := some 97) (v := ?_) (a' := ?_) #[true, true, true, true, true, false, true, true, true, false, false, false, false, false, false, false, false, false, false, false, false, false, false, false, false, false, false, false] rfl rfl (by kernel_rfl) (fun _ _ _ h => h) (Or.inl ⟨by rfl, ?_⟩) ?_ ?_
                    rotate_left
                    · intro w'
                      go_simp
                      with_reducible rfl
                    rotate_left
                    · simp only [Act.put, List.setIfInBounds_toArray, List.set_cons_zero, List.set_cons_succ]
                      rfl
                    refine pure_ (i := 9) (N := some 98) (v := ?_) (a' := ?_) #[true, true, true, true, true, false, true, true, true, true, false, false, false, false, false, false, false, false, false, false, false, false, false, false, false, false, false, false] rfl rfl (by kernel_rfl) (fun _ _ _ h => h) (Or.inl ⟨by rfl, ?_⟩) ?_ ?_
                    rotate_left
                    · intro w'
                      go_simp
                      with_reducible rfl
                    rotate_left
                    · simp only [Act.put, List.setIfInBounds_toArray, List.set_cons_zero, List.set_cons_succ]
                      rfl
                    refine take_ (i := 5) (N := some 94) (v := ?_) (a' := ?_) #[true, true, true, true, true, true, true, true, true, true, false, false, false, false, false, false, false, false, false, false, false, false, false, false, false, false, false, false] rfl rfl (by kernel_rfl) (fun _ _ _ h => h) (Or.inl ⟨by rfl, ?_⟩) hHeld ?_ ?_
                    rotate_left
                    · rintro w' ⟨s0, s1⟩
                      go_simp
                      with_reducible rfl
                    rotate_left
                    · simp only [Act.put, List.setIfInBounds_toArray, List.set_cons_zero, List.set_cons_succ]
                      rfl
                    refine take_ (i := 10) (N := some 99) (v := ?_) (a' := ?_) #[true, true, true, true, true, true, true, true, true, true, true, false, false, false, false, false, false, false, false, false, false, false, false, false, false, false, false, false] rfl rfl (by kernel_rfl) (fun _ _ _ h => h) (Or.inl ⟨by rfl, ?_⟩) hHeld ?_ ?_
                    rotate_left
                    · rintro w' ⟨s0, s1⟩
                      go_simp
                      with_reducible rfl
                    rotate_left
                    · simp only [Act.put, List.setIfInBounds_toArray, List.set_cons_zero, List.set_cons_succ]
                      rfl
                    refine one_ (i := 11) (N := some 100) #[true, true, true, true, true, true, true, true, true, true, true, true, false, false, false, false, false, false, false, false, false, false, false, false, false, false, false, false] rfl rfl (by kernel_rfl) (by decide) (fun K hK => ?_)
                    refine goes_ Try.func14 (by kernel_rfl) rfl #[u8, .int .i64 x.a, .int .i64 x.b] (by rfl) rfl rfl (by simp only [List.map_toArray, List.map_cons, List.map_nil]; rfl) ?_
                    with_reducible refine (HC.out _ _ (HT3.out.a.drew.rd encE_len)).mono ?_
                    rintro r w4 ⟨rfl, hb4⟩
                    refine ⟨_, rfl, ?_⟩
                    refine hK.out _ _ ⟨cell_of_below hb4 hHeld.1, cell_of_below hb4 hHeld.2⟩ (fun hHeld => ?_)
                    clear hK K
                    refine norm_ (a' := ?_) ?_ ?_
                    rotate_left
                    · show Act.put _ (some 100) _ = _
                      simp only [Act.put, List.setIfInBounds_toArray, List.set_cons_zero, List.set_cons_succ]
                      rfl
                    refine pure_ (i := 12) (N := some 101) (v := ?_) (a' := ?_) #[true, true, true, true, true, true, true, true, true, true, true, true, true, false, false, false, false, false, false, false, false, false, false, false, false, false, false, false] rfl rfl (by kernel_rfl) (fun _ _ _ h => h) (Or.inl ⟨by rfl, ?_⟩) ?_ ?_
                    rotate_left
                    · intro w'
                      go_simp
                      with_reducible rfl
                    rotate_left
                    · simp only [Act.put, List.setIfInBounds_toArray, List.set_cons_zero, List.set_cons_succ]
                      rfl
                    refine pure_ (i := 13) (N := some 102) (v := ?_) (a' := ?_) #[true, true, true, true, true, true, true, true, true, true, true, true, true, true, false, false, false, false, false, false, false, false, false, false, false, false, false, false] rfl rfl (by kernel_rfl) (fun _ _ _ h => h) (Or.inl ⟨by rfl, ?_⟩) ?_ ?_
                    rotate_left
                    · intro w'
                      go_simp
                      with_reducible rfl
                    rotate_left
                    · simp only [Act.put, List.setIfInBounds_toArray, List.set_cons_zero, List.set_cons_succ]
                      rfl
                    refine pure_ (i := 14) (N := some 103) (v := ?_) (a' := ?_) #[true, true, true, true, true, true, true, true, true, true, true, true, true, true, true, false, false, false, false, false, false, false, false, false, false, false, false, false] rfl rfl (by kernel_rfl) (fun _ _ _ h => h) (Or.inl ⟨by rfl, ?_⟩) ?_ ?_
                    rotate_left
                    · intro w'
                      go_simp
                      with_reducible rfl
                    rotate_left
                    · simp only [Act.put, List.setIfInBounds_toArray, List.set_cons_zero, List.set_cons_succ]
                      rfl
                    refine pure_ (i := 15) (N := some 104) (v := ?_) (a' := ?_) #[true, true, true, true, true, true, true, true, true, true, true, true, true, true, true, true, false, false, false, false, false, false, false, false, false, false, false, false] rfl rfl (by kernel_rfl) (fun _ _ _ h => h) (Or.inl ⟨by rfl, ?_⟩) ?_ ?_
                    rotate_left
                    · intro w'
                      go_simp
                      with_reducible rfl
                    rotate_left
                    · simp only [Act.put, List.setIfInBounds_toArray, List.set_cons_zero, List.set_cons_succ]
                      rfl
                    refine pure_ (i := 16) (N := some 105) (v := ?_) (a' := ?_) #[true, true, true, true, true, true, true, true, true, true, true, true, true, true, true, true, true, false, false, false, false, false, false, false, false, false, false, false] rfl rfl (by kernel_rfl) (fun _ _ _ h => h) (Or.inl ⟨by rfl, ?_⟩) ?_ ?_
                    rotate_left
                    · intro w'
                      go_simp
                      with_reducible rfl
                    rotate_left
                    · simp only [Act.put, List.setIfInBounds_toArray, List.set_cons_zero, List.set_cons_succ]
                      rfl
                    refine pure_ (i := 17) (N := some 106) (v := undef) (a' := ?_) #[true, true, true, true, true, true, true, true, true, true, true, true, true, true, true, true, true, true, false, false, false, false, false, false, false, false, false, false] rfl rfl (by kernel_rfl) (fun _ _ _ h => h) (Or.inr ⟨by rfl, rfl⟩) ?_ ?_
                    rotate_left
                    · simp only [Act.put, List.setIfInBounds_toArray, List.set_cons_zero, List.set_cons_succ]
                      rfl
                    refine pure_ (i := 18) (N := some 107) (v := undef) (a' := ?_) #[true, true, true, true, true, true, true, true, true, true, true, true, true, true, true, true, true, true, true, false, false, false, false, false, false, false, false, false] rfl rfl (by kernel_rfl) (fun _ _ _ h => h) (Or.inr ⟨by rfl, rfl⟩) ?_ ?_
                    rotate_left
                    · simp only [Act.put, List.setIfInBounds_toArray, List.set_cons_zero, List.set_cons_succ]
                      rfl
                    refine pure_ (i := 19) (N := some 108) (v := undef) (a' := ?_) #[true, true, true, true, true, true, true, true, true, true, true, true, true, true, true, true, true, true, true, true, false, false, false, false, false, false, false, false] rfl rfl (by kernel_rfl) (fun _ _ _ h => h) (Or.inr ⟨by rfl, rfl⟩) ?_ ?_
                    rotate_left
                    · simp only [Act.put, List.setIfInBounds_toArray, List.set_cons_zero, List.set_cons_succ]
                      rfl
                    refine pure_ (i := 20) (N := some 109) (v := undef) (a' := ?_) #[true, true, true, true, true, true, true, true, true, true, true, true, true, true, true, true, true, true, true, true, true, false, false, false, false, false, false, false] rfl rfl (by kernel_rfl) (fun _ _ _ h => h) (Or.inr ⟨by rfl, rfl⟩) ?_ ?_
                    rotate_left
                    · simp only [Act.put, List.setIfInBounds_toArray, List.set_cons_zero, List.set_cons_succ]
                      rfl
                    refine pure_ (i := 21) (N := some 110) (v := undef) (a' := ?_) #[true, true, true, true, true, true, true, true, true, true, true, true, true, true, true, true, true, true, true, true, true, true, false, false, false, false, false, false] rfl rfl (by kernel_rfl) (fun _ _ _ h => h) (Or.inr ⟨by rfl, rfl⟩) ?_ ?_
                    rotate_left
                    · simp only [Act.put, List.setIfInBounds_toArray, List.set_cons_zero, List.set_cons_succ]
                      rfl
                    refine pure_ (i := 22) (N := some 111) (v := undef) (a' := ?_) #[true, true, true, true, true, true, true, true, true, true, true, true, true, true, true, true, true, true, true, true, true, true, true, false, false, false, false, false] rfl rfl (by kernel_rfl) (fun _ _ _ h => h) (Or.inr ⟨by rfl, rfl⟩) ?_ ?_
                    rotate_left
                    · simp only [Act.put, List.setIfInBounds_toArray, List.set_cons_zero, List.set_cons_succ]
                      rfl
                    refine pure_ (i := 23) (N := some 112) (v := undef) (a' := ?_) #[true, true, true, true, true, true, true, true, true, true, true, true, true, true, true, true, true, true, true, true, true, true, true, true, false, false, false, false] rfl rfl (by kernel_rfl) (fun _ _ _ h => h) (Or.inr ⟨by rfl, rfl⟩) ?_ ?_
                    rotate_left
                    · simp only [Act.put, List.setIfInBounds_toArray, List.set_cons_zero, List.set_cons_succ]
                      rfl
                    refine pure_ (i := 24) (N := some 113) (v := undef) (a' := ?_) #[true, true, true, true, true, true, true, true, true, true, true, true, true, true, true, true, true, true, true, true, true, true, true, true, true, false, false, false] rfl rfl (by kernel_rfl) (fun _ _ _ h => h) (Or.inr ⟨by rfl, rfl⟩) ?_ ?_
                    rotate_left
                    · simp only [Act.put, List.setIfInBounds_toArray, List.set_cons_zero, List.set_cons_succ]
                      rfl
                    refine pure_ (i := 25) (N := some 114) (v := undef) (a' := ?_) #[true, true, true, true, true, true, true, true, true, true, true, true, true, true, true, true, true, true, true, true, true, true, true, true, true, true, false, false] rfl rfl (by kernel_rfl) (fun _ _ _ h => h) (Or.inr ⟨by rfl, rfl⟩) ?_ ?_
                    rotate_left
                    · simp only [Act.put, List.setIfInBounds_toArray, List.set_cons_zero, List.set_cons_succ]
                      rfl
                    refine pure_ (i := 26) (N := some 115) (v := ?_) (a' := ?_) #[true, true, true, true, true, true, true, true, true, true, true, true, true, true, true, true, true, true, true, true, true, true, true, true, true, true, true, false] rfl rfl (by kernel_rfl) (fun _ _ _ h => h) (Or.inl ⟨by rfl, ?_⟩) ?_ ?_
                    rotate_left
                    · intro w'
                      go_simp
                      with_reducible rfl
                    rotate_left
                    · simp only [Act.put, List.setIfInBounds_toArray, List.set_cons_zero, List.set_cons_succ]
                      rfl
                    refine pure_ (i := 27) (N := some 116) (v := ?_) (a' := ?_) #[true, true, true, true, true, true, true, true, true, true, true, true, true, true, true, true, true, true, true, true, true, true, true, true, true, true, true, true] rfl rfl (by kernel_rfl) (fun _ _ _ h => h) (Or.inl ⟨by rfl, ?_⟩) ?_ ?_
                    rotate_left
                    · intro w'
                      go_simp
                      with_reducible rfl
                    rotate_left
                    · simp only [Act.put, List.setIfInBounds_toArray, List.set_cons_zero, List.set_cons_succ]
                      rfl
                    refine done_ (by kernel_rfl) ?_
                    simp only [Exit.then]
                    have HB4 := Lib.hid (below_undrew hb4)
                    clear hb4
                    go_wp2_with fail
                    go_roundw
                    case rel => exact ⟨i + 1, i, by omega, by go_num, rfl, HFI.out HB1.out (HQ2.out), by rw [HS.out]; exact HT3.out.on HB4.out⟩
                    case measure => (simp [intOf]) <;> omega
                  · subst hb1
                    have hz : ¬ ((j : Int) < 0) := by omega
                    have dz : decide ((j : Int) < 0) = false := by rw [decide_eq_false_iff_not]; omega
                    have hjl0 : j < l.length := by omega
                    obtain ⟨y0, y1, y2⟩ := cells_E hG.out j hjl0
                    have hyj : l[j] = y := by rw [List.getElem?_eq_getElem hjl0] at hy; exact Option.some.inj hy
                    rw [hyj] at y0 y1 y2
                    have HY := Lib.hid hy
                    have hj9 : (j : Int) < (l.length : Int) := by omega
                    have hls := fun W => refLess_c x y W
                    obtain ⟨r, hr⟩ : ∃ r, ltE x y = r := ⟨_, rfl⟩
                    rw [hr] at hls
                    have HLS := Lib.hid hls
                    have HRR := Lib.hid hr
                    clear hy hyj hls hr
                    cases r
                    all_goals
                      go_wp2_with fail
                      go_region_held3 (fun w' => w'.cell? ⟨b1, o1 + i * 3, none⟩ = some (.int .i64 x.a) ∧ w'.cell? ⟨b1, o1 + i * 3 + 1, none⟩ = some (.int .i64 x.b) ∧ w'.cell? ⟨b1, o1 + i * 3 + 2, none⟩ = some (.int .i64 x.w) ∧ w'.cell? ⟨b1, o1 + j * 3, none⟩ = some (.int .i64 y.a) ∧ w'.cell? ⟨b1, o1 + j * 3 + 1, none⟩ = some (.int .i64 y.b) ∧ w'.cell? ⟨b1, o1 + j * 3 + 2, none⟩ = some (.int .i64 y.w)) (first | go_keep | (go_split_ands; refine ⟨?_, ?_, ?_, ?_, ?_, ?_⟩ <;> (refine cell_of_below (by assumption) ?_; assumption)))
                        (first | (go_at_call 14; refine (HC.out _ _ (HT3.out.a.drew.rd encE_len)).mono ?_; rintro e w4 ⟨rfl, hb4⟩) | (go_at_call 15; refine (HLS.out _).mono ?_; rintro e w5 ⟨rfl, hb5⟩))
                      have HB4 := Lib.hid (below_then (below_undrew (w := w3) hb4) hb5)
                      clear hb4 hb5
                      go_wp2_with fail
                      go_roundw
                      case rel => first | exact ⟨i + 1, i, by omega, by go_num, rfl, HLE.out j y rfl HY.out (HQ2.out) HRR.out, by rw [HS.out]; exact HT3.out.on HB4.out⟩ | exact ⟨i + 1, j, by omega, by go_num, rfl, HMO.out j y rfl HY.out HRR.out, by rw [HS.out]; exact HT3.out.on HB4.out⟩
                      case measure => (simp [intOf]) <;> omega
                · have HQ1 := Lib.hid (hq1.1 rfl)
                  clear hq1
                  go_wp2_with fail
                  refine start_ (n := 28) (S := fun w' => w'.cell? ⟨b1, o1 + i * 3, none⟩ = some (.int .i64 x.a) ∧ w'.cell? ⟨b1, o1 + i * 3 + 1, none⟩ = some (.int .i64 x.b)) (ds := []) #[false, false, false, false, false, false, false, false, false, false, false, false, false, false, false, false, false, false, false, false, false, false, false, false, false, false, false, false] (by kernel_rfl) rfl rfl ⟨x0, x1⟩ (fun hHeld => ?_)
                  refine pure_ (i := 0) (N := some 89) (v := ?_) (a' := ?_) #[true, false, false, false, false, false, false, false, false, false, false, false, false, false, false, false, false, false, false, false, false, false, false, false, false, false, false, false] rfl rfl (by kernel_rfl) (fun _ _ _ h => h) (Or.inl ⟨by rfl, ?_⟩) ?_ ?_
                  rotate_left
                  · intro w'
                    go_simp
                    with_reducible rfl
                  rotate_left
                  · simp only [Act.put, List.setIfInBounds_toArray, List.set_cons_zero, List.set_cons_succ]
                    rfl
                  refine pure_ (i := 1) (N := some 90) (v := ?_) (a' := ?_) #[true, true, false, false, false, false, false, false, false, false, false, false, false, false, false, false, false, false, false, false, false, false, false, false, false, false, false, false] rfl rfl (by kernel_rfl) (fun _ _ _ h => h) (Or.inl ⟨by rfl, ?_⟩) ?_ ?_
                  rotate_left
                  · intro w'
                    go_simp
                    with_reducible rfl
                  rotate_left
                  · simp only [Act.put, List.setIfInBounds_toArray, List.set_cons_zero, List.set_cons_succ]
                    rfl
                  refine pure_ (i := 2) (N := some 91) (v := ?_) (a' := ?_) #[true, true, true, false, false, false, false, false, false, false, false, false, false, false, false, false, false, false, false, false, false, false, false, false, false, false, false, false] rfl rfl (by kernel_rfl) (fun _ _ _ h => h) (Or.inl ⟨by rfl, ?_⟩) ?_ ?_
                  rotate_left
                  · intro w'
                    go_simp
                    with_reducible rfl
                  rotate_left
                  · simp only [Act.put, List.setIfInBounds_toArray, List.set_cons_zero, List.set_cons_succ]
                    rfl
                  refine pure_ (i := 3) (N := some 92) (v := ?_) (a' := ?_) #[true, true, true, true, false, false, false, false, false, false, false, false, false, false, false, false, false, false, false, false, false, false, false, false, false, false, false, false] rfl rfl (by kernel_rfl) (fun _ _ _ h => h) (Or.inl ⟨by rfl, ?_⟩) ?_ ?_
                  rotate_left
                  · intro w'
                    go_simp
                    with_reducible rfl
                  rotate_left
                  · simp only [Act.put, List.setIfInBounds_toArray, List.set_cons_zero, List.set_cons_succ]
                    rfl
                  refine pure_ (i := 4) (N := some 93) (v := ?_) (a' := ?_) #[true, true, true, true, true, false, false, false, false, false, false, false, false, false, false, false, false, false, false, false, false, false, false, false, false, false, false, false] rfl rfl (by kernel_rfl) (fun _ _ _ h => h) (Or.inl ⟨by rfl, ?_⟩) ?_ ?_
                  rotate_left
                  · intro w'
                    go_simp
                    with_reducible rfl
                  rotate_left
                  · simp only [Act.put, List.setIfInBounds_toArray, List.set_cons_zero, List.set_cons_succ]
                    rfl
                  refine pure_ (i := 6) (N := some 95) (v := ?_) (a' := ?_) #[true, true, true, true, true, false, true, false, false, false, false, false, false, false, false, false, false, false, false, false, false, false, false, false, false, false, false, false] rfl rfl (by kernel_rfl) (fun _ _ _ h => h) (Or.inl ⟨by rfl, ?_⟩) ?_ ?_
                  rotate_left
                  · intro w'
                    go_simp
                    with_reducible rfl
                  rotate_left
                  · simp only [Act.put, List.setIfInBounds_toArray, List.set_cons_zero, List.set_cons_succ]
                    rfl
                  refine pure_ (i := 7) (N := some 96) (v := ?_) (a' := ?_) #[true, true, true, true, true, false, true, true, false, false, false, false, false, false, false, false, false, false, false, false, false, false, false, false, false, false, false, false] rfl rfl (by kernel_rfl) (fun _ _ _ h => h) (Or.inl ⟨by rfl, ?_⟩) ?_ ?_
                  rotate_left
                  · intro w'
                    go_simp
                    with_reducible rfl
                  rotate_left
                  · simp only [Act.put, List.setIfInBounds_toArray, List.set_cons_zero, List.set_cons_succ]
                    rfl
                  refine pure_ (i := 8) (N := some 97) (v := ?_) (a' := ?_) #[true, true, true, true, true, false, true, true, true, false, false, false, false, false, false, false, false, false, false, false, false, false, false, false, false, false, false, false] rfl rfl (by kernel_rfl) (fun _ _ _ h => h) (Or.inl ⟨by rfl, ?_⟩) ?_ ?_
                  rotate_left
                  · intro w'
                    go_simp
                    with_reducible rfl
                  rotate_left
                  · simp only [Act.put, List.setIfInBounds_toArray, List.set_cons_zero, List.set_cons_succ]
                    rfl
                  refine pure_ (i := 9) (N := some 98) (v := ?_) (a' := ?_) #[true, true, true, true, true, false, true, true, true, true, false, false, false, false, false, false, false, false, false, false, false, false, false, false, false, false, false, false] rfl rfl (by kernel_rfl) (fun _ _ _ h => h) (Or.inl ⟨by rfl, ?_⟩) ?_ ?_
                  rotate_left
                  · intro w'
                    go_simp
                    with_reducible rfl
                  rotate_left
                  · simp only [Act.put, List.setIfInBounds_toArray, List.set_cons_zero, List.set_cons_succ]
                    rfl
                  refine take_ (i := 5) (N := some 94) (v := ?_) (a' := ?_) #[true, true, true, true, true, true, true, true, true, true, false, false, false, false, false, false, false, false, false, false, false, false, false, false, false, false, false, false] rfl rfl (by kernel_rfl) (fun _ _ _ h => h) (Or.inl ⟨by rfl, ?_⟩) hHeld ?_ ?_
                  rotate_left
                  · rintro w' ⟨s0, s1⟩
                    go_simp
                    with_reducible rfl
                  rotate_left
                  · simp only [Act.put, List.setIfInBounds_toArray, List.set_cons_zero, List.set_cons_succ]
                    rfl
                  refine take_ (i := 10) (N := some 99) (v := ?_) (a' := ?_) #[true, true, true, true, true, true, true, true, true, true, true, false, false, false, false, false, false, false, false, false, false, false, false, false, false, false, false, false] rfl rfl (by kernel_rfl) (fun _ _ _ h => h) (Or.inl ⟨by rfl, ?_⟩) hHeld ?_ ?_
                  rotate_left
                  · rintro w' ⟨s0, s1⟩
                    go_simp
                    with_reducible rfl
                  rotate_left
                  · simp only [Act.put, List.setIfInBounds_toArray, List.set_cons_zero, List.set_cons_succ]
                    rfl
                  refine one_ (i := 11) (N := some 100) #[true, true, true, true, true, true, true, true, true, true, true, true, false, false, false, false, false, false, false, false, false, false, false, false, false, false, false, false] rfl rfl (by kernel_rfl) (by decide) (fun K hK => ?_)
                  refine goes_ Try.func14 (by kernel_rfl) rfl #[u8, .int .i64 x.a, .int .i64 x.b] (by rfl) rfl rfl (by simp only [List.map_toArray, List.map_cons, List.map_nil]; rfl) ?_
                  with_reducible refine (HC.out _ _ (HT3.out.a.drew.rd encE_len)).mono ?_
                  rintro r w4 ⟨rfl, hb4⟩
                  refine ⟨_, rfl, ?_⟩
                  refine hK.out _ _ ⟨cell_of_below hb4 hHeld.1, cell_of_below hb4 hHeld.2⟩ (fun hHeld => ?_)
                  clear hK K
                  refine norm_ (a' := ?_) ?_ ?_
                  rotate_left
                  · show Act.put _ (some 100) _ = _
                    simp only [Act.put, List.setIfInBounds_toArray, List.set_cons_zero, List.set_cons_succ]
                    rfl
                  refine pure_ (i := 12) (N := some 101) (v := ?_) (a' := ?_) #[true, true, true, true, true, true, true, true, true, true, true, true, true, false, false, false, false, false, false, false, false, false, false, false, false, false, false, false] rfl rfl (by kernel_rfl) (fun _ _ _ h => h) (Or.inl ⟨by rfl, ?_⟩) ?_ ?_
                  rotate_left
                  · intro w'
                    go_simp
                    with_reducible rfl
                  rotate_left
                  · simp only [Act.put, List.setIfInBounds_toArray, List.set_cons_zero, List.set_cons_succ]
                    rfl
                  refine pure_ (i := 13) (N := some 102) (v := ?_) (a' := ?_) #[true, true, true, true, true, true, true, true, true, true, true, true, true, true, false, false, false, false, false, false, false, false, false, false, false, false, false, false] rfl rfl (by kernel_rfl) (fun _ _ _ h => h) (Or.inl ⟨by rfl, ?_⟩) ?_ ?_
                  rotate_left
                  · intro w'
                    go_simp
                    with_reducible rfl
                  rotate_left
                  · simp only [Act.put, List.setIfInBounds_toArray, List.set_cons_zero, List.set_cons_succ]
                    rfl
                  refine pure_ (i := 14) (N := some 103) (v := undef) (a' := ?_) #[true, true, true, true, true, true, true, true, true, true, true, true, true, true, true, false, false, false, false, false, false, false, false, false, false, false, false, false] rfl rfl (by kernel_rfl) (fun _ _ _ h => h) (Or.inr ⟨by rfl, rfl⟩) ?_ ?_
                  rotate_left
                  · simp only [Act.put, List.setIfInBounds_toArray, List.set_cons_zero, List.set_cons_succ]
                    rfl
                  refine pure_ (i := 15) (N := some 104) (v := undef) (a' := ?_) #[true, true, true, true, true, true, true, true, true, true, true, true, true, true, true, true, false, false, false, false, false, false, false, false, false, false, false, false] rfl rfl (by kernel_rfl) (fun _ _ _ h => h) (Or.inr ⟨by rfl, rfl⟩) ?_ ?_
                  rotate_left
                  · simp only [Act.put, List.setIfInBounds_toArray, List.set_cons_zero, List.set_cons_succ]
                    rfl
                  refine pure_ (i := 16) (N := some 105) (v := undef) (a' := ?_) #[true, true, true, true, true, true, true, true, true, true, true, true, true, true, true, true, true, false, false, false, false, false, false, false, false, false, false, false] rfl rfl (by kernel_rfl) (fun _ _ _ h => h) (Or.inr ⟨by rfl, rfl⟩) ?_ ?_
                  rotate_left
                  · simp only [Act.put, List.setIfInBounds_toArray, List.set_cons_zero, List.set_cons_succ]
                    rfl
                  refine pure_ (i := 17) (N := some 106) (v := undef) (a' := ?_) #[true, true, true, true, true, true, true, true, true, true, true, true, true, true, true, true, true, true, false, false, false, false, false, false, false, false, false, false] rfl rfl (by kernel_rfl) (fun _ _ _ h => h) (Or.inr ⟨by rfl, rfl⟩) ?_ ?_
                  rotate_left
                  · simp only [Act.put, List.setIfInBounds_toArray, List.set_cons_zero, List.set_cons_succ]
                    rfl
                  refine pure_ (i := 18) (N := some 107) (v := undef) (a' := ?_) #[true, true, true, true, true, true, true, true, true, true, true, true, true, true, true, true, true, true, true, false, false, false, false, false, false, false, false, false] rfl rfl (by kernel_rfl) (fun _ _ _ h => h) (Or.inr ⟨by rfl, rfl⟩) ?_ ?_
                  rotate_left
                  · simp only [Act.put, List.setIfInBounds_toArray, List.set_cons_zero, List.set_cons_succ]
                    rfl
                  refine pure_ (i := 19) (N := some 108) (v := undef) (a' := ?_) #[true, true, true, true, true, true, true, true, true, true, true, true, true, true, true, true, true, true, true, true, false, false, false, false, false, false, false, false] rfl rfl (by kernel_rfl) (fun _ _ _ h => h) (Or.inr ⟨by rfl, rfl⟩) ?_ ?_
                  rotate_left
                  · simp only [Act.put, List.setIfInBounds_toArray, List.set_cons_zero, List.set_cons_succ]
                    rfl
                  refine pure_ (i := 20) (N := some 109) (v := undef) (a' := ?_) #[true, true, true, true, true, true, true, true, true, true, true, true, true, true, true, true, true, true, true, true, true, false, false, false, false, false, false, false] rfl rfl (by kernel_rfl) (fun _ _ _ h => h) (Or.inr ⟨by rfl, rfl⟩) ?_ ?_
                  rotate_left
                  · simp only [Act.put, List.setIfInBounds_toArray, List.set_cons_zero, List.set_cons_succ]
                    rfl
                  refine pure_ (i := 21) (N := some 110) (v := undef) (a' := ?_) #[true, true, true, true, true, true, true, true, true, true, true, true, true, true, true, true, true, true, true, true, true, true, false, false, false, false, false, false] rfl rfl (by kernel_rfl) (fun _ _ _ h => h) (Or.inr ⟨by rfl, rfl⟩) ?_ ?_
                  rotate_left
                  · simp only [Act.put, List.setIfInBounds_toArray, List.set_cons_zero, List.set_cons_succ]
                    rfl
                  refine pure_ (i := 22) (N := some 111) (v := undef) (a' := ?_) #[true, true, true, true, true, true, true, true, true, true, true, true, true, true, true, true, true, true, true, true, true, true, true, false, false, false, false, false] rfl rfl (by kernel_rfl) (fun _ _ _ h => h) (Or.inr ⟨by rfl, rfl⟩) ?_ ?_
                  rotate_left
                  · simp only [Act.put, List.setIfInBounds_toArray, List.set_cons_zero, List.set_cons_succ]
                    rfl
                  refine pure_ (i := 23) (N := some 112) (v := undef) (a' := ?_) #[true, true, true, true, true, true, true, true, true, true, true, true, true, true, true, true, true, true, true, true, true, true, true, true, false, false, false, false] rfl rfl (by kernel_rfl) (fun _ _ _ h => h) (Or.inr ⟨by rfl, rfl⟩) ?_ ?_
                  rotate_left
                  · simp only [Act.put, List.setIfInBounds_toArray, List.set_cons_zero, List.set_cons_succ]
                    rfl
                  refine pure_ (i := 24) (N := some 113) (v := undef) (a' := ?_) #[true, true, true, true, true, true, true, true, true, true, true, true, true, true, true, true, true, true, true, true, true, true, true, true, true, false, false, false] rfl rfl (by kernel_rfl) (fun _ _ _ h => h) (Or.inr ⟨by rfl, rfl⟩) ?_ ?_
                  rotate_left
                  · simp only [Act.put, List.setIfInBounds_toArray, List.set_cons_zero, List.set_cons_succ]
                    rfl
                  refine pure_ (i := 25) (N := some 114) (v := undef) (a' := ?_) #[true, true, true, true, true, true, true, true, true, true, true, true, true, true, true, true, true, true, true, true, true, true, true, true, true, true, false, false] rfl rfl (by kernel_rfl) (fun _ _ _ h => h) (Or.inr ⟨by rfl, rfl⟩) ?_ ?_
                  rotate_left
                  · simp only [Act.put, List.setIfInBounds_toArray, List.set_cons_zero, List.set_cons_succ]
                    rfl
                  refine pure_ (i := 26) (N := some 115) (v := undef) (a' := ?_) #[true, true, true, true, true, true, true, true, true, true, true, true, true, true, true, true, true, true, true, true, true, true, true, true, true, true, true, false] rfl rfl (by kernel_rfl) (fun _ _ _ h => h) (Or.inr ⟨by rfl, rfl⟩) ?_ ?_
                  rotate_left
                  · simp only [Act.put, List.setIfInBounds_toArray, List.set_cons_zero, List.set_cons_succ]
                    rfl
                  refine pure_ (i := 27) (N := some 116) (v := ?_) (a' := ?_) #[true, true, true, true, true, true, true, true, true, true, true, true, true, true, true, true, true, true, true, true, true, true, true, true, true, true, true, true] rfl rfl (by kernel_rfl) (fun _ _ _ h => h) (Or.inl ⟨by rfl, ?_⟩) ?_ ?_
                  rotate_left
                  · intro w'
                    go_simp
                    with_reducible rfl
                  rotate_left
                  · simp only [Act.put, List.setIfInBounds_toArray, List.set_cons_zero, List.set_cons_succ]
                    rfl
                  refine done_ (by kernel_rfl) ?_
                  simp only [Exit.then]
                  have HB4 := Lib.hid (below_undrew hb4)
                  clear hb4
                  go_wp2_with fail
                  go_roundw
                  case rel => exact ⟨i + 1, b, by omega, by go_num, rfl, HSK.out (HQ1.out), by rw [HS.out]; exact HT3.out.on HB4.out⟩
                  case measure => (simp [intOf]) <;> omega
            · obtain rfl : i = l.length := by omega
              rw [List.take_length] at HT
              have hla := loses_at (b := b) HAP.out (by rw [HF.out, HKK.out]; exact HBEST.out)
              rw [HF.out, HKK.out] at hla
              have hrl := (but_sub l cut).length_le
              have hcr : check (but l cut) = 0 := check_sub H0.out (fun x hx => (but_sub l cut).subset hx) (apart_sub (but_sub l cut) HAP.out) (by omega)
              have HLA := Lib.hid hla
              have HCR := Lib.hid hcr
              have HRR := Lib.hid (HT.out.b.rd encE_len)
              have HKR := Lib.hid (HT.out.a.rd encE_len)
              clear hla hcr C0 C1 C2
              rcases hbc with hb1 | ⟨j, y, hb1, hji, hy⟩
              · subst hb1
                have hz : ¬ ((0 : Int) ≤ -1) := by omega
                have hes := HLA.out.1 rfl
                have HES := Lib.hid hes
                have HBR := Lib.hid hbr
                clear hes hbr
                go_wp2_with fail
                go_at_call 12; refine (least_ok HCR.out _ _ HRR.out).mono ?_; rintro r w3 ⟨v3, rfl, hr3, hb3⟩
                rw [HES.out] at hr3
                have HR3 := Lib.hid hr3
                have HB3 := Lib.hid hb3
                clear hr3 hb3
                go_wp2_with fail
                go_at_call 16; refine (refSort_c kk _ _ (HKR.out.below HB3.out) (by omega)).mono ?_; rintro r w4 ⟨⟨v4, rfl, ho4⟩, hb4⟩
                have HB4 := Lib.hid (below_then HB3.out hb4)
                have hs4 := refSame_c (sortE kk) (sortE kk) _ _ _ (HR3.out.below hb4) (ho4.rd encE_len)
                rw [decide_eq_true rfl] at hs4
                have HS4 := Lib.hid hs4
                clear hs4 ho4 hb4
                go_wp2_with fail
                go_at_call 13; refine HS4.out.mono ?_; rintro r w5 ⟨rfl, hd5⟩
                have HB5 := Lib.hid (below_then HB4.out hd5.below)
                clear hd5
                go_wp2_with fail
                go_at_call 11; refine (awake07_c _).mono ?_; rintro r w6 ⟨rfl, h6⟩
                go_wp2_with fail
                go_ret
                exact ⟨rfl, below_then HBW.out (below_then HBR.out (below_then HB5.out h6))⟩
              · subst hb1
                have hz : (0 : Int) ≤ (j : Int) := by omega
                have hes := HLA.out.2 j y rfl hy
                have HES := Lib.hid hes
                have hjl0 : j < l.length := by omega
                have hj9 : (j : Int) < (l.length : Int) := by omega
                obtain ⟨A1, c1, e1, _, _, h3⟩ := HVW.out.below hbr
                obtain ⟨b1, o1, rfl, _, g0⟩ := h3 (by intro h; subst h; simp at hjl0)
                simp only [Value.slice.injEq, true_and] at e1
                obtain ⟨rfl, rfl⟩ := e1
                obtain ⟨y0, y1, y2⟩ := cells_E g0 j hjl0
                have hyj : l[j] = y := by rw [List.getElem?_eq_getElem hjl0] at hy; exact Option.some.inj hy
                rw [hyj] at y0 y1 y2
                clear hes hbr hy hyj g0 h3
                go_wp2_with (at_builtin; refine wpList_append1 encE_len encE_one (BX + 1) (BX + 1) rfl _ _ 22 (.agg #[.int .i64 0, .int .i64 0, .int .i64 0]) 24 rfl Try.underlying22 infoE rfl (by decide) (by decide) _ kk y rfl rfl _ rfl (by simp) HT.out.a HT.out.below (Nat.le_refl _) HT.out.le (by omega) ?_; intro v2 w2 ho2 hb2 hg2 hat2)
                have HT2 := Lib.hid (HT.out.swap.more ho2 hb2 hg2 hat2)
                clear ho2 hb2 hg2 hat2 HRR HKR
                have HRR := Lib.hid (HT2.out.a.rd encE_len)
                have HKR := Lib.hid (HT2.out.b.rd encE_len)
                have hbr2 := HT2.out.below
                rw [← hsW] at hbr2
                have HBR := Lib.hid hbr2
                clear hbr2
                go_wp2_with fail
                go_at_call 12; refine (least_ok HCR.out _ _ HRR.out).mono ?_; rintro r w3 ⟨v3, rfl, hr3, hb3⟩
                rw [HES.out] at hr3
                have HR3 := Lib.hid hr3
                have HB3 := Lib.hid hb3
                clear hr3 hb3
                go_wp2_with fail
                go_at_call 16; refine (refSort_c (kk ++ [y]) _ _ (HKR.out.below HB3.out) (by simp; omega)).mono ?_; rintro r w4 ⟨⟨v4, rfl, ho4⟩, hb4⟩
                have HB4 := Lib.hid (below_then HB3.out hb4)
                have hs4 := refSame_c (sortE (kk ++ [y])) (sortE (kk ++ [y])) _ _ _ (HR3.out.below hb4) (ho4.rd encE_len)
                rw [decide_eq_true rfl] at hs4
                have HS4 := Lib.hid hs4
                clear hs4 ho4 hb4
                go_wp2_with fail
                go_at_call 13; refine HS4.out.mono ?_; rintro r w5 ⟨rfl, hd5⟩
                have HB5 := Lib.hid (below_then HB4.out hd5.below)
                clear hd5
                go_wp2_with fail
                go_at_call 11; refine (awake07_c _).mono ?_; rintro r w6 ⟨rfl, h6⟩
                go_wp2_with fail
                go_ret
                exact ⟨rfl, below_then HBW.out (below_then HBR.out (below_then HB5.out h6))⟩
  · have hck := fun u w hu => refCheck_c l u w hu
    have hne : (check l != 0) = true := by simpa using h0
    obtain ⟨c, hc⟩ : ∃ c, check l = c := ⟨_, rfl⟩
    rw [hc] at hck hne
    have HCK := Lib.hid hck
    clear hck h0 hc
    go_enter Try.func4, Try.ntmps4
    go_wp2_with fail
    go_at_call 10; refine (HCK.out _ _ HV.out).mono ?_; rintro r w1 ⟨rfl, hb1⟩
    have HB1 := Lib.hid hb1
    clear hb1
    go_wp2_with fail
    go_at_call 11; refine (awake07_c _).mono ?_; rintro r w2 ⟨rfl, h2⟩
    go_wp2_with fail
    go_ret
    exact ⟨rfl, below_then HB1.out h2⟩

end Go.Proofs.Ytandminldgiheaa
