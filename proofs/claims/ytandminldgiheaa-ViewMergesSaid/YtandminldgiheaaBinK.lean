/- Walk: slices.BinarySearchFunc at links in order. -/
import Derived.Test.YtandminldgiheaaMergeP
import Derived.Test.YtandminldgiheaaOwn
import Derived.Test.YtandminldgiheaaViewW
import Derived.Test.YtandminldgiheaaTail
import Derived.Test.YtandminldgiheaaWFn
namespace Go.Proofs.Ytandminldgiheaa
open Go.RowKit Go.Shelf Go.Proofs.YtandminldgiheaaW.PrintLast
attribute [local go_sem ↓] Go.wp_at_zero Go.wp_at_succ

/-- Where a link that is not ahead of t is first, and whether it is of the same nodes. -/
def BinPost (l : List Known) (t : Known) (w : World) (e : Ending) (w' : World) : Prop :=
  Below w.heap.size w w' ∧ ∃ i : Nat, i ≤ l.length ∧ (∀ (j : Nat) (x : Known), j < i → l[j]? = some x → aheadK x t = true) ∧ (∀ (j : Nat) (x : Known), i ≤ j → l[j]? = some x → aheadK x t = false) ∧
    e = .returned (.tuple #[.int .i64 i, .bool ((l[i]?.map fun x => decide (cmpK x t = 0)).getD false)])

set_option maxRecDepth 100000 in
set_option maxHeartbeats 4000000 in
theorem binSearchK_c (l : List Known) (t : Known) (v : Value) (w : World) (hv : RdK w v l) (hl : l.length ≤ 1000000) (ho : l.Pairwise (fun x y => aheadK x y = true)) :
    Calls Try.prog 65 #[v, .agg #[.int .i64 t.node, .int .i64 t.peer, .int .i64 t.w, .int .i64 t.session, .bool t.marked], .func (.func 63) #[] #[]] w (BinPost l t w) := by
  have HV := Lib.hid hv
  obtain ⟨A0, c0, rfl, h10, h20, _⟩ := hv
  have hn : l.length ≤ 9223372036854775807 := by omega
  clear h10 h20
  have HO := Lib.hid ho
  clear ho
  obtain ⟨W, hW⟩ : ∃ W, w.alloc (.cells #[.int .i64 t.node, .int .i64 t.peer, .int .i64 t.w, .int .i64 t.session, .bool t.marked] 51) = W := ⟨_, rfl⟩
  obtain ⟨BX, hBX⟩ : ∃ BX, w.heap.size = BX := ⟨_, rfl⟩
  have f1 := alloc_facts hW
  have HBX := Lib.hid f1.2.2.1
  have hbox := f1.1
  rw [hBX] at hbox
  have HBOX := Lib.hid hbox
  have HVW := Lib.hid (HV.out.below HBX.out)
  clear f1 hbox HV
  go_enter Try.func65, Try.ntmps65
  go_wp2_with fail
  clear hW hBX
  go_loopw [9, 10] (fun s9 s10 wr => ∃ i j : Nat, i ≤ j ∧ j ≤ l.length ∧ s9 = .int .i64 i ∧ s10 = .int .i64 j ∧ (∀ (p : Nat) (x : Known), p < i → l[p]? = some x → aheadK x t = true) ∧ (∀ (p : Nat) (x : Known), j ≤ p → l[p]? = some x → aheadK x t = false) ∧ Below W.heap.size W wr) (fun s9 s10 _ => (intOf s10).toNat - (intOf s9).toNat)
  case atStart => exact ⟨0, l.length, by omega, by omega, rfl, rfl, by omega, (fun p x hp hx => by rw [List.getElem?_eq_none (by omega)] at hx; cases hx), Below.refl _ _⟩
  case round =>
    obtain ⟨i, j, hij, hjl, rfl, rfl, h1, h2, hb⟩ := hrel
    have H1 := Lib.hid h1
    have H2 := Lib.hid h2
    have HB := Lib.hid hb
    have hbox := block_of_below HBOX.out hb
    have y0 := cell_in hbox 0 _ rfl
    have y1 := cell_in hbox 1 _ rfl
    have y2 := cell_in hbox 2 _ rfl
    have y3 := cell_in hbox 3 _ rfl
    have y4 := cell_in hbox 4 _ rfl
    have hrd := HVW.out.below hb
    clear h1 h2 hb hbox
    by_cases hlt : i < j
    · obtain ⟨m, hm⟩ : ∃ m, (i + j) / 2 = m := ⟨_, rfl⟩
      have hm1 : i ≤ m := by omega
      have hm2 : m < j := by omega
      have hi0 : (i : Int) < (j : Int) := by omega
      have hme : ((i : Int) + (j : Int)) / 2 = (m : Int) := by omega
      have HME := Lib.hid hme
      have hml : m < l.length := by omega
      obtain ⟨A1, c1, e1, _, _, h3⟩ := hrd
      obtain ⟨b0, o0, rfl, _, g0⟩ := h3 (by intro h; subst h; simp at hml)
      simp only [Value.slice.injEq, true_and] at e1
      obtain ⟨rfl, rfl⟩ := e1
      obtain ⟨x0, x1, x2, x3, x4⟩ := cells_K g0 m hml
      have hi8 : (0 : Int) ≤ (m : Int) := by omega
      have hi9 : (m : Int) < (l.length : Int) := by omega
      have hx : l[m]? = some l[m] := List.getElem?_eq_getElem hml
      obtain ⟨x, hxx⟩ : ∃ x, l[m] = x := ⟨_, rfl⟩
      rw [hxx] at x0 x1 x2 x3 x4 hx
      have HX := Lib.hid hx
      have hord := fun W => viewOrder_b x t W
      have hlt2 := cmpK_lt x t
      obtain ⟨c, hc⟩ : ∃ c, cmpK x t = c := ⟨_, rfl⟩
      rw [hc] at hord hlt2
      have HORD := Lib.hid hord
      have eg : ∀ args w, (callFunc 63 args).run Try.prog w = .ok (.enter 63 args) w := enters_of Try.func63 (by kernel_rfl) rfl
      have hge : ∀ (p : Nat) (y : Known), m ≤ p → l[p]? = some y → aheadK x t = false → aheadK y t = false := fun p y hp hy h0 => by
        by_cases hpm : p = m
        · subst hpm; rw [HX.out] at hy; obtain rfl := Option.some.inj hy; exact h0
        · have hpl := (List.getElem?_eq_some_iff.1 hy).1
          have hpw := List.pairwise_iff_getElem.1 HO.out m p hml hpl (by omega)
          rw [List.getElem?_eq_getElem hpl] at hy
          obtain rfl := Option.some.inj hy
          rw [hxx] at hpw
          cases hh : aheadK l[p] t with
          | false => rfl
          | true => rw [aheadK_trans _ _ _ hpw hh] at h0; cases h0
      have hle : ∀ (p : Nat) (y : Known), p < m + 1 → l[p]? = some y → aheadK x t = true → aheadK y t = true := fun p y hp hy h0 => by
        by_cases hpm : p = m
        · subst hpm; rw [HX.out] at hy; obtain rfl := Option.some.inj hy; exact h0
        · have hpl := (List.getElem?_eq_some_iff.1 hy).1
          have hpw := List.pairwise_iff_getElem.1 HO.out p m hpl hml (by omega)
          rw [List.getElem?_eq_getElem hpl] at hy
          obtain rfl := Option.some.inj hy
          rw [hxx] at hpw
          exact aheadK_trans _ _ _ hpw h0
      have HGE := Lib.hid hge
      have HLE := Lib.hid hle
      clear hxx hx hc hord hme g0 h3 hge hle hm
      cases hah : aheadK x t
      · have hcn : ¬ c < 0 := by rw [hlt2, hah]; simp
        have HAH := Lib.hid hah
        clear hah hlt2
        go_wp2_with fail
        rw [HME.out]
        refine region_tail 6 (by kernel_rfl) (by kernel_rfl) ?_
        simp only [List.take_succ_cons, List.take_zero, List.drop_succ_cons, List.drop_zero]
        repeat still_step
        refine wpStill_nil ?_
        go_wp2_with (go_at_fn 63; refine (HORD.out _).mono ?_; rintro e w1 ⟨rfl, hb1⟩)
        go_roundw
        case rel => exact ⟨i, m, by omega, by omega, rfl, rfl, H1.out, fun p y hp hy => HGE.out p y hp hy HAH.out, below_then (below_drew HB.out) hb1⟩
        case measure => (simp [intOf]) <;> omega
      · have hcn : c < 0 := by rw [hlt2, hah]
        have HAH := Lib.hid hah
        clear hah hlt2
        go_wp2_with fail
        rw [HME.out]
        refine region_tail 6 (by kernel_rfl) (by kernel_rfl) ?_
        simp only [List.take_succ_cons, List.take_zero, List.drop_succ_cons, List.drop_zero]
        repeat still_step
        refine wpStill_nil ?_
        go_wp2_with (go_at_fn 63; refine (HORD.out _).mono ?_; rintro e w1 ⟨rfl, hb1⟩)
        go_roundw
        case rel => exact ⟨m + 1, j, by omega, by omega, by go_num, rfl, fun p y hp hy => HLE.out p y hp hy HAH.out, H2.out, below_then (below_drew HB.out) hb1⟩
        case measure => (simp [intOf]) <;> omega
    · obtain rfl : i = j := by omega
      by_cases hil : i < l.length
      · obtain ⟨A1, c1, e1, _, _, h3⟩ := hrd
        obtain ⟨b0, o0, rfl, _, g0⟩ := h3 (by intro h; subst h; simp at hil)
        simp only [Value.slice.injEq, true_and] at e1
        obtain ⟨rfl, rfl⟩ := e1
        obtain ⟨x0, x1, x2, x3, x4⟩ := cells_K g0 i hil
        have hi8 : (0 : Int) ≤ (i : Int) := by omega
        have hi9 : (i : Int) < (l.length : Int) := by omega
        have d9 : decide ((i : Int) < (l.length : Int)) = true := by rw [decide_eq_true_iff]; exact hi9
        have hx : l[i]? = some l[i] := List.getElem?_eq_getElem hil
        obtain ⟨x, hxx⟩ : ∃ x, l[i] = x := ⟨_, rfl⟩
        rw [hxx] at x0 x1 x2 x3 x4 hx
        have hord := fun W => viewOrder_b x t W
        have hans : ((l[i]?.map fun x => decide (cmpK x t = 0)).getD false) = decide (cmpK x t = 0) := by rw [hx]; rfl
        obtain ⟨c, hc⟩ : ∃ c, cmpK x t = c := ⟨_, rfl⟩
        rw [hc] at hord hans
        have HORD := Lib.hid hord
        have HANS := Lib.hid hans
        have hcd : (c == 0) = decide (c = 0) := by rw [Bool.eq_iff_iff]; simp
        have HCD := Lib.hid hcd
        clear hxx hx hc hord hans g0 h3 hcd
        go_wp2_with fail
        refine start_ (n := 16) (S := fun w' => w'.cell? ⟨BX, 0, none⟩ = some (.int .i64 t.node) ∧ w'.cell? ⟨BX, 1, none⟩ = some (.int .i64 t.peer) ∧ w'.cell? ⟨BX, 2, none⟩ = some (.int .i64 t.w) ∧ w'.cell? ⟨BX, 3, none⟩ = some (.int .i64 t.session) ∧ w'.cell? ⟨BX, 4, none⟩ = some (.bool t.marked) ∧ w'.cell? ⟨b0, o0 + i * 5, none⟩ = some (.int .i64 x.node) ∧ w'.cell? ⟨b0, o0 + i * 5 + 1, none⟩ = some (.int .i64 x.peer) ∧ w'.cell? ⟨b0, o0 + i * 5 + 2, none⟩ = some (.int .i64 x.w) ∧ w'.cell? ⟨b0, o0 + i * 5 + 3, none⟩ = some (.int .i64 x.session) ∧ w'.cell? ⟨b0, o0 + i * 5 + 4, none⟩ = some (.bool x.marked)) (ds := []) #[false, false, false, false, false, false, false, false, false, false, false, false, false, false, false, false] (by kernel_rfl) rfl rfl ⟨y0, y1, y2, y3, y4, x0, x1, x2, x3, x4⟩ (fun hHeld => ?_)
        refine pure_ (i := 0) (N := some 35) (v := ?_) (a' := ?_) #[true, false, false, false, false, false, false, false, false, false, false, false, false, false, false, false] rfl rfl (by kernel_rfl) (fun _ _ _ h => h) (Or.inl ⟨by rfl, ?_⟩) ?_ ?_
        rotate_left
        · intro w'
          go_simp
          with_reducible rfl
        rotate_left
        · simp only [Act.put, List.setIfInBounds_toArray, List.set_cons_zero, List.set_cons_succ]
          rfl
        refine pure_ (i := 1) (N := some 36) (v := ?_) (a' := ?_) #[true, true, false, false, false, false, false, false, false, false, false, false, false, false, false, false] rfl rfl (by kernel_rfl) (fun _ _ _ h => h) (Or.inl ⟨by rfl, ?_⟩) ?_ ?_
        rotate_left
        · intro w'
          go_simp
          with_reducible rfl
        rotate_left
        · simp only [Act.put, List.setIfInBounds_toArray, List.set_cons_zero, List.set_cons_succ]
          rfl
        refine pure_ (i := 2) (N := some 37) (v := ?_) (a' := ?_) #[true, true, true, false, false, false, false, false, false, false, false, false, false, false, false, false] rfl rfl (by kernel_rfl) (fun _ _ _ h => h) (Or.inl ⟨by rfl, ?_⟩) ?_ ?_
        rotate_left
        · intro w'
          go_simp
          with_reducible rfl
        rotate_left
        · simp only [Act.put, List.setIfInBounds_toArray, List.set_cons_zero, List.set_cons_succ]
          rfl
        refine pure_ (i := 3) (N := some 38) (v := ?_) (a' := ?_) #[true, true, true, true, false, false, false, false, false, false, false, false, false, false, false, false] rfl rfl (by kernel_rfl) (fun _ _ _ h => h) (Or.inl ⟨by rfl, ?_⟩) ?_ ?_
        rotate_left
        · intro w'
          go_simp
          with_reducible rfl
        rotate_left
        · simp only [Act.put, List.setIfInBounds_toArray, List.set_cons_zero, List.set_cons_succ]
          rfl
        refine pure_ (i := 4) (N := some 39) (v := ?_) (a' := ?_) #[true, true, true, true, true, false, false, false, false, false, false, false, false, false, false, false] rfl rfl (by kernel_rfl) (fun _ _ _ h => h) (Or.inl ⟨by rfl, ?_⟩) ?_ ?_
        rotate_left
        · intro w'
          go_simp
          with_reducible rfl
        rotate_left
        · simp only [Act.put, List.setIfInBounds_toArray, List.set_cons_zero, List.set_cons_succ]
          rfl
        refine pure_ (i := 5) (N := some 40) (v := ?_) (a' := ?_) #[true, true, true, true, true, true, false, false, false, false, false, false, false, false, false, false] rfl rfl (by kernel_rfl) (fun _ _ _ h => h) (Or.inl ⟨by rfl, ?_⟩) ?_ ?_
        rotate_left
        · intro w'
          go_simp
          with_reducible rfl
        rotate_left
        · simp only [Act.put, List.setIfInBounds_toArray, List.set_cons_zero, List.set_cons_succ]
          rfl
        refine pure_ (i := 6) (N := some 41) (v := ?_) (a' := ?_) #[true, true, true, true, true, true, true, false, false, false, false, false, false, false, false, false] rfl rfl (by kernel_rfl) (fun _ _ _ h => h) (Or.inl ⟨by rfl, ?_⟩) ?_ ?_
        rotate_left
        · intro w'
          go_simp
          with_reducible rfl
        rotate_left
        · simp only [Act.put, List.setIfInBounds_toArray, List.set_cons_zero, List.set_cons_succ]
          rfl
        refine pure_ (i := 7) (N := some 42) (v := ?_) (a' := ?_) #[true, true, true, true, true, true, true, true, false, false, false, false, false, false, false, false] rfl rfl (by kernel_rfl) (fun _ _ _ h => h) (Or.inl ⟨by rfl, ?_⟩) ?_ ?_
        rotate_left
        · intro w'
          go_simp
          with_reducible rfl
        rotate_left
        · simp only [Act.put, List.setIfInBounds_toArray, List.set_cons_zero, List.set_cons_succ]
          rfl
        refine pure_ (i := 8) (N := some 43) (v := ?_) (a' := ?_) #[true, true, true, true, true, true, true, true, true, false, false, false, false, false, false, false] rfl rfl (by kernel_rfl) (fun _ _ _ h => h) (Or.inl ⟨by rfl, ?_⟩) ?_ ?_
        rotate_left
        · intro w'
          go_simp
          with_reducible rfl
        rotate_left
        · simp only [Act.put, List.setIfInBounds_toArray, List.set_cons_zero, List.set_cons_succ]
          rfl
        refine take_ (i := 9) (N := some 44) (v := ?_) (a' := ?_) #[true, true, true, true, true, true, true, true, true, true, false, false, false, false, false, false] rfl rfl (by kernel_rfl) (fun _ _ _ h => h) (Or.inl ⟨by rfl, ?_⟩) hHeld ?_ ?_
        rotate_left
        · rintro w' ⟨s0, s1, s2, s3, s4, s5, s6, s7, s8, s9⟩
          go_simp
          with_reducible rfl
        rotate_left
        · simp only [Act.put, List.setIfInBounds_toArray, List.set_cons_zero, List.set_cons_succ]
          rfl
        refine take_ (i := 10) (N := some 45) (v := ?_) (a' := ?_) #[true, true, true, true, true, true, true, true, true, true, true, false, false, false, false, false] rfl rfl (by kernel_rfl) (fun _ _ _ h => h) (Or.inl ⟨by rfl, ?_⟩) hHeld ?_ ?_
        rotate_left
        · rintro w' ⟨s0, s1, s2, s3, s4, s5, s6, s7, s8, s9⟩
          go_simp
          with_reducible rfl
        rotate_left
        · simp only [Act.put, List.setIfInBounds_toArray, List.set_cons_zero, List.set_cons_succ]
          rfl
        refine one_ (i := 11) (N := some 46) #[true, true, true, true, true, true, true, true, true, true, true, true, false, false, false, false] rfl rfl (by kernel_rfl) (by decide) (fun K hK => ?_)
        refine goesF_ (caps := #[]) Try.func63 (by kernel_rfl) rfl #[.agg #[.int .i64 x.node, .int .i64 x.peer, .int .i64 x.w, .int .i64 x.session, .bool x.marked], .agg #[.int .i64 t.node, .int .i64 t.peer, .int .i64 t.w, .int .i64 t.session, .bool t.marked]] #[.agg #[.int .i64 x.node, .int .i64 x.peer, .int .i64 x.w, .int .i64 x.session, .bool x.marked], .agg #[.int .i64 t.node, .int .i64 t.peer, .int .i64 t.w, .int .i64 t.session, .bool t.marked]] (by first | rfl | simp) (by rfl) rfl rfl (by rfl) (by simp only [List.map_toArray, List.map_cons, List.map_nil]; rfl) ?_
        with_reducible refine (HORD.out _).mono ?_
        rintro r w1 ⟨rfl, hb1⟩
        refine ⟨_, rfl, ?_⟩
        refine hK.out _ _ ⟨cell_of_below hb1 hHeld.1, cell_of_below hb1 hHeld.2.1, cell_of_below hb1 hHeld.2.2.1, cell_of_below hb1 hHeld.2.2.2.1, cell_of_below hb1 hHeld.2.2.2.2.1, cell_of_below hb1 hHeld.2.2.2.2.2.1, cell_of_below hb1 hHeld.2.2.2.2.2.2.1, cell_of_below hb1 hHeld.2.2.2.2.2.2.2.1, cell_of_below hb1 hHeld.2.2.2.2.2.2.2.2.1, cell_of_below hb1 hHeld.2.2.2.2.2.2.2.2.2⟩ (fun hHeld => ?_)
        clear hK K
        refine norm_ (a' := ?_) ?_ ?_
        rotate_left
        · show Act.put _ (some 46) _ = _
          simp only [Act.put, List.setIfInBounds_toArray, List.set_cons_zero, List.set_cons_succ]
          rfl
        refine pure_ (i := 12) (N := some 47) (v := ?_) (a' := ?_) #[true, true, true, true, true, true, true, true, true, true, true, true, true, false, false, false] rfl rfl (by kernel_rfl) (fun _ _ _ h => h) (Or.inl ⟨by rfl, ?_⟩) ?_ ?_
        rotate_left
        · intro w'
          go_simp
          with_reducible rfl
        rotate_left
        · simp only [Act.put, List.setIfInBounds_toArray, List.set_cons_zero, List.set_cons_succ]
          rfl
        refine pure_ (i := 13) (N := some 48) (v := ?_) (a' := ?_) #[true, true, true, true, true, true, true, true, true, true, true, true, true, true, false, false] rfl rfl (by kernel_rfl) (fun _ _ _ h => h) (Or.inl ⟨by rfl, ?_⟩) ?_ ?_
        rotate_left
        · intro w'
          go_simp
          with_reducible rfl
        rotate_left
        · simp only [Act.put, List.setIfInBounds_toArray, List.set_cons_zero, List.set_cons_succ]
          rfl
        refine pure_ (i := 14) (N := some 6) (v := ?_) (a' := ?_) #[true, true, true, true, true, true, true, true, true, true, true, true, true, true, true, false] rfl rfl (by kernel_rfl) (fun _ _ _ h => h) (Or.inl ⟨by rfl, ?_⟩) ?_ ?_
        rotate_left
        · intro w'
          go_simp
          with_reducible rfl
        rotate_left
        · simp only [Act.put, List.setIfInBounds_toArray, List.set_cons_zero, List.set_cons_succ]
          rfl
        refine pure_ (i := 15) (N := some 7) (v := ?_) (a' := ?_) #[true, true, true, true, true, true, true, true, true, true, true, true, true, true, true, true] rfl rfl (by kernel_rfl) (fun _ _ _ h => h) (Or.inl ⟨by rfl, ?_⟩) ?_ ?_
        rotate_left
        · intro w'
          go_simp
          with_reducible rfl
        rotate_left
        · simp only [Act.put, List.setIfInBounds_toArray, List.set_cons_zero, List.set_cons_succ]
          rfl
        refine done_ (by kernel_rfl) ?_
        try simp only [Exit.then]
        go_wp2_with fail
        go_ret2
        exact ⟨below_then HBX.out (below_then (below_drew HB.out) hb1), i, by omega, H1.out, H2.out, by rw [HANS.out, ← HCD.out]; rfl⟩
      · have hni : ¬ ((i : Int) < (l.length : Int)) := by omega
        have d9 : decide ((i : Int) < (l.length : Int)) = false := by rw [decide_eq_false_iff_not]; exact hni
        have hans : ((l[i]?.map fun x => decide (cmpK x t = 0)).getD false) = false := by rw [List.getElem?_eq_none (by omega)]; rfl
        have HANS := Lib.hid hans
        clear hans hrd
        go_wp2_with fail
        go_quiet (fail)
        go_wp2_with fail
        go_ret2
        exact ⟨below_then HBX.out (below_drewN HB.out _), i, by omega, H1.out, H2.out, by rw [HANS.out]; rfl⟩

end Go.Proofs.Ytandminldgiheaa
