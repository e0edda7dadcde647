/- Walks: slices.Clone and slices.SortFunc at edges; edges in order. -/
import Derived.Test.YtandminldgiheaaOwn
import Derived.Test.YtandminldgiheaaShelf
import Derived.Test.YtandminldgiheaaCheckAllW
namespace Go.Proofs.Ytandminldgiheaa
open Go.RowKit Go.Sort Go.Shelf

theorem infoE : (Try.prog.info? 24).map (fun i => (i.zero, i.size, i.bytes)) = some (some (.agg #[.int .i64 0, .int .i64 0, .int .i64 0]), 3, 24) := by kernel_rfl
theorem flatE_one (l : List Edge) : ∀ u ∈ l.flatMap encE, u.oneCell' = true := fun u hu => by
  obtain ⟨x, _, hx⟩ := List.mem_flatMap.1 hu
  exact encE_one x u hx

set_option maxHeartbeats 1000000 in
theorem cloneE_c (l : List Edge) (v : Value) (w : World) (hv : RdE w v l) (hl : l.length ≤ 1000000) :
    Calls Try.prog 53 #[v] w fun e w' => (∃ v', e = .returned v' ∧ OwnE w' w.heap.size 24 v' l) ∧ Below w.heap.size w w' := by
  obtain ⟨A, c, rfl, h1, h2, h3⟩ := hv
  have q22 : ∀ (w : World) (a : Option Addr) (n c n' c' : Nat), (binOp .eql 22 (.slice a n c) (.slice none n' c')).run Try.prog w = .ok (.bool a.isNone) w := fun w a n c n' c' => Lib.run_eql_slice_nil w _ _ a n c n' c' Try.underlying22
  rcases A with _ | ad
  · have hl0 : l = [] := by
      rcases List.eq_nil_or_concat l with h | ⟨_, _, h⟩
      · exact h
      · obtain ⟨b, o, hh, _⟩ := h3 (by rw [h]; simp)
        cases hh
    subst hl0
    go_enter Try.func53, Try.ntmps53
    go_wp2
    go_ret
    exact ⟨⟨_, rfl, Own.nil _ _ _⟩, Below.refl _ _⟩
  · obtain ⟨i0, hi, hzz⟩ := Option.map_eq_some_iff.1 infoE
    simp only [Prod.mk.injEq] at hzz
    obtain ⟨hz0, hz1, hz2⟩ := hzz
    have hcells : ∀ j u, (l.flatMap encE)[j]? = some u → w.cell? (ad.add j) = some u := by
      intro j u hu
      have hne : l ≠ [] := by intro h; subst h; simp at hu
      obtain ⟨b, o, he, _, hc⟩ := h3 hne
      obtain rfl := Option.some.inj he
      have hj : j < l.length * 3 := by
        have := (List.getElem?_eq_some_iff.1 hu).1
        rwa [flat_length encE_len] at this
      have hq : j / 3 < l.length := by omega
      have hf := flat_get encE_len l (j / 3) l[j / 3] (j % 3) (List.getElem?_eq_getElem hq) (by omega)
      have e : j / 3 * 3 + j % 3 = j := by omega
      rw [e, hu] at hf
      have := hc (j / 3) _ (List.getElem?_eq_getElem hq) (j % 3) u hf.symm
      rw [Addr.add_mid]
      have e2 : o + j / 3 * 3 + j % 3 = o + j := by omega
      rwa [e2] at this
    have HC := Lib.hid hcells
    have hlen := flat_length encE_len l
    have HLEN := Lib.hid hlen
    have HI := Lib.hid hi
    have HZ0 := Lib.hid hz0
    have HZ1 := Lib.hid hz1
    have HZ2 := Lib.hid hz2
    clear hcells h3 hlen hi hz0 hz1 hz2
    go_enter Try.func53, Try.ntmps53
    go_wp2_with (at_builtin; refine wpList_append_own _ rfl _ _ 22 rfl w.heap.size 24 i0 (.agg #[.int .i64 0, .int .i64 0, .int .i64 0]) 3 24 Try.underlying22 HI.out HZ0.out HZ1.out HZ2.out rfl (by decide) _ 0 [] rfl (World.ownsRow_made w #[] 0 (Nat.le_refl _) (Nat.zero_le _) (by simp)) ad l.length c (l.flatMap encE) rfl ?c1 ?c2 ?c3 ?c4 ?c5 ?c6 ?_)
    case c1 => exact HLEN.out
    case c2 => intro j u hu; exact cell_of_below ((Below.refl _ w).alloc (Nat.le_refl _) _) (HC.out j u hu)
    case c3 => exact flatE_one l
    case c4 => simp [maxLen]; omega
    case c5 => omega
    case c6 => simp
    intro v' w1 hown hgrow _
    have HOWN := Lib.hid hown
    have HGR := Lib.hid hgrow
    clear hown hgrow
    go_wp2
    go_ret
    refine ⟨⟨_, rfl, ?_⟩, ?_⟩
    · have := HOWN.out; simpa [Own] using this
    · exact ((Below.refl _ w).alloc (Nat.le_refl _) _).grown HGR.out (by simp) (fun k hk => by simp [Value.ownBlock] at hk; omega)

theorem cmpLaysE (blk off size : Nat) (w : World) : CmpLays Try.prog 55 #[] encE 3 cmpE blk off size w :=
  fun _ _ _ _ x y => (edgeCompare_c x y _).mono fun _ _ ⟨he, hw⟩ => ⟨he, 1, _, hw.symm.trans (grow3 _ _ _ _)⟩
theorem ltOf_cmpE (x y : Edge) : ltOf cmpE x y = ltE x y := cmpE_lt x y
theorem ltE_iff (x y : Edge) : ltE x y = true ↔ x.w < y.w ∨ x.w = y.w ∧ (x.a < y.a ∨ x.a = y.a ∧ x.b < y.b) := by simp [ltE]
theorem ltE_not (x y : Edge) : ltE x y = false ↔ ¬ (x.w < y.w ∨ x.w = y.w ∧ (x.a < y.a ∨ x.a = y.a ∧ x.b < y.b)) := by simp [ltE]
theorem swoE : SWO (ltOf cmpE) where
  irrefl x := by rw [ltOf_cmpE, ltE_not]; omega
  trans x y z h1 h2 := by rw [ltOf_cmpE, ltE_iff] at *; omega
  ntrans x y z h1 h2 := by rw [ltOf_cmpE, ltE_not] at *; omega
theorem totE (x y : Edge) (h1 : ltOf cmpE x y = false) (h2 : ltOf cmpE y x = false) : x = y := by
  rw [ltOf_cmpE, ltE_not] at *
  cases x; cases y
  simp at h1 h2 ⊢
  omega
/-- Edges in order. -/
def sortE (l : List Edge) : List Edge := l.mergeSort fun x y => !ltE y x
theorem sortE_length (l : List Edge) : (sortE l).length = l.length := List.length_mergeSort ..

set_option maxHeartbeats 1000000 in
theorem sortFuncE_c (l : List Edge) (v : Value) (w : World) (base : Nat) (hv : OwnE w base 24 v l) (hl : l.length ≤ 1000000) :
    Calls Try.prog 54 #[v, .func (.func 55) #[] #[]] w fun e w' => e = .returned (.tuple #[]) ∧ OwnE w' base 24 v (sortE l) ∧ (∀ B w0, B ≤ base → B ≤ w.heap.size → Below B w0 w → Below B w0 w') := by
  rcases hv.shape with ⟨rfl, rfl⟩ | ⟨g, cap, cur, rfl, h1, hlt, _⟩
  · refine (AnyF.slices_SortFunc_none Try.sortE none 0 _ w).mono ?_
    rintro e w' ⟨rfl, rfl⟩
    exact ⟨rfl, by simpa [sortE] using hv, fun _ _ _ _ h => h⟩
  · have eg : ∀ args w, (callFunc 55 args).run Try.prog w = .ok (.enter 55 args) w := enters_of Try.func55 (by kernel_rfl) rfl
    have hcon := AnyQ.slices_SortFunc_total Try.sortE 3 Try.isAgg24 Try.sizeOf24 encE encE_len encE_one cmpE swoE 55 #[] g 0 cap l.toArray w eg (cmpLaysE _ _ _ _) (hv.holdsK encE_len) hlt (by simp; omega) totE
    refine Calls.mono hcon ?_
    rintro e w' ⟨rfl, n, os, rfl⟩
    have hs : ((l.toArray.toList).mergeSort fun x y => !ltOf cmpE y x) = sortE l := by
      simp only [ltOf_cmpE]; rfl
    rw [hs]
    have ho := hv.sorted encE_len (sortE l) (sortE_length l) n os
    rw [sortE_length] at ho
    exact ⟨rfl, ho, fun B w0 hB hB2 hb => below_sorted hb (by omega) hB2⟩

/-- What edge.Sort answers. -/
def SortPost (l : List Edge) (w : World) (e : Ending) (w' : World) : Prop :=
  Below w.heap.size w w' ∧ ((check l = 0 ∧ ∃ v', e = .returned (.tuple #[v', .int .i64 0]) ∧ OwnE w' w.heap.size 24 v' (sortE l)) ∨ (check l ≠ 0 ∧ e = .returned (.tuple #[.slice none 0 0, .int .i64 (check l)])))

theorem check_small {l : List Edge} (h : check l = 0) : l.length ≤ 512 := by
  unfold check at h
  split at h
  · split at h
    · cases h
    · omega
  · cases h

set_option maxHeartbeats 1000000 in
theorem edgeSort_c (l : List Edge) (v : Value) (w : World) (hv : RdE w v l) : Calls Try.prog 23 #[v] w (SortPost l w) := by
  have hch := edgeCheckAll_c l v w hv
  by_cases h0 : check l = 0
  · have hlen := check_small h0
    rw [h0] at hch
    have HCH := Lib.hid hch
    have H0 := Lib.hid h0
    clear hch h0
    go_enter Try.func23, Try.ntmps23
    go_wp2_with (go_at_call 24; refine HCH.out.mono ?_; rintro e w1 ⟨rfl, hb1⟩)
    have HB1 := Lib.hid hb1
    have HV1 := Lib.hid (hv.below hb1)
    clear hb1
    go_wp2_with (go_at_call 53; refine (cloneE_c l v w1 HV1.out (by omega)).mono ?_; rintro e w2 ⟨⟨v2, rfl, ho2⟩, hb2⟩)
    have HO2 := Lib.hid ho2
    have HB2 := Lib.hid hb2
    clear ho2 hb2
    go_wp2_with (go_at_call 54; refine (sortFuncE_c l v2 w2 w1.heap.size HO2.out (by omega)).mono ?_; rintro e w3 ⟨rfl, ho3, hb3⟩)
    go_ret2
    have hb2 := below_then HB1.out HB2.out
    exact ⟨hb3 _ _ HB1.out.size hb2.size hb2, .inl ⟨H0.out, _, rfl, ho3.base_le HB1.out.size⟩⟩
  · have hne : (check l != 0) = true := by rw [bne_iff_ne]; exact h0
    have hne2 : (check l == 0) = false := beq_eq_false_iff_ne.mpr h0
    have HCH := Lib.hid hch
    have H0 := Lib.hid h0
    clear hch h0
    go_enter Try.func23, Try.ntmps23
    go_wp2_with (go_at_call 24; refine HCH.out.mono ?_; rintro e w1 ⟨rfl, hb1⟩)
    go_ret2
    exact ⟨hb1, .inr ⟨H0.out, rfl⟩⟩

end Go.Proofs.Ytandminldgiheaa
