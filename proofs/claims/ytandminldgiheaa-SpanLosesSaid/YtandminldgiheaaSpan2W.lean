/- Walks: whether edges are a forest, what they link, what they weigh. -/
import Derived.Test.YtandminldgiheaaSpanW
namespace Go.Proofs.Ytandminldgiheaa
open Go.RowKit

/-- All weights together, as the program's numbers wrap. -/
def wsum (l : List Edge) : Int := l.foldl (fun n e => wrap64 (n + e.w)) 0
theorem wsum_snoc (l : List Edge) (e : Edge) : wsum (l ++ [e]) = wrap64 (wsum l + e.w) := by simp [wsum]

set_option maxHeartbeats 1000000 in
theorem joinSame_c {w : World} {lo hi : Nat} {v : Value} {l : List Edge} (h : JoinFor w lo hi v l) (a b : Int) :
    Calls Try.prog 77 #[v, .int .i64 a, .int .i64 b] w fun e w' => e = .returned (.bool (node a && node b && linked l a b)) ∧ JoinFor w' lo hi v l ∧ Out lo hi w w' := by
  obtain ⟨R, ⟨J, U, S, L, cu, cs, cl, lu, ls, ll, n, rfl, hj, rk, hu⟩, hR⟩ := h
  have h1 := joinHas_c hj a
  have h2 := joinHas_c hj b
  have hn : ∀ a : Int, (decide (1 ≤ a) && decide (a < 65)) = node a := fun a => by unfold node; rw [Bool.eq_iff_iff]; simp; omega
  rw [hn] at h1 h2
  have hj0 : JoinFor w lo hi (.pointer (some ⟨J, 0, none⟩)) l := ⟨R, ⟨J, U, S, L, cu, cs, cl, lu, ls, ll, n, rfl, hj, rk, hu⟩, hR⟩
  cases ha : node a
  · rw [ha] at h1
    have HH1 := Lib.hid h1
    have HJ0 := Lib.hid hj0
    clear h1 h2 hj hu hR hj0
    go_enter Try.func77, Try.ntmps77
    go_wp2_with fail
    go_at_call 80; refine HH1.out.mono ?_; rintro e w' ⟨rfl, rfl⟩
    go_wp2_with fail
    go_ret
    exact ⟨rfl, HJ0.out, Out.refl _ _ _⟩
  · rw [ha] at h1
    cases hb : node b
    · rw [hb] at h2
      have HH1 := Lib.hid h1
      have HH2 := Lib.hid h2
      have HJ0 := Lib.hid hj0
      clear h1 h2 hj hu hR hj0
      go_enter Try.func77, Try.ntmps77
      go_wp2_with fail
      go_at_call 80; refine HH1.out.mono ?_; rintro e w' ⟨rfl, rfl⟩
      go_wp2_with fail
      go_at_call 80; refine HH2.out.mono ?_; rintro e w' ⟨rfl, rfl⟩
      go_wp2_with fail
      go_ret
      exact ⟨rfl, HJ0.out, Out.refl _ _ _⟩
    · rw [hb] at h2
      obtain ⟨x, rfl, hx1, hx2⟩ := node_nat ha
      obtain ⟨y, rfl, hy1, hy2⟩ := node_nat hb
      have HH1 := Lib.hid h1
      have HH2 := Lib.hid h2
      have HJ := Lib.hid hj
      have HU := Lib.hid hu
      have HR := Lib.hid hR
      clear h1 h2 hj hu hR hj0 ha hb hn
      go_enter Try.func77, Try.ntmps77
      go_wp2_with fail
      go_at_call 80; refine HH1.out.mono ?_; rintro e w' ⟨rfl, rfl⟩
      go_wp2_with fail
      go_at_call 80; refine HH2.out.mono ?_; rintro e w' ⟨rfl, rfl⟩
      go_wp2_with fail
      go_at_call 81; refine (joinTop_c HJ.out HU.out x hx2).mono ?_; rintro e w1 ⟨rfl, l1, hj1, hu1, ho1⟩
      have HJ1 := Lib.hid hj1
      have HU1 := Lib.hid hu1
      have HO1 := Lib.hid ho1
      clear hj1 hu1 ho1
      go_wp2_with fail
      go_at_call 81; refine (joinTop_c HJ1.out HU1.out y hy2).mono ?_; rintro e w2 ⟨rfl, l2, hj2, hu2, ho2⟩
      have HJ2 := Lib.hid hj2
      have HU2 := Lib.hid hu2
      have HO2 := Lib.hid (HO1.out.trans ho2)
      have hl : linked l x y = decide ((R x : Int) = (R y : Int)) := by
        rw [Bool.eq_iff_iff, linked_iff, decide_eq_true_eq, ← HR.out x y hx2 hy2]; omega
      have HL := Lib.hid hl
      clear hj2 hu2 ho2 hl
      go_wp2_with fail
      go_ret
      refine ⟨ret_b ?_, ⟨R, ⟨J, U, S, L, cu, cs, cl, l2, ls, ll, n, rfl, HJ2.out, rk, HU2.out⟩, HR.out⟩, HO2.out⟩
      rw [HL.out]
      simp [BEq.beq]

set_option maxHeartbeats 2000000 in
theorem united_c (l : List Edge) (v : Value) (w : World) (hv : RdE w v l) (hm : ∀ e ∈ l, may e = true) :
    Calls Try.prog 74 #[v] w fun e w' => ∃ j hi, e = .returned j ∧ JoinFor w' w.heap.size hi j l ∧ Below w.heap.size w w' := by
  have HV := Lib.hid hv
  obtain ⟨A0, c0, rfl, h10, h20, h30⟩ := hv
  have hn : l.length ≤ 9223372036854775807 := by omega
  have HM := Lib.hid hm
  clear h10 h20 h30 hm
  go_enter Try.func74, Try.ntmps74
  go_wp2_with fail
  go_at_call 42; refine (sets_c _).mono ?_; rintro e w1 ⟨j, rfl, hj1, hb1⟩
  obtain ⟨J, rfl⟩ := hj1.ptr
  obtain ⟨hi, hhi⟩ : ∃ hi, w1.heap.size = hi := ⟨_, rfl⟩
  rw [hhi] at hj1
  have HJ1 := Lib.hid hj1
  have HB1 := Lib.hid hb1
  clear hj1 hb1 hhi
  go_wp2_with fail
  go_loopw [9] (fun s9 wr => ∃ k : Nat, k ≤ l.length ∧ s9 = .int .i64 k ∧ JoinFor wr w.heap.size hi (.pointer (some ⟨J, 0, none⟩)) (l.take k) ∧ Below w.heap.size w wr) (fun s9 _ => l.length - (intOf s9).toNat)
  case atStart => exact ⟨0, by omega, rfl, HJ1.out, HB1.out⟩
  case round =>
    clear HJ1 HB1
    obtain ⟨k, hk, rfl, hj, hb⟩ := hrel
    by_cases hlt : k < l.length
    · obtain ⟨A1, c1, e1, _, _, h3⟩ := HV.out.below hb
      obtain ⟨b0, o0, rfl, _, g0⟩ := h3 (by intro h; subst h; simp at hlt)
      simp only [Value.slice.injEq, true_and] at e1
      obtain ⟨rfl, rfl⟩ := e1
      obtain ⟨x0, x1, x2⟩ := cells_E g0 k hlt
      clear g0 h3
      have hi0 : (k : Int) < (l.length : Int) := by omega
      have hba := (Below.refl wr.heap.size wr).alloc (Nat.le_refl _) (.cells #[.int .i64 l[k].a, .int .i64 l[k].b, .int .i64 l[k].w] 24)
      have hu := uniteE_c (hj.below hba) l[k] (HM.out _ (List.getElem_mem hlt))
      rw [← take_succ_at hlt] at hu
      have HU := Lib.hid hu
      have HB := Lib.hid (below_then hb hba)
      clear hu hj hb hba
      go_wp2_with fail
      go_at_call 45; refine HU.out.mono ?_; rintro r w2 ⟨rfl, hj2, ho2⟩
      have HJ2 := Lib.hid hj2
      have HB2 := Lib.hid (HB.out.trans ho2.1)
      clear hj2 ho2
      go_wp2_with fail
      go_roundw
      case rel => exact ⟨k + 1, by omega, by go_num, HJ2.out, HB2.out⟩
      case measure => (simp [intOf]) <;> omega
    · have hK : k = l.length := by omega
      subst hK
      rw [List.take_length] at hj
      have HJ := Lib.hid hj
      have HB := Lib.hid hb
      clear hj hb
      go_wp2_with fail
      go_ret
      exact ⟨_, hi, rfl, HJ.out, HB.out⟩

/-- What span.Linked answers. -/
noncomputable def linkedAns (l : List Edge) (a b : Int) : Bool := decide (check l = 0) && (node a && node b && linked l a b)

set_option maxHeartbeats 1000000 in
theorem spanLinked_c (l : List Edge) (a b : Int) (v : Value) (w : World) (hv : RdE w v l) :
    Calls Try.prog 38 #[v, .int .i64 a, .int .i64 b] w fun e w' => e = .returned (.bool (linkedAns l a b)) ∧ Below w.heap.size w w' := by
  have hc := edgeCheckAll_c l v w hv
  by_cases h0 : check l = 0
  · rw [h0] at hc
    have HC := Lib.hid hc
    have HV := Lib.hid hv
    have H0 := Lib.hid h0
    clear hc hv h0
    go_enter Try.func38, Try.ntmps38
    go_wp2_with fail
    go_at_call 24; refine HC.out.mono ?_; rintro e w1 ⟨rfl, hb1⟩
    have HB1 := Lib.hid hb1
    have HV1 := Lib.hid (HV.out.below hb1)
    clear hb1
    go_wp2_with fail
    go_at_call 74; refine (united_c l _ _ HV1.out (may_of_check H0.out)).mono ?_; rintro e w2 ⟨j, hi, rfl, hj2, hb2⟩
    have HJ2 := Lib.hid hj2
    have HB2 := Lib.hid (below_then HB1.out hb2)
    have hle := HB1.out.size
    clear hj2 hb2
    go_wp2_with fail
    go_at_call 77; refine (joinSame_c HJ2.out a b).mono ?_; rintro e w3 ⟨rfl, _, ho3⟩
    have HB3 := Lib.hid (HB2.out.trans (ho3.1.mono hle))
    clear ho3
    go_wp2_with fail
    go_ret
    exact ⟨ret_b (by unfold linkedAns; rw [H0.out]; rfl), HB3.out⟩
  · have hne : (check l == 0) = false := by simpa using h0
    have HC := Lib.hid hc
    have H0 := Lib.hid h0
    clear hc h0
    go_enter Try.func38, Try.ntmps38
    go_wp2_with fail
    go_at_call 24; refine HC.out.mono ?_; rintro e w1 ⟨rfl, hb1⟩
    go_wp2_with fail
    go_ret
    exact ⟨ret_b (by unfold linkedAns; rw [decide_eq_false H0.out]; rfl), hb1⟩

set_option maxHeartbeats 1000000 in
theorem spanForest_c (l : List Edge) (v : Value) (w : World) (hv : RdE w v l) :
    Calls Try.prog 17 #[v] w fun e w' => e = .returned (.bool (decide (check l = 0) && forest l)) ∧ Below w.heap.size w w' := by
  have hmf : ∀ (fn : Fn) (first cap : Array Value) (w : World), (Instr.makeFunc fn first cap).run Try.prog w = .ok (.func fn first cap) w := fun _ _ _ _ => rfl
  have HV := Lib.hid hv
  clear hv
  go_enter Try.func17, Try.ntmps17
  go_wp2_with fail
  go_at_call 42; refine (sets_c _).mono ?_; rintro e w1 ⟨j, rfl, hj1, hb1⟩
  obtain ⟨J, rfl⟩ := hj1.ptr
  have hba := (Below.refl w1.heap.size w1).alloc (Nat.le_refl _) (.cells #[.pointer (some ⟨J, 0, none⟩)] 66)
  have hI : JoinVar w.heap.size w1.heap.size w1.heap.size [] (w1.alloc (.cells #[.pointer (some ⟨J, 0, none⟩)] 66)) := ⟨Nat.le_refl _, .pointer (some ⟨J, 0, none⟩), heap_alloc_new w1 _, hj1.below hba⟩
  obtain ⟨V, hVe⟩ : ∃ V, w1.heap.size = V := ⟨_, rfl⟩
  have hb2 := below_then hb1 hba
  rw [hVe] at hI
  have HI := Lib.hid hI
  have HB2 := Lib.hid hb2
  have HV2 := Lib.hid (HV.out.below hb2)
  have HVE := Lib.hid hVe
  clear hj1 hb1 hba hI hb2 hVe
  go_wp2_with fail
  by_cases h0 : check l = 0
  · have hc := fun u w hu => edgeCheckAll_c l u w hu
    rw [h0] at hc
    go_at_call 24; refine (hc _ _ HV2.out).mono ?_; rintro e w3 ⟨rfl, hb3⟩
    have HI3 := Lib.hid (joinVar_keep HI.out hb3.size (fun b _ hb => hb3.block b (by have := HVE.out; simp; omega)))
    have HB3 := Lib.hid (below_then HB2.out hb3)
    have HV3 := Lib.hid (HV2.out.below hb3)
    have H0 := Lib.hid h0
    clear hb3 h0 hc
    have hcf := containsFuncE_c (forestPred w.heap.size V V) l (may_of_check H0.out) v w3 (fun w' hb => HV.out.below (HB3.out.trans hb)) HI3.out
    rw [← HVE.out] at hcf
    have HCF := Lib.hid hcf
    clear hcf
    go_wp2_with fail
    go_at_call 48; refine HCF.out.mono ?_; rintro e w4 ⟨ho4, ⟨rfl, i, hi, hq⟩ | ⟨rfl, hn⟩⟩
    · go_wp2_with fail
      go_ret
      refine ⟨ret_b ?_, HB3.out.trans ho4.1⟩
      have : forest l = false := by
        rw [← Bool.not_eq_true, forest_iff]
        intro h
        exact h i hi (linked_iff.1 hq)
      rw [H0.out, this]; rfl
    · go_wp2_with fail
      go_ret
      refine ⟨ret_b ?_, HB3.out.trans ho4.1⟩
      have : forest l = true := by
        rw [forest_iff]
        intro i hi
        exact linked_false.1 (hn i hi)
      rw [H0.out, this]; rfl
  · have hne : (check l == 0) = false := by simpa using h0
    have H0 := Lib.hid h0
    clear h0
    go_at_call 24; refine (edgeCheckAll_c l _ _ HV2.out).mono ?_; rintro e w3 ⟨rfl, hb3⟩
    have HB3 := Lib.hid (below_then HB2.out hb3)
    clear hb3
    go_wp2_with fail
    go_ret
    exact ⟨ret_b (by rw [decide_eq_false H0.out]; rfl), HB3.out⟩

def weightAns (l : List Edge) : Int := if check l = 0 then wsum l else 0
set_option maxHeartbeats 1000000 in
theorem spanWeight_c (l : List Edge) (v : Value) (w : World) (hv : RdE w v l) :
    Calls Try.prog 18 #[v] w fun e w' => e = .returned (.int .i64 (weightAns l)) ∧ Below w.heap.size w w' := by
  have hc := edgeCheckAll_c l v w hv
  have HV := Lib.hid hv
  obtain ⟨A0, c0, rfl, h10, h20, h30⟩ := hv
  have hn : l.length ≤ 9223372036854775807 := by omega
  clear h10 h20 h30
  by_cases h0 : check l = 0
  · rw [h0] at hc
    have HC := Lib.hid hc
    have H0 := Lib.hid h0
    clear hc h0
    go_enter Try.func18, Try.ntmps18
    go_wp2_with fail
    go_at_call 24; refine HC.out.mono ?_; rintro e w1 ⟨rfl, hb1⟩
    have HB1 := Lib.hid hb1
    clear hb1
    go_wp2_with fail
    go_loopw [3, 11] (fun s3 s11 wr => ∃ k : Nat, k ≤ l.length ∧ s3 = .int .i64 (wsum (l.take k)) ∧ s11 = .int .i64 k ∧ Below w.heap.size w wr) (fun _ s11 _ => l.length - (intOf s11).toNat)
    case atStart => exact ⟨0, by omega, rfl, rfl, HB1.out⟩
    case round =>
      clear HB1
      obtain ⟨k, hk, rfl, rfl, hb⟩ := hrel
      by_cases hlt : k < l.length
      · obtain ⟨A1, c1, e1, _, _, h3⟩ := HV.out.below hb
        obtain ⟨b0, o0, rfl, _, g0⟩ := h3 (by intro h; subst h; simp at hlt)
        simp only [Value.slice.injEq, true_and] at e1
        obtain ⟨rfl, rfl⟩ := e1
        obtain ⟨x0, x1, x2⟩ := cells_E g0 k hlt
        have hi0 : (k : Int) < (l.length : Int) := by omega
        have hws := wsum_snoc (l.take k) l[k]
        rw [← take_succ_at hlt] at hws
        have HWS := Lib.hid hws
        have HB := Lib.hid (hb.alloc hb.size (.cells #[.int .i64 l[k].a, .int .i64 l[k].b, .int .i64 l[k].w] 24))
        clear g0 h3 hb hws
        go_wp2_with fail
        go_roundw
        case rel => exact ⟨k + 1, by omega, by rw [HWS.out], by go_num, HB.out⟩
        case measure => (simp [intOf]) <;> omega
      · have hK : k = l.length := by omega
        subst hK
        have HB := Lib.hid hb
        clear hb
        go_wp2_with fail
        go_ret
        exact ⟨ret_i (by rw [List.take_length, weightAns, if_pos H0.out]), HB.out⟩
  · have hne : (check l != 0) = true := by simpa using h0
    have HC := Lib.hid hc
    have H0 := Lib.hid h0
    clear hc h0
    go_enter Try.func18, Try.ntmps18
    go_wp2_with fail
    go_at_call 24; refine HC.out.mono ?_; rintro e w1 ⟨rfl, hb1⟩
    go_wp2_with fail
    go_ret
    exact ⟨ret_i (by rw [weightAns, if_neg H0.out]), hb1⟩

end Go.Proofs.Ytandminldgiheaa
