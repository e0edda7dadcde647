/- Walks: the reference's least forest, forest, weight. -/
import Derived.Test.YtandminldgiheaaReachW
import Derived.Test.YtandminldgiheaaSpan2W
import Derived.Test.YtandminldgiheaaRefSortW
namespace Go.Proofs.Ytandminldgiheaa
open Go.RowKit

theorem Rd.take {α : Type} {E : α → List Value} {k : Nat} {w : World} {A : Option Addr} {c : Nat} {l : List α} (h : Rd E k w (.slice A l.length c) l) {m : Nat} (hm : m ≤ l.length) : Rd E k w (.slice A m c) (l.take m) := by
  obtain ⟨A1, c1, e, h1, h2, h3⟩ := h
  simp only [Value.slice.injEq, true_and] at e
  obtain ⟨rfl, rfl⟩ := e
  have hl : (l.take m).length = m := by rw [List.length_take]; omega
  refine ⟨A, c, by rw [hl], by rw [hl]; omega, h2, fun hne => ?_⟩
  obtain ⟨b, o, rfl, hb, hc⟩ := h3 (by intro e; subst e; simp at hne)
  exact ⟨b, o, rfl, hb, fun j x hx i u hu => hc j x (by
    have hj : j < m := by have := (List.getElem?_eq_some_iff.1 hx).1; omega
    rwa [List.getElem?_take, if_pos hj] at hx) i u hu⟩

theorem linkedN_eq {e : Edge} (he : may e = true) (m : List Edge) : (node e.a && node e.b && linked m e.a e.b) = linked m e.a e.b := by
  have : node e.a = true ∧ node e.b = true := by unfold may at he; simp only [Bool.and_eq_true] at he; exact ⟨he.1.1.1.1, he.1.1.1.2⟩
  rw [this.1, this.2]; rfl

set_option maxHeartbeats 2000000 in
theorem refForest_c (l : List Edge) (v : Value) (w : World) (hv : RdE w v l) (hm : ∀ e ∈ l, may e = true) :
    Calls Try.prog 20 #[v] w fun e w' => e = .returned (.bool (forest l)) ∧ Below w.heap.size w w' := by
  have HV := Lib.hid hv
  obtain ⟨A0, c0, rfl, h10, h20, h30⟩ := hv
  have hn : l.length ≤ 9223372036854775807 := by omega
  have HM := Lib.hid hm
  clear h20 h30 hm
  go_enter Try.func20, Try.ntmps20
  go_wp2_with fail
  go_loopw [3] (fun s3 wr => ∃ k : Nat, k ≤ l.length ∧ s3 = .int .i64 k ∧ Below w.heap.size w wr ∧ (∀ i (h : i < l.length), i < k → ¬ Conn (l.take i) l[i].a l[i].b)) (fun s3 _ => l.length - (intOf s3).toNat)
  case atStart => exact ⟨0, by omega, rfl, Below.refl _ _, fun i _ h => absurd h (by omega)⟩
  case round =>
    obtain ⟨k, hk, rfl, hb, hno⟩ := hrel
    by_cases hlt : k < l.length
    · have hvb := HV.out.below hb
      have hvt := hvb.take (m := k) (by omega)
      obtain ⟨A1, c1, e1, _, _, h3⟩ := hvb
      obtain ⟨b0, o0, rfl, _, g0⟩ := h3 (by intro h; subst h; simp at hlt)
      simp only [Value.slice.injEq, true_and] at e1
      obtain ⟨rfl, rfl⟩ := e1
      obtain ⟨x0, x1, _⟩ := cells_E g0 k hlt
      clear g0 h3
      have hi0 : (k : Int) < (l.length : Int) := by omega
      have hi1 : (0 : Int) ≤ (k : Int) := by omega
      have hi2 : (k : Int) ≤ (c0 : Int) := by omega
      have hcall := fun w' (hr : RdE w' (.slice (some ⟨b0, o0, none⟩) k c0) (l.take k)) => refLinked_c (l.take k) l[k].a l[k].b (fun e he => HM.out e (List.mem_of_mem_take he)) _ w' hr
      rw [linkedN_eq (HM.out _ (List.getElem_mem hlt))] at hcall
      obtain ⟨q, hq⟩ : ∃ q, linked (l.take k) l[k].a l[k].b = q := ⟨_, rfl⟩
      rw [hq] at hcall
      have HC := Lib.hid hcall
      have HQ := Lib.hid hq
      have HB := Lib.hid hb
      have HT := Lib.hid hvt
      have HN := Lib.hid hno
      clear hcall hq hb hvt hno
      cases q
      · go_wp2_with fail
        go_region_held3 (fun w' => w'.cell? ⟨b0, o0 + k * 3, none⟩ = some (.int .i64 l[k].a) ∧ w'.cell? ⟨b0, o0 + k * 3 + 1, none⟩ = some (.int .i64 l[k].b)) (first | go_keep | (go_split_ands; refine ⟨?_, ?_⟩ <;> (refine cell_of_below (by assumption) ?_; assumption)))
          (first | (go_at_call 14; refine (HC.out _ (HT.out.below (below_drew (Below.refl _ _)))).mono ?_; rintro e w2 ⟨rfl, hb2⟩))
        have HB2 := Lib.hid (below_then HB.out (below_undrew hb2))
        clear hb2
        go_wp2_with fail
        go_roundw
        case rel => exact ⟨k + 1, by omega, by go_num, HB2.out, fun i h hik => by
          by_cases e : i = k
          · subst e; exact linked_false.1 HQ.out
          · exact HN.out i h (by omega)⟩
        case measure => (simp [intOf]) <;> omega
      · go_wp2_with fail
        go_region_held3 (fun w' => w'.cell? ⟨b0, o0 + k * 3, none⟩ = some (.int .i64 l[k].a) ∧ w'.cell? ⟨b0, o0 + k * 3 + 1, none⟩ = some (.int .i64 l[k].b)) (first | go_keep | (go_split_ands; refine ⟨?_, ?_⟩ <;> (refine cell_of_below (by assumption) ?_; assumption)))
          (first | (go_at_call 14; refine (HC.out _ (HT.out.below (below_drew (Below.refl _ _)))).mono ?_; rintro e w2 ⟨rfl, hb2⟩))
        have HB2 := Lib.hid (below_then HB.out (below_undrew hb2))
        clear hb2
        go_wp2_with fail
        go_ret
        refine ⟨ret_b ?_, HB2.out⟩
        have : forest l = false := by
          rw [← Bool.not_eq_true, forest_iff]
          intro h
          exact h k hlt (linked_iff.1 HQ.out)
        rw [this]
    · have HB := Lib.hid hb
      have HN := Lib.hid hno
      clear hb hno
      go_wp2_with fail
      go_ret
      refine ⟨ret_b ?_, HB.out⟩
      have : forest l = true := forest_iff.2 (fun i h => HN.out i h (by omega))
      rw [this]

set_option maxHeartbeats 1000000 in
theorem refWeight_c (l : List Edge) (v : Value) (w : World) (hv : RdE w v l) :
    Calls Try.prog 21 #[v] w fun e w' => e = .returned (.int .i64 (wsum l)) ∧ Below w.heap.size w w' := by
  have HV := Lib.hid hv
  obtain ⟨A0, c0, rfl, h10, h20, h30⟩ := hv
  have hn : l.length ≤ 9223372036854775807 := by omega
  clear h10 h20 h30
  go_enter Try.func21, Try.ntmps21
  go_wp2_with fail
  go_loopw [3, 4] (fun s3 s4 wr => ∃ k : Nat, k ≤ l.length ∧ s3 = .int .i64 (wsum (l.take k)) ∧ s4 = .int .i64 k ∧ Below w.heap.size w wr) (fun _ s4 _ => l.length - (intOf s4).toNat)
  case atStart => exact ⟨0, by omega, rfl, rfl, Below.refl _ _⟩
  case round =>
    obtain ⟨k, hk, rfl, rfl, hb⟩ := hrel
    by_cases hlt : k < l.length
    · obtain ⟨A1, c1, e1, _, _, h3⟩ := HV.out.below hb
      obtain ⟨b0, o0, rfl, _, g0⟩ := h3 (by intro h; subst h; simp at hlt)
      simp only [Value.slice.injEq, true_and] at e1
      obtain ⟨rfl, rfl⟩ := e1
      obtain ⟨x0, x1, x2⟩ := cells_E g0 k hlt
      have hi0 : (k : Int) < (l.length : Int) := by omega
      have hws := wsum_snoc (l.take k) l[k]
      rw [← take_succ_at hlt] at hws
      have HWS := Lib.hid hws
      have HB := Lib.hid hb
      clear g0 h3 hb hws
      go_wp2_with fail
      go_roundw
      case rel => exact ⟨k + 1, by omega, by rw [HWS.out], by go_num, HB.out⟩
      case measure => (simp [intOf]) <;> omega
    · have hK : k = l.length := by omega
      subst hK
      have HB := Lib.hid hb
      clear hb
      go_wp2_with fail
      go_ret
      exact ⟨ret_i (by rw [List.take_length]), HB.out⟩

end Go.Proofs.Ytandminldgiheaa
