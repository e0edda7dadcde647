/- Walk: the reference's least forest. -/
import Derived.Test.YtandminldgiheaaRefSpanW
namespace Go.Proofs.Ytandminldgiheaa
open Go.RowKit

theorem sortE_len (l : List Edge) : (sortE l).length = l.length := (sortE_perm l).length_eq

set_option maxHeartbeats 2000000 in
theorem refLeast_c (l : List Edge) (v : Value) (w : World) (hv : RdE w v l) (hm : ∀ e ∈ l, may e = true) (hl : l.length ≤ 100000) :
    Calls Try.prog 19 #[v] w fun e w' => (∃ v', e = .returned v' ∧ OwnE w' w.heap.size 24 v' (least l)) ∧ Below w.heap.size w w' := by
  have HM := Lib.hid (fun e (he : e ∈ sortE l) => hm e ((sortE_perm l).mem_iff.1 he))
  go_enter Try.func19, Try.ntmps19
  go_wp2_with fail
  go_at_call 16; refine (refSort_c l _ _ hv hl).mono ?_; rintro e w1 ⟨⟨s, rfl, ho1⟩, hb1⟩
  have hr1 := ho1.rd encE_len
  have hsl := sortE_len l
  have hlst : least l = growAll (sortE l) := rfl
  obtain ⟨m, hmm⟩ : ∃ m, sortE l = m := ⟨_, rfl⟩
  rw [hmm] at hr1 hsl HM hlst
  have HLST := Lib.hid hlst
  clear hlst hmm ho1 hv hm
  have hml : m.length ≤ 100000 := by omega
  clear hsl hl
  have HV := Lib.hid hr1
  obtain ⟨A0, c0, rfl, h10, h20, h30⟩ := hr1
  have HB1 := Lib.hid hb1
  clear h10 h20 h30 hb1
  go_wp2_with fail
  go_loopw [4, 5] (fun s4 s5 wr => ∃ k : Nat, k ≤ m.length ∧ s5 = .int .i64 k ∧ OwnE wr w1.heap.size 24 s4 (growAll (m.take k)) ∧ Below w1.heap.size w1 wr) (fun _ s5 _ => m.length - (intOf s5).toNat)
  case atStart => exact ⟨0, by omega, rfl, by simpa [Own, growAll_nil] using World.ownsRow_made w1 #[] 0 (Nat.le_refl _) (Nat.zero_le _) (by simp), (Below.refl _ _).alloc (Nat.le_refl _) _⟩
  case round =>
    obtain ⟨k, hk, rfl, ho, hb⟩ := hrel
    by_cases hlt : k < m.length
    · obtain ⟨A1, c1, e1, _, _, h3⟩ := HV.out.below hb
      obtain ⟨b0, o0, rfl, _, g0⟩ := h3 (by intro h; subst h; simp at hlt)
      simp only [Value.slice.injEq, true_and] at e1
      obtain ⟨rfl, rfl⟩ := e1
      obtain ⟨x0, x1, x2⟩ := cells_E g0 k hlt
      clear g0 h3
      have hi0 : (k : Int) < (m.length : Int) := by omega
      have hi1 : (0 : Int) ≤ (k : Int) := by omega
      have hsub := fun e he => HM.out e (List.mem_of_mem_take ((growAll_sub (m.take k)).subset he))
      have hcall := fun w' u (hr : RdE w' u (growAll (m.take k))) => refLinked_c (growAll (m.take k)) m[k].a m[k].b hsub u w' hr
      rw [linkedN_eq (HM.out _ (List.getElem_mem hlt)), linked_growAll] at hcall
      have hgl := growAll_len m k
      obtain ⟨q, hq⟩ : ∃ q, linked (m.take k) m[k].a m[k].b = q := ⟨_, rfl⟩
      rw [hq] at hcall
      have HC := Lib.hid hcall
      have HQ := Lib.hid hq
      have HB := Lib.hid hb
      have HO := Lib.hid ho
      clear hcall hq hb ho hsub
      cases q
      · go_wp2_with fail
        go_region_held3 (fun w' => w'.cell? ⟨b0, o0 + k * 3, none⟩ = some (.int .i64 m[k].a) ∧ w'.cell? ⟨b0, o0 + k * 3 + 1, none⟩ = some (.int .i64 m[k].b)) (first | go_keep | (go_split_ands; refine ⟨?_, ?_⟩ <;> (refine cell_of_below (by assumption) ?_; assumption)))
          (first | (go_at_call 14; refine (HC.out _ _ (HO.out.drew.rd encE_len)).mono ?_; rintro e w2 ⟨rfl, hb2⟩))
        have hb2' : Below wr.heap.size wr w2 := below_undrew hb2
        clear hb2
        replace x0 := cell_of_below hb2' x0
        replace x1 := cell_of_below hb2' x1
        replace x2 := cell_of_below hb2' x2
        have HB2 := Lib.hid (below_then HB.out hb2')
        have HO2 := Lib.hid (HO.out.below hb2')
        have hsz := HB2.out.size
        clear hb2'
        go_wp2_with (at_builtin; refine wpList_append1 encE_len encE_one w1.heap.size w1.heap.size rfl _ _ 22 (.agg #[.int .i64 0, .int .i64 0, .int .i64 0]) 24 rfl Try.underlying22 infoE rfl (by decide) (by decide) _ (growAll (m.take k)) m[k] rfl rfl _ rfl (by simp) HO2.out HB2.out (Nat.le_refl _) hsz (by omega) ?_; intro v3 w3 ho3 hb3 hg3 hat3)
        have HO3 := Lib.hid ho3
        have HB3 := Lib.hid hb3
        clear ho3 hb3 hg3 hat3
        go_wp2_with fail
        go_roundw
        case rel => exact ⟨k + 1, by omega, by go_num, by rw [growAll_no hlt HQ.out]; exact HO3.out, HB3.out⟩
        case measure => (simp [intOf]) <;> omega
      · go_wp2_with fail
        go_region_held3 (fun w' => w'.cell? ⟨b0, o0 + k * 3, none⟩ = some (.int .i64 m[k].a) ∧ w'.cell? ⟨b0, o0 + k * 3 + 1, none⟩ = some (.int .i64 m[k].b)) (first | go_keep | (go_split_ands; refine ⟨?_, ?_⟩ <;> (refine cell_of_below (by assumption) ?_; assumption)))
          (first | (go_at_call 14; refine (HC.out _ _ (HO.out.drew.rd encE_len)).mono ?_; rintro e w2 ⟨rfl, hb2⟩))
        have hb2' : Below wr.heap.size wr w2 := below_undrew hb2
        clear hb2
        have HB2 := Lib.hid (below_then HB.out hb2')
        have HO2 := Lib.hid (HO.out.below hb2')
        clear hb2'
        go_wp2_with fail
        go_roundw
        case rel => exact ⟨k + 1, by omega, by go_num, by rw [growAll_yes hlt HQ.out]; exact HO2.out, HB2.out⟩
        case measure => (simp [intOf]) <;> omega
    · have hK : k = m.length := by omega
      subst hK
      rw [List.take_length] at ho
      have HB := Lib.hid hb
      have HO := Lib.hid ho
      clear hb ho
      go_wp2_with fail
      go_ret
      exact ⟨⟨_, rfl, by rw [HLST.out]; exact HO.out.base_le HB1.out.size⟩, below_then HB1.out HB.out⟩

end Go.Proofs.Ytandminldgiheaa
