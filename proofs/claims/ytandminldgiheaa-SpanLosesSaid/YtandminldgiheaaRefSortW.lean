/- Walk: edges in order (the reference): insertion, by exchanges. -/
import Derived.Test.YtandminldgiheaaSortP
namespace Go.Proofs.Ytandminldgiheaa
open Go.RowKit

theorem set_at {l : List Edge} {w : World} {base g cap : Nat} (h : OwnE w base 24 (.slice (some ⟨g, 0, none⟩) l.length cap) l) (j : Nat) (hj : j < l.length) (x : Edge) :
    OwnE (((w.setCell ⟨g, j * 3, none⟩ (.int .i64 x.a)).setCell ⟨g, j * 3 + 1, none⟩ (.int .i64 x.b)).setCell ⟨g, j * 3 + 2, none⟩ (.int .i64 x.w)) base 24 (.slice (some ⟨g, 0, none⟩) (l.set j x).length cap) (l.set j x) := by
  have h1 := (World.ownsRow.stored h (j * 3) (.int .i64 x.a)).1
  have h2 := (World.ownsRow.stored h1 (j * 3 + 1) (.int .i64 x.b)).1
  have h3 := (World.ownsRow.stored h2 (j * 3 + 2) (.int .i64 x.w)).1
  have e : (((l.flatMap encE).set (j * 3) (.int .i64 x.a)).set (j * 3 + 1) (.int .i64 x.b)).set (j * 3 + 2) (.int .i64 x.w) = (l.set j x).flatMap encE := by
    apply List.ext_getElem?
    intro t
    by_cases ht : t < l.length * 3
    · have hq : t / 3 < l.length := by omega
      have hm : t % 3 < 3 := by omega
      have e0 : t = t / 3 * 3 + t % 3 := by omega
      have hq' : t / 3 < (l.set j x).length := by simpa using hq
      have r1 := flat_get encE_len (l.set j x) (t / 3) _ (t % 3) (List.getElem?_eq_getElem hq') hm
      have r2 := flat_get encE_len l (t / 3) _ (t % 3) (List.getElem?_eq_getElem hq) hm
      rw [← e0] at r1 r2
      rw [r1]
      have hlen := flat_length encE_len l
      by_cases hjt : j = t / 3
      · subst hjt
        have hx : (l.set (t / 3) x)[t / 3] = x := by simp
        rw [hx]
        rw [List.getElem?_set, List.getElem?_set, List.getElem?_set]
        have hc : t % 3 = 0 ∨ t % 3 = 1 ∨ t % 3 = 2 := by omega
        rcases hc with hc | hc | hc
        · rw [if_neg (by omega), if_neg (by omega), if_pos (by omega), if_pos (by rw [hlen]; omega), hc]; rfl
        · rw [if_neg (by omega), if_pos (by omega), if_pos (by rw [List.length_set, hlen]; omega), hc]; rfl
        · rw [if_pos (by omega), if_pos (by rw [List.length_set, List.length_set, hlen]; omega), hc]; rfl
      · rw [List.getElem?_set_ne (by omega), List.getElem?_set_ne (by omega), List.getElem?_set_ne (by omega), r2]
        rw [List.getElem_set_ne hjt]
    · rw [List.getElem?_eq_none (by simp only [List.length_set]; rw [flat_length encE_len]; omega), List.getElem?_eq_none (by rw [flat_length encE_len]; simp; omega)]
  show World.ownsRow _ base _ 3 _ (l.set j x).length _
  rw [List.length_set, ← e]
  exact h3

/-- The cells of a row of edges that is the call's own. -/
theorem own_cells {l : List Edge} {w : World} {base g cap : Nat} (h : OwnE w base 24 (.slice (some ⟨g, 0, none⟩) l.length cap) l) (j : Nat) (hj : j < l.length) :
    w.cell? ⟨g, j * 3, none⟩ = some (.int .i64 l[j].a) ∧ w.cell? ⟨g, j * 3 + 1, none⟩ = some (.int .i64 l[j].b) ∧ w.cell? ⟨g, j * 3 + 2, none⟩ = some (.int .i64 l[j].w) ∧
    w.frozen? ⟨g, j * 3, none⟩ = false ∧ w.frozen? ⟨g, j * 3 + 1, none⟩ = false ∧ w.frozen? ⟨g, j * 3 + 2, none⟩ = false := by
  have hc := World.ownsRow.cellAt h
  have f := fun i => flat_get encE_len l j _ i (List.getElem?_eq_getElem hj)
  refine ⟨?_, ?_, ?_, World.ownsRow.frozenAt h _, World.ownsRow.frozenAt h _, World.ownsRow.frozenAt h _⟩
  · rw [hc _ (by omega)]; exact f 0 (by omega)
  · rw [hc _ (by omega)]; exact f 1 (by omega)
  · rw [hc _ (by omega)]; exact f 2 (by omega)

set_option maxHeartbeats 2000000 in
theorem refSort_c (l : List Edge) (v : Value) (w : World) (hv : RdE w v l) (hl : l.length ≤ 100000) :
    Calls Try.prog 16 #[v] w fun e w' => (∃ v', e = .returned v' ∧ OwnE w' w.heap.size 24 v' (sortE l)) ∧ Below w.heap.size w w' := by
  have hv1 := hv.below ((Below.refl _ w).alloc (Nat.le_refl _) (.cells #[] 24))
  have HV1 := Lib.hid hv1
  clear hv1
  go_enter Try.func16, Try.ntmps16
  go_wp2_with (at_builtin; refine wpList_appendR encE_len encE_one w.heap.size w.heap.size rfl _ _ 22 24 (.agg #[.int .i64 0, .int .i64 0, .int .i64 0]) 24 rfl Try.underlying22 infoE rfl (by decide) (by decide) _ _ [] l rfl rfl (World.ownsRow_made w #[] 0 (Nat.le_refl _) (Nat.zero_le _) (by simp)) HV1.out ((Below.refl _ w).alloc (Nat.le_refl _) _) (Nat.le_refl _) (by simp) (by simp; omega) ?_; intro v1 w1 ho1 hb1 hg1 hat1)
  have HO1 := Lib.hid ho1
  have HB1 := Lib.hid hb1
  clear ho1 hb1 hg1 hat1 HV1
  rcases HO1.out.shape with ⟨rfl, hl0⟩ | ⟨g, cap, cur, rfl, hg, hglt, _⟩
  · simp at hl0
    subst hl0
    refine wp_loop_rounds 1 ?_
    rw [rounds_succ]
    go_wp2_with fail
    go_ret
    exact ⟨⟨_, rfl, by simpa [sortE] using HO1.out⟩, HB1.out⟩
  · rw [List.nil_append] at HO1 ⊢
    go_loopw [4] (fun s4 wr => ∃ i : Nat, i ≤ l.length ∧ s4 = .int .i64 i ∧ OwnE wr w.heap.size 24 (.slice (some ⟨g, 0, none⟩) l.length cap) (sortE (l.take i) ++ l.drop i) ∧ Below w.heap.size w wr) (fun s4 _ => l.length - (intOf s4).toNat)
    case atStart => exact ⟨0, by omega, rfl, by simpa [sortE] using HO1.out, HB1.out⟩
    case round =>
      clear HO1 HB1
      obtain ⟨i, hi, rfl, ho, hb⟩ := hrel
      have HO := Lib.hid ho
      have HB := Lib.hid hb
      clear ho hb
      by_cases hlt : i < l.length
      · have hi0 : (i : Int) < (l.length : Int) := by omega
        obtain ⟨P, hP⟩ : ∃ P, P = sortE (l.take i) := ⟨_, rfl⟩
        have hPl : P.length = i := by rw [hP, sortE_length, List.length_take]; omega
        have hPo : InOrder P := by rw [hP]; exact sortE_inOrder _
        have hPp : P.Perm (l.take i) := by rw [hP]; exact sortE_perm _
        rw [← hP] at HO
        have HPL := Lib.hid hPl
        have HPO := Lib.hid hPo
        have HPP := Lib.hid hPp
        clear hP hPl hPo hPp
        have hstart := ins_start hlt HPL.out
        have HST := Lib.hid hstart
        clear hstart
        go_wp2_with fail
        go_loopw [5] (fun s5 wr => ∃ k : Nat, k ≤ i ∧ s5 = .int .i64 k ∧ OwnE wr w.heap.size 24 (.slice (some ⟨g, 0, none⟩) l.length cap) (ins P l[i] (l.drop (i + 1)) k) ∧ (∀ y ∈ P.drop k, ltE l[i] y = true) ∧ Below w.heap.size w wr) (fun s5 _ => (intOf s5).toNat)
        case atStart => exact ⟨i, by omega, rfl, by rw [← HST.out]; exact HO.out, by rw [List.drop_of_length_le (by rw [HPL.out]; omega)]; simp, HB.out⟩
        case round =>
          clear HST HO HB
          obtain ⟨k, hk, rfl, ho, hall, hb⟩ := hrel
          have HO := Lib.hid ho
          have HB := Lib.hid hb
          have HALL := Lib.hid hall
          clear ho hb hall
          have hML := ins_length P l[i] (l.drop (i + 1)) k
          have hM : (ins P l[i] (l.drop (i + 1)) k).length = l.length := by rw [hML, HPL.out, List.length_drop]; omega
          have HM := Lib.hid hM
          clear hML hM
          by_cases hk0 : k = 0
          · subst hk0
            have hd0 : decide ((0 : Int) < 0) = false := by simp
            go_wp2_with fail
            go_quiet (fail)
            go_wp2_with fail
            go_roundw
            case rel =>
              refine ⟨i + 1, by omega, by go_num, ?_, below_drewN HB.out _⟩
              have h := insert_ok (P := P) (x := l[i]) (k := 0) (by omega) HPO.out HALL.out (fun y h0 _ => absurd h0 (by omega)) (l.take i) HPP.out
              rw [← take_succ_at hlt] at h
              rw [← h]
              exact HO.out.drewN _
            case measure => (simp [intOf]) <;> omega
          · obtain ⟨k, rfl⟩ : ∃ m, k = m + 1 := ⟨k - 1, by omega⟩
            have hkP : k < P.length := by rw [HPL.out]; omega
            have HO' : Hid (OwnE wr w.heap.size 24 (.slice (some ⟨g, 0, none⟩) (ins P l[i] (l.drop (i + 1)) (k + 1)).length cap) (ins P l[i] (l.drop (i + 1)) (k + 1))) := by
              have := HO.out; rw [← HM.out] at this; exact this
            have hc1 := own_cells HO'.out (k + 1) (by rw [HM.out]; omega)
            have hc0 := own_cells HO'.out k (by rw [HM.out]; omega)
            have e1 : (ins P l[i] (l.drop (i + 1)) (k + 1))[k + 1]'(by rw [HM.out]; omega) = l[i] := by
              have h := ins_at (x := l[i]) (R := l.drop (i + 1)) (show k + 1 ≤ P.length by omega)
              rw [List.getElem?_eq_getElem (by rw [HM.out]; omega)] at h
              exact Option.some.inj h
            have e0 : (ins P l[i] (l.drop (i + 1)) (k + 1))[k]'(by rw [HM.out]; omega) = P[k] := by
              have h := ins_before (x := l[i]) (R := l.drop (i + 1)) (show k + 1 ≤ P.length by omega) (show k < k + 1 by omega)
              rw [List.getElem?_eq_getElem (by rw [HM.out]; omega), List.getElem?_eq_getElem hkP] at h
              exact Option.some.inj h
            rw [e1] at hc1
            rw [e0] at hc0
            clear e1 e0
            obtain ⟨p0, p1, p2, q0, q1, q2⟩ := hc1
            obtain ⟨r0, r1, r2, s0, s1, s2⟩ := hc0
            have hlen : l.length ≤ 9223372036854775807 := by omega
            have b0 : (0 : Int) < (k : Int) + 1 := by omega
            have b1 : (k : Int) + 1 < (l.length : Int) := by omega
            have b2 : (k : Int) < (l.length : Int) := by omega
            have ek : ((k + 1 : Nat) : Int) = (k : Int) + 1 := by omega
            rw [ek]
            clear ek
            have hwr : IntKind.i64.wrap (k : Int) = (k : Int) := by rw [IntKind.wrap_i64]; omega
            have hless := refLess_c l[i] P[k]
            have hd0 : decide ((0 : Int) < (k : Int) + 1) = true := by simp
            have b3 : (0 : Int) ≤ (k : Int) + 1 := by omega
            have b4 : (0 : Int) ≤ (k : Int) := by omega
            have tn : ((k : Int) + 1).toNat = k + 1 := by omega
            cases hL : ltE l[i] P[k]
            · rw [hL] at hless
              have HLESS := Lib.hid hless
              have HL := Lib.hid hL
              clear hless hL
              go_wp2_with fail
              go_region_held3 (fun w' => w'.cell? ⟨g, (k + 1) * 3, none⟩ = some (.int .i64 l[i].a) ∧ w'.cell? ⟨g, (k + 1) * 3 + 1, none⟩ = some (.int .i64 l[i].b) ∧ w'.cell? ⟨g, (k + 1) * 3 + 2, none⟩ = some (.int .i64 l[i].w) ∧ w'.cell? ⟨g, k * 3, none⟩ = some (.int .i64 P[k].a) ∧ w'.cell? ⟨g, k * 3 + 1, none⟩ = some (.int .i64 P[k].b) ∧ w'.cell? ⟨g, k * 3 + 2, none⟩ = some (.int .i64 P[k].w)) (first | go_keep | (go_split_ands; refine ⟨?_, ?_, ?_, ?_, ?_, ?_⟩ <;> (refine cell_of_below (by assumption) ?_; assumption)))
                (first | (go_at_call 15; refine (HLESS.out _).mono ?_; rintro e w2 ⟨rfl, hb2⟩))
              have hb2' : Below wr.heap.size wr w2 := below_undrew hb2
              clear hb2
              have HB2 := Lib.hid hb2'
              clear hb2'
              go_wp2_with fail
              go_roundw
              case rel =>
                refine ⟨i + 1, by omega, by go_num, ?_, below_then HB.out HB2.out⟩
                have h := insert_ok (P := P) (x := l[i]) (k := k + 1) (by omega) HPO.out HALL.out (fun y _ hy => by
                  rw [Nat.add_sub_cancel, List.getElem?_eq_getElem hkP] at hy
                  obtain rfl := Option.some.inj hy
                  exact HL.out) (l.take i) HPP.out
                rw [← take_succ_at hlt] at h
                rw [← h]
                exact HO.out.below HB2.out
              case measure => (simp [intOf]) <;> omega
            · rw [hL] at hless
              have HLESS := Lib.hid hless
              have HL := Lib.hid hL
              clear hless hL
              go_wp2_with fail
              go_region_held3 (fun w' => w'.cell? ⟨g, (k + 1) * 3, none⟩ = some (.int .i64 l[i].a) ∧ w'.cell? ⟨g, (k + 1) * 3 + 1, none⟩ = some (.int .i64 l[i].b) ∧ w'.cell? ⟨g, (k + 1) * 3 + 2, none⟩ = some (.int .i64 l[i].w) ∧ w'.cell? ⟨g, k * 3, none⟩ = some (.int .i64 P[k].a) ∧ w'.cell? ⟨g, k * 3 + 1, none⟩ = some (.int .i64 P[k].b) ∧ w'.cell? ⟨g, k * 3 + 2, none⟩ = some (.int .i64 P[k].w)) (first | go_keep | (go_split_ands; refine ⟨?_, ?_, ?_, ?_, ?_, ?_⟩ <;> (refine cell_of_below (by assumption) ?_; assumption)))
                (first | (go_at_call 15; refine (HLESS.out _).mono ?_; rintro e w2 ⟨rfl, hb2⟩))
              have hb2' : Below wr.heap.size wr w2 := below_undrew hb2
              clear hb2
              have hz2 := hb2'.size
              have hgw := (HO.out.lt g rfl).2
              replace p0 := cell_of_below hb2' p0
              replace p1 := cell_of_below hb2' p1
              replace p2 := cell_of_below hb2' p2
              replace r0 := cell_of_below hb2' r0
              replace r1 := cell_of_below hb2' r1
              replace r2 := cell_of_below hb2' r2
              replace q0 : w2.frozen? ⟨g, (k + 1) * 3, none⟩ = false := (hb2'.frozen (p := ⟨g, (k + 1) * 3, none⟩) hgw).trans q0
              replace q1 : w2.frozen? ⟨g, (k + 1) * 3 + 1, none⟩ = false := (hb2'.frozen (p := ⟨g, (k + 1) * 3 + 1, none⟩) hgw).trans q1
              replace q2 : w2.frozen? ⟨g, (k + 1) * 3 + 2, none⟩ = false := (hb2'.frozen (p := ⟨g, (k + 1) * 3 + 2, none⟩) hgw).trans q2
              replace s0 : w2.frozen? ⟨g, k * 3, none⟩ = false := (hb2'.frozen (p := ⟨g, k * 3, none⟩) hgw).trans s0
              replace s1 : w2.frozen? ⟨g, k * 3 + 1, none⟩ = false := (hb2'.frozen (p := ⟨g, k * 3 + 1, none⟩) hgw).trans s1
              replace s2 : w2.frozen? ⟨g, k * 3 + 2, none⟩ = false := (hb2'.frozen (p := ⟨g, k * 3 + 2, none⟩) hgw).trans s2
              have HB2 := Lib.hid hb2'
              clear hb2'
              have hgw2 : g < w2.heap.size := by omega
              have p0a := cell_alloc p0
              have p1a := cell_alloc p1
              have p2a := cell_alloc p2
              have r0a := cell_alloc r0
              have r1a := cell_alloc r1
              have r2a := cell_alloc r2
              have q0a := frozen_alloc (a := ⟨g, (k + 1) * 3, none⟩) hgw2 q0
              have q1a := frozen_alloc (a := ⟨g, (k + 1) * 3 + 1, none⟩) hgw2 q1
              have q2a := frozen_alloc (a := ⟨g, (k + 1) * 3 + 2, none⟩) hgw2 q2
              have s0a := frozen_alloc (a := ⟨g, k * 3, none⟩) hgw2 s0
              have s1a := frozen_alloc (a := ⟨g, k * 3 + 1, none⟩) hgw2 s1
              have s2a := frozen_alloc (a := ⟨g, k * 3 + 2, none⟩) hgw2 s2
              go_wp2_with fail
              go_roundw
              case rel =>
                have hB2 := HB2.out
                have h1 := set_at (HO'.out.below (hB2)) (k + 1) (by rw [HM.out]; omega) P[k]
                have h2 := set_at h1 k (by rw [List.length_set, HM.out]; omega) l[i]
                rw [ins_step hkP (List.getElem?_eq_getElem hkP), show (ins P l[i] (l.drop (i + 1)) k).length = l.length from by rw [ins_length, HPL.out, List.length_drop]; omega] at h2
                refine ⟨k, by omega, by first | rfl | go_num, ?_, fun y hy => ?_, ?_⟩
                · exact h2.alloc _
                · rw [List.drop_eq_getElem_cons hkP, List.mem_cons] at hy
                  rcases hy with rfl | hy
                  · exact HL.out
                  · exact HALL.out y hy
                · have hbw := below_then HB.out hB2
                  have hgB : w.heap.size ≤ g := (HO.out.lt g rfl).1
                  exact ((((((hbw.setCell (by exact hgB) _).setCell (by exact hgB) _).setCell (by exact hgB) _).setCell (by exact hgB) _).setCell (by exact hgB) _).setCell (by exact hgB) _).alloc (by simp; have := hbw.size; omega) _
              case measure => (simp [intOf]) <;> omega
      · have hi' : i = l.length := by omega
        subst hi'
        go_wp2_with fail
        go_ret
        refine ⟨⟨_, rfl, ?_⟩, HB.out⟩
        have := HO.out
        rw [List.take_length, List.drop_length, List.append_nil] at this
        exact this

end Go.Proofs.Ytandminldgiheaa
