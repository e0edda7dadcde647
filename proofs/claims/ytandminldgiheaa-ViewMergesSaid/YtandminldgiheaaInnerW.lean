/- Walk: view.Inner. -/
import Derived.Test.YtandminldgiheaaInnerP
import Derived.Test.YtandminldgiheaaBinK
import Derived.Test.YtandminldgiheaaViewCheckW
import Derived.Test.YtandminldgiheaaSortKW
namespace Go.Proofs.Ytandminldgiheaa
open Go.RowKit Go.Shelf Go.Proofs.YtandminldgiheaaW.PrintLast
attribute [local go_sem ↓] Go.wp_at_zero Go.wp_at_succ

def InnerPost (v : View) (w : World) (e : Ending) (w' : World) : Prop :=
  Below w.heap.size w w' ∧ (mayV v = false → e = .returned (.tuple #[.slice none 0 0, .int .i64 1])) ∧ (mayV v = true → ∃ u, e = .returned (.tuple #[u, .int .i64 0]) ∧ OwnK w' w.heap.size 51 u (innerV v))

set_option maxRecDepth 100000 in
set_option maxHeartbeats 8000000 in
theorem viewInner_c (a : View) (an al : Value) (w : World) (ha : RdV w an al a) :
    Calls Try.prog 32 #[.agg #[an, al]] w (InnerPost a w) := by
  have HA := Lib.hid ha
  obtain ⟨A0, c0, rfl, _, _, _⟩ := ha.1
  obtain ⟨A1, c1, rfl, _, _, _⟩ := ha.2
  clear ha
  obtain ⟨W, e1⟩ : ∃ W, w.alloc (.cells #[.slice A0 a.nodes.length c0, .slice A1 a.links.length c1] 43) = W := ⟨_, rfl⟩
  have f1 := alloc_facts e1
  obtain ⟨BX, hBX⟩ : ∃ BX, w.heap.size = BX := ⟨_, rfl⟩
  have k0 := f1.1
  have hsz := f1.2.1
  rw [hBX] at k0 hsz
  have HB := Lib.hid f1.2.2.1
  have HK := Lib.hid k0
  have HSZ := Lib.hid hsz
  have HBX := Lib.hid hBX
  have x0 := cell_in k0 0 _ rfl
  have x1 := cell_in k0 1 _ rfl
  clear f1 k0 hsz
  have hck := viewCheck_c a _ _ W (HA.out.below HB.out)
  cases hm : mayV a
  · rw [hm] at hck
    have HCK := Lib.hid hck
    have HM := Lib.hid hm
    clear hck hm
    go_enter Try.func32, Try.ntmps32
    go_wp2_with fail
    go_at_call 33; refine HCK.out.mono ?_; rintro e w1 ⟨rfl, hb1⟩
    go_wp2_with fail
    go_ret2
    exact ⟨below_then HB.out hb1, fun _ => rfl, fun h => by rw [HM.out] at h; cases h⟩
  · rw [hm, show eArg true = 0 from rfl] at hck
    have HCK := Lib.hid hck
    have HM := Lib.hid hm
    have hmay := may_iff.1 hm
    have hsm := hmay.small.2
    have HO := Lib.hid hmay.order
    have hll : a.links.length ≤ 1000000 := by omega
    clear hck hm hmay hsm
    go_enter Try.func32, Try.ntmps32
    go_wp2_with fail
    go_at_call 33; refine HCK.out.mono ?_; rintro e w1 ⟨rfl, hb1⟩
    have HB1 := Lib.hid (below_then HB.out hb1)
    have hk1 := block_of_below HK.out hb1
    have HK1 := Lib.hid hk1
    have HA1 := Lib.hid (HA.out.below HB1.out)
    have x0 := cell_in hk1 0 _ rfl
    have x1 := cell_in hk1 1 _ rfl
    clear hb1 hk1 e1 hBX HB HK
    go_wp2_with fail
    go_loopw [5, 18] (fun s5 s18 wr => ∃ k : Nat, k ≤ a.links.length ∧ s18 = .int .i64 k ∧ OwnK wr w1.heap.size 51 s5 ((a.links.take k).filterMap (innerOne a.links)) ∧ Below w1.heap.size w1 wr) (fun _ s18 _ => a.links.length - (intOf s18).toNat)
    case atStart => exact ⟨0, by omega, rfl, Own.nil _ _ _, Below.refl _ _⟩
    case round =>
      obtain ⟨k, hk, rfl, ho, hb⟩ := hrel
      have HOW := Lib.hid ho
      have HBR := Lib.hid hb
      have hk1 := block_of_below HK1.out hb
      have x0 := cell_in hk1 0 _ rfl
      have x1 := cell_in hk1 1 _ rfl
      have HK2 := Lib.hid hk1
      have hrd := (HA1.out.below hb).ls
      have HRD := Lib.hid hrd
      clear ho hb hk1
      by_cases hlt : k < a.links.length
      · obtain ⟨A9, d9, e9, _, _, h39⟩ := hrd
        obtain ⟨b9, o9, rfl, _, g9⟩ := h39 (by intro h; rw [h] at hlt; simp at hlt)
        simp only [Value.slice.injEq, true_and] at e9
        obtain ⟨rfl, rfl⟩ := e9
        obtain ⟨j0, j1, j2, j3, j4⟩ := cells_K g9 k hlt
        have HG9 := Lib.hid g9
        have hi0 : (k : Int) < (a.links.length : Int) := by omega
        have hfm := filterMap_take_succ (innerOne a.links) hlt
        obtain ⟨x, hx⟩ : ∃ x, a.links[k] = x := ⟨_, rfl⟩
        rw [hx] at j0 j1 j2 j3 j4 hfm
        have HFM := Lib.hid hfm
        have hlen := innerV_length a k
        obtain ⟨ks, hks⟩ : ∃ ks, (a.links.take k).filterMap (innerOne a.links) = ks := ⟨_, rfl⟩
        rw [hks] at hlen
        rw [hks] at HOW HFM
        clear hx hfm g9 h39 hks
        obtain ⟨W1, hW1⟩ : ∃ W1, wr.alloc (.cells #[.int .i64 x.node, .int .i64 x.peer, .int .i64 x.w, .int .i64 x.session, .bool x.marked] 51) = W1 := ⟨_, rfl⟩
        obtain ⟨BK, hBK⟩ : ∃ BK, wr.heap.size = BK := ⟨_, rfl⟩
        have f1 := alloc_facts hW1
        have hb1 := f1.2.2.1
        have hbk := f1.1
        rw [hBK] at hbk
        have HB1K := Lib.hid hb1
        have HBK := Lib.hid hbk
        have HBKE := Lib.hid hBK
        have z0 := cell_in hbk 0 _ rfl
        have z1 := cell_in hbk 1 _ rfl
        have x0 := cell_of_below hb1 x0
        have x1 := cell_of_below hb1 x1
        have hbs := binSearchK_c a.links (backK x) _ W1 (HRD.out.below hb1) hll HO.out
        have HBS := Lib.hid hbs
        clear f1 hbk hb1 hbs
        go_upto_region 8 with fail
        clear hW1 hBK
        go_wp2_with fail
        go_at_call 65; refine HBS.out.mono ?_; rintro e w2 ⟨hb2, i, hil, q1, q2, rfl⟩
        have hback := back_at HO.out q1 q2
        have HB2 := Lib.hid (below_then HBR.out (below_then HB1K.out hb2))
        have hk2 := block_of_below HK2.out (below_then HB1K.out hb2)
        have hbk2 := block_of_below HBK.out hb2
        have HOW2 := Lib.hid (HOW.out.below (below_then HB1K.out hb2))
        have HBB := Lib.hid (below_then HB1K.out hb2)
        have x0 := cell_in hk2 0 _ rfl
        have x1 := cell_in hk2 1 _ rfl
        have z0 := cell_in hbk2 0 _ rfl
        have z1 := cell_in hbk2 1 _ rfl
        have z2 := cell_in hbk2 2 _ rfl
        have z3 := cell_in hbk2 3 _ rfl
        have z4 := cell_in hbk2 4 _ rfl
        have HBK2 := Lib.hid hbk2
        obtain ⟨q, hq⟩ : ∃ q, ((a.links[i]?.map fun x_1 => decide (cmpK x_1 (backK x) = 0)).getD false) = q := ⟨_, rfl⟩
        rw [hq] at hback
        rw [hq]
        have HBACK := Lib.hid hback
        have HQ := Lib.hid hq
        clear hb2 hk2 hbk2 hback q1 q2 hq HBS HB1K
        by_cases hgt : x.peer < x.node
        · have hno : innerOne a.links x = none := by
            unfold innerOne
            split
            · rw [if_neg (by omega)]
            · rfl
          have HNO := Lib.hid hno
          have d1 : decide (x.peer < x.node) = true := by rw [decide_eq_true_iff]; exact hgt
          clear hno hgt
          go_wp2_with fail
          go_quiet (fail)
          go_wp2_with fail
          go_roundw
          case rel => exact ⟨k + 1, by omega, by go_num, by rw [HFM.out, HNO.out, Option.toList_none, List.append_nil]; exact HOW2.out.drewN _, below_drewN HB2.out _⟩
          case measure => (simp [intOf]) <;> omega
        · have d1 : decide (x.peer < x.node) = false := by rw [decide_eq_false_iff_not]; exact hgt
          cases q
          · have hno : innerOne a.links x = none := by
              unfold innerOne
              rw [HBACK.out.2 rfl]
            have HNO := Lib.hid hno
            clear hno hgt
            go_wp2_with fail
            go_quiet (fail)
            go_wp2_with fail
            go_roundw
            case rel => exact ⟨k + 1, by omega, by go_num, by rw [HFM.out, HNO.out, Option.toList_none, List.append_nil]; exact HOW2.out.drewN _, below_drewN HB2.out _⟩
            case measure => (simp [intOf]) <;> omega
          · have hil2 : i < a.links.length := by
              have := HQ.out
              by_cases h : i < a.links.length
              · exact h
              · rw [List.getElem?_eq_none (by omega)] at this; cases this
            have hbo : backOf a.links x = some a.links[i] := HBACK.out.1 _ (List.getElem?_eq_getElem hil2) (by
              have := HQ.out
              rw [List.getElem?_eq_getElem hil2] at this
              simpa using this)
            obtain ⟨i0, i1, i2, i3, i4⟩ := cells_K HG9.out i hil2
            have i2 := cell_of_below HBB.out i2
            have i3 := cell_of_below HBB.out i3
            have i4 := cell_of_below HBB.out i4
            have hi8 : (0 : Int) ≤ (i : Int) := by omega
            have hi9 : (i : Int) < (a.links.length : Int) := by omega
            obtain ⟨o, ho⟩ : ∃ o, a.links[i] = o := ⟨_, rfl⟩
            rw [ho] at hbo i2 i3 i4
            have hone : innerOne a.links x = if x.node ≤ x.peer ∧ o.w = x.w ∧ o.session = x.session then some { x with marked := x.marked && o.marked } else none := by
              unfold innerOne
              rw [hbo]
            have HONE := Lib.hid hone
            clear hbo ho hone i0 i1
            by_cases hw : o.w = x.w
            · have d2 : (o.w != x.w) = false := by rw [hw]; simp
              by_cases hs : o.session = x.session
              · have d3 : (o.session != x.session) = false := by rw [hs]; simp
                have hyes : innerOne a.links x = some { x with marked := x.marked && o.marked } := by rw [HONE.out, if_pos ⟨by omega, hw, hs⟩]
                have HYES := Lib.hid hyes
                clear hw hs hgt hyes
                have r4 := frozen_of_row w2 BK 4 _ _ HBK2.out
                obtain ⟨om, hom⟩ : ∃ om, o.marked = om := ⟨_, rfl⟩
                obtain ⟨xm, hxm⟩ : ∃ xm, x.marked = xm := ⟨_, rfl⟩
                rw [hom] at i4
                rw [hxm] at z4
                have hym : (x.marked && o.marked) = (xm && om) := by rw [hom, hxm]
                have HBK3 : Hid (w2.heap[BK]? = some (.cells #[.int .i64 x.node, .int .i64 x.peer, .int .i64 x.w, .int .i64 x.session, .bool xm] 51 (0, 0))) := by rw [← hxm]; exact HBK2
                have HYM := Lib.hid hym
                clear hom hxm hym
                cases xm
                · have HY : Hid (innerOne a.links x = some (⟨x.node, x.peer, x.w, x.session, false⟩ : Known)) := by
                    have h1 := HYES.out
                    have h2 := HYM.out
                    rw [h2] at h1
                    exact Lib.hid (by simpa using h1)
                  go_wp2_with fail
                  go_quiet (fail)
                  try simp only [Exit.then]
                  go_upto_region 11 with fail
                  have hrow := heap_setCell_same (w2.drewN nq) BK 4 _ _ (.bool false) HBK3.out
                  replace hrow : ((w2.drewN nq).setCell ⟨BK, 4, none⟩ (.bool false)).heap[BK]? = some (.cells #[.int .i64 x.node, .int .i64 x.peer, .int .i64 x.w, .int .i64 x.session, .bool false] 51 (0, 0)) := hrow
                  have how3 := (HOW2.out.drewN nq).setCell_other (g := BK) (i := 4) (x := .bool false) (fun e => by have := (HOW.out.lt _ e).2; have := HBKE.out; omega)
                  have hb3 : Below w1.heap.size w1 ((w2.drewN nq).setCell ⟨BK, 4, none⟩ (.bool false)) := (below_drewN HB2.out nq).setCell (by have := HBR.out.size; have := HBKE.out; show w1.heap.size ≤ BK; omega) _
                  obtain ⟨w3, hw3⟩ : ∃ w3, (w2.drewN nq).setCell ⟨BK, 4, none⟩ (.bool false) = w3 := ⟨_, rfl⟩
                  rw [hw3] at hrow how3 hb3
                  rw [hw3]
                  have HOW3 := Lib.hid how3
                  have HB3 := Lib.hid hb3
                  have y0 := cell_in hrow 0 _ rfl
                  have y1 := cell_in hrow 1 _ rfl
                  have y2 := cell_in hrow 2 _ rfl
                  have y3 := cell_in hrow 3 _ rfl
                  have y4 := cell_in hrow 4 _ rfl
                  clear hrow how3 hb3 hw3 x0 x1 z0 z1 z2 z3 z4 i2 i3 i4 r4
                  go_wp2_with (at_builtin; refine wpList_append1 encK_len encK_one w1.heap.size w1.heap.size rfl _ _ 41 (.agg #[.int .i64 0, .int .i64 0, .int .i64 0, .int .i64 0, .bool false]) 40 rfl Try.underlying41 infoK rfl (by decide) (by decide) _ ks (⟨x.node, x.peer, x.w, x.session, false⟩ : Known) rfl rfl _ rfl (by simp) HOW3.out HB3.out (Nat.le_refl _) HB3.out.size (by omega) ?_; intro v4 w4 ho4 hb4 hg4 hat4)
                  have HOW4 := Lib.hid ho4
                  have HB4 := Lib.hid hb4
                  clear ho4 hb4 hg4 hat4
                  go_wp2_with fail
                  go_roundw
                  case rel => exact ⟨k + 1, by omega, by go_num, by rw [HFM.out, HY.out]; exact HOW4.out, HB4.out⟩
                  case measure => (simp [intOf]) <;> omega
                · have HY : Hid (innerOne a.links x = some (⟨x.node, x.peer, x.w, x.session, om⟩ : Known)) := by
                    have h1 := HYES.out
                    have h2 := HYM.out
                    rw [h2] at h1
                    exact Lib.hid (by simpa using h1)
                  go_wp2_with fail
                  go_quiet (fail)
                  try simp only [Exit.then]
                  go_upto_region 11 with fail
                  have hrow := heap_setCell_same (w2.drewN nq) BK 4 _ _ (.bool om) HBK3.out
                  replace hrow : ((w2.drewN nq).setCell ⟨BK, 4, none⟩ (.bool om)).heap[BK]? = some (.cells #[.int .i64 x.node, .int .i64 x.peer, .int .i64 x.w, .int .i64 x.session, .bool om] 51 (0, 0)) := hrow
                  have how3 := (HOW2.out.drewN nq).setCell_other (g := BK) (i := 4) (x := .bool om) (fun e => by have := (HOW.out.lt _ e).2; have := HBKE.out; omega)
                  have hb3 : Below w1.heap.size w1 ((w2.drewN nq).setCell ⟨BK, 4, none⟩ (.bool om)) := (below_drewN HB2.out nq).setCell (by have := HBR.out.size; have := HBKE.out; show w1.heap.size ≤ BK; omega) _
                  obtain ⟨w3, hw3⟩ : ∃ w3, (w2.drewN nq).setCell ⟨BK, 4, none⟩ (.bool om) = w3 := ⟨_, rfl⟩
                  rw [hw3] at hrow how3 hb3
                  rw [hw3]
                  have HOW3 := Lib.hid how3
                  have HB3 := Lib.hid hb3
                  have y0 := cell_in hrow 0 _ rfl
                  have y1 := cell_in hrow 1 _ rfl
                  have y2 := cell_in hrow 2 _ rfl
                  have y3 := cell_in hrow 3 _ rfl
                  have y4 := cell_in hrow 4 _ rfl
                  clear hrow how3 hb3 hw3 x0 x1 z0 z1 z2 z3 z4 i2 i3 i4 r4
                  go_wp2_with (at_builtin; refine wpList_append1 encK_len encK_one w1.heap.size w1.heap.size rfl _ _ 41 (.agg #[.int .i64 0, .int .i64 0, .int .i64 0, .int .i64 0, .bool false]) 40 rfl Try.underlying41 infoK rfl (by decide) (by decide) _ ks (⟨x.node, x.peer, x.w, x.session, om⟩ : Known) rfl rfl _ rfl (by simp) HOW3.out HB3.out (Nat.le_refl _) HB3.out.size (by omega) ?_; intro v4 w4 ho4 hb4 hg4 hat4)
                  have HOW4 := Lib.hid ho4
                  have HB4 := Lib.hid hb4
                  clear ho4 hb4 hg4 hat4
                  go_wp2_with fail
                  go_roundw
                  case rel => exact ⟨k + 1, by omega, by go_num, by rw [HFM.out, HY.out]; exact HOW4.out, HB4.out⟩
                  case measure => (simp [intOf]) <;> omega
              · have d3 : (o.session != x.session) = true := by simpa using hs
                have hno : innerOne a.links x = none := by rw [HONE.out, if_neg (fun h => hs h.2.2)]
                have HNO := Lib.hid hno
                clear hw hs hgt hno
                go_wp2_with fail
                go_quiet (fail)
                go_wp2_with fail
                go_roundw
                case rel => exact ⟨k + 1, by omega, by go_num, by rw [HFM.out, HNO.out, Option.toList_none, List.append_nil]; exact HOW2.out.drewN _, below_drewN HB2.out _⟩
                case measure => (simp [intOf]) <;> omega
            · have d2 : (o.w != x.w) = true := by simpa using hw
              have hno : innerOne a.links x = none := by rw [HONE.out, if_neg (fun h => hw h.2.1)]
              have HNO := Lib.hid hno
              clear hw hgt hno
              go_wp2_with fail
              go_quiet (fail)
              go_wp2_with fail
              go_roundw
              case rel => exact ⟨k + 1, by omega, by go_num, by rw [HFM.out, HNO.out, Option.toList_none, List.append_nil]; exact HOW2.out.drewN _, below_drewN HB2.out _⟩
              case measure => (simp [intOf]) <;> omega
      · obtain rfl : k = a.links.length := by omega
        rw [List.take_length] at HOW
        clear hrd
        go_wp2_with fail
        go_ret2
        refine ⟨below_then HB1.out HBR.out, fun h => (by rw [HM.out] at h; cases h), fun _ => ⟨_, rfl, HOW.out.base_le HB1.out.size⟩⟩

end Go.Proofs.Ytandminldgiheaa
