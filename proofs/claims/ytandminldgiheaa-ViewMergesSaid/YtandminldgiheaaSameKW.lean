/- Walks: are two lists alike, element by element? -/
import Derived.Test.YtandminldgiheaaPlain
import Derived.Test.YtandminldgiheaaEdgeEq
import Derived.Test.YtandminldgiheaaSameW
import Derived.Test.YtandminldgiheaaKnownEq
namespace Go.Proofs.Ytandminldgiheaa
open Go.RowKit
attribute [local go_sem ↓] guardE neqE eqlE guardK neqK eqlK

set_option maxHeartbeats 1000000 in
theorem refLinks_c (l m : List Known) (v u : Value) (w : World) (hv : RdK w v l) (hu : RdK w u m) :
    Calls Try.prog 64 #[v, u] w fun e w' => e = .returned (.bool (decide (l = m))) ∧ Dr w w' := by
  obtain ⟨A0, c0, rfl, h10, h20, h30⟩ := hv
  obtain ⟨A1, c1, rfl, h11, h21, h31⟩ := hu
  by_cases hl : l.length = m.length
  · have hb0 : ((l.length : Int) != (m.length : Int)) = false := bne_eq_false_iff_eq.mpr (by omega)
    have hb1 : ((l.length : Int) == (m.length : Int)) = true := beq_iff_eq.mpr (by omega)
    have hb2 : (l.length == m.length) = true := beq_iff_eq.mpr (by omega)
    have HL := Lib.hid hl
    clear hl
    have hn : l.length ≤ 9223372036854775807 := by omega
    have hm : m.length ≤ 9223372036854775807 := by omega
    clear h10 h20 h11 h21
    go_enter Try.func64, Try.ntmps64
    go_wp2
    go_loopw [5] (fun i w' => ∃ k : Nat, k ≤ l.length ∧ i = .int .i64 k ∧ (∀ i, i < k → l[i]? = m[i]?) ∧ ∃ q, w' = w.drewN q) (fun i _ => l.length - (intOf i).toNat)
    case atStart => exact ⟨0, by omega, rfl, by omega, 0, rfl⟩
    case round =>
      obtain ⟨k, hk, rfl, hs, q, rfl⟩ := hrel
      have HS := Lib.hid hs
      clear hs
      by_cases hlt : k < l.length
      · have hlm : k < m.length := by have := HL.out; omega
        obtain ⟨b0, o0, rfl, _, g0⟩ := h30 (by intro h; subst h; simp at hlt)
        obtain ⟨b1, o1, rfl, _, g1⟩ := h31 (by intro h; subst h; simp at hlm)
        have x0 := cells_K g0 k hlt
        have y0 := cells_K g1 k hlm
        clear g0 g1 h30 h31
        have hi0 : (k : Int) < (l.length : Int) := by omega
        have hi1 : (k : Int) < (m.length : Int) := by omega
        clear hb0 hb1 hb2
        by_cases he : l[k] = m[k]
        · have hd : elseK l[k].node l[k].peer l[k].w l[k].session l[k].marked m[k].node m[k].peer m[k].w m[k].session m[k].marked = false := by rw [elseK_iff]; simp [he]
          have HE := Lib.hid he
          clear he
          go_wp2
          go_quiet (fail)
          go_wp2
          go_roundw
          case rel => exact ⟨k + 1, by omega, by go_num, fun i hi => by
            by_cases h : i < k
            · exact HS.out i h
            · obtain rfl : i = k := by omega
              rw [List.getElem?_eq_getElem hlt, List.getElem?_eq_getElem hlm, HE.out], _, rfl⟩
          case measure => simp [intOf]; omega
        · have hd : elseK l[k].node l[k].peer l[k].w l[k].session l[k].marked m[k].node m[k].peer m[k].w m[k].session m[k].marked = true := by rw [elseK_iff]; simp [he]
          have HE := Lib.hid he
          clear he
          go_wp2
          go_quiet (fail)
          go_wp2
          go_ret
          refine ⟨ret_b ?_, by first | exact Dr.refl _ | exact Dr.one _ _ | exact Dr.two _ _ _⟩
          symm
          rw [decide_eq_false_iff_not]
          exact ne_of_at (List.getElem?_eq_getElem hlt) (List.getElem?_eq_getElem hlm) HE.out
      · go_wp2
        go_ret
        refine ⟨ret_b ?_, by first | exact Dr.refl _ | exact Dr.one _ _ | exact Dr.two _ _ _⟩
        symm
        rw [decide_eq_true_iff]
        exact eq_of_all HL.out (fun i hi => HS.out i (by omega))
  · have hb0 : ((l.length : Int) != (m.length : Int)) = true := by rw [bne_iff_ne]; omega
    have hb1 : ((l.length : Int) == (m.length : Int)) = false := beq_eq_false_iff_ne.mpr (by omega)
    have hb2 : (l.length == m.length) = false := beq_eq_false_iff_ne.mpr (by omega)
    have HL := Lib.hid hl
    clear hl
    go_enter Try.func64, Try.ntmps64
    go_wp2
    go_ret
    refine ⟨ret_b ?_, by first | exact Dr.refl _ | exact Dr.one _ _ | exact Dr.two _ _ _⟩
    symm
    rw [decide_eq_false_iff_not]
    intro h; exact HL.out (by rw [h])

set_option maxHeartbeats 1000000 in
theorem equalInt_c (l m : List Int) (v u : Value) (w : World) (hv : RdI w v l) (hu : RdI w u m) :
    Calls Try.prog 69 #[v, u] w fun e w' => e = .returned (.bool (decide (l = m))) ∧ Dr w w' := by
  obtain ⟨A0, c0, rfl, h10, h20, h30⟩ := hv
  obtain ⟨A1, c1, rfl, h11, h21, h31⟩ := hu
  by_cases hl : l.length = m.length
  · have hb0 : ((l.length : Int) != (m.length : Int)) = false := bne_eq_false_iff_eq.mpr (by omega)
    have hb1 : ((l.length : Int) == (m.length : Int)) = true := beq_iff_eq.mpr (by omega)
    have hb2 : (l.length == m.length) = true := beq_iff_eq.mpr (by omega)
    have HL := Lib.hid hl
    clear hl
    have hn : l.length ≤ 9223372036854775807 := by omega
    have hm : m.length ≤ 9223372036854775807 := by omega
    clear h10 h20 h11 h21
    go_enter Try.func69, Try.ntmps69
    go_wp2
    go_loopw [5, 13] (fun _ i w' => ∃ k : Nat, k ≤ l.length ∧ i = .int .i64 k ∧ (∀ i, i < k → l[i]? = m[i]?) ∧ ∃ q, w' = w.drewN q) (fun _ i _ => l.length - (intOf i).toNat)
    case atStart => exact ⟨0, by omega, rfl, by omega, 0, rfl⟩
    case round =>
      obtain ⟨k, hk, rfl, hs, q, rfl⟩ := hrel
      have HS := Lib.hid hs
      clear hs
      by_cases hlt : k < l.length
      · have hlm : k < m.length := by have := HL.out; omega
        obtain ⟨b0, o0, rfl, _, g0⟩ := h30 (by intro h; subst h; simp at hlt)
        obtain ⟨b1, o1, rfl, _, g1⟩ := h31 (by intro h; subst h; simp at hlm)
        have x0 := cells_I g0 k hlt
        have y0 := cells_I g1 k hlm
        clear g0 g1 h30 h31
        have hi0 : (k : Int) < (l.length : Int) := by omega
        have hi1 : (k : Int) < (m.length : Int) := by omega
        clear hb0 hb1 hb2
        by_cases he : l[k] = m[k]
        · have hd0 : (l[k] != m[k]) = false := by simp [he]
          have hd1 : (l[k] == m[k]) = true := by simp [he]
          have HE := Lib.hid he
          clear he
          go_wp2
          go_quiet (fail)
          go_wp2
          go_roundw
          case rel => exact ⟨k + 1, by omega, by go_num, fun i hi => by
            by_cases h : i < k
            · exact HS.out i h
            · obtain rfl : i = k := by omega
              rw [List.getElem?_eq_getElem hlt, List.getElem?_eq_getElem hlm, HE.out], _, rfl⟩
          case measure => simp [intOf]; omega
        · have hd0 : (l[k] != m[k]) = true := by simp [he]
          have hd1 : (l[k] == m[k]) = false := by simp [he]
          have HE := Lib.hid he
          clear he
          go_wp2
          go_quiet (fail)
          go_wp2
          go_ret
          refine ⟨ret_b ?_, by first | exact Dr.refl _ | exact Dr.one _ _ | exact Dr.two _ _ _⟩
          symm
          rw [decide_eq_false_iff_not]
          exact ne_of_at (List.getElem?_eq_getElem hlt) (List.getElem?_eq_getElem hlm) HE.out
      · go_wp2
        go_ret
        refine ⟨ret_b ?_, by first | exact Dr.refl _ | exact Dr.one _ _ | exact Dr.two _ _ _⟩
        symm
        rw [decide_eq_true_iff]
        exact eq_of_all HL.out (fun i hi => HS.out i (by omega))
  · have hb0 : ((l.length : Int) != (m.length : Int)) = true := by rw [bne_iff_ne]; omega
    have hb1 : ((l.length : Int) == (m.length : Int)) = false := beq_eq_false_iff_ne.mpr (by omega)
    have hb2 : (l.length == m.length) = false := beq_eq_false_iff_ne.mpr (by omega)
    have HL := Lib.hid hl
    clear hl
    go_enter Try.func69, Try.ntmps69
    go_wp2
    go_ret
    refine ⟨ret_b ?_, by first | exact Dr.refl _ | exact Dr.one _ _ | exact Dr.two _ _ _⟩
    symm
    rw [decide_eq_false_iff_not]
    intro h; exact HL.out (by rw [h])

set_option maxHeartbeats 1000000 in
theorem equalK_c (l m : List Known) (v u : Value) (w : World) (hv : RdK w v l) (hu : RdK w u m) :
    Calls Try.prog 70 #[v, u] w fun e w' => e = .returned (.bool (decide (l = m))) ∧ Dr w w' := by
  obtain ⟨A0, c0, rfl, h10, h20, h30⟩ := hv
  obtain ⟨A1, c1, rfl, h11, h21, h31⟩ := hu
  by_cases hl : l.length = m.length
  · have hb0 : ((l.length : Int) != (m.length : Int)) = false := bne_eq_false_iff_eq.mpr (by omega)
    have hb1 : ((l.length : Int) == (m.length : Int)) = true := beq_iff_eq.mpr (by omega)
    have hb2 : (l.length == m.length) = true := beq_iff_eq.mpr (by omega)
    have HL := Lib.hid hl
    clear hl
    have hn : l.length ≤ 9223372036854775807 := by omega
    have hm : m.length ≤ 9223372036854775807 := by omega
    clear h10 h20 h11 h21
    go_enter Try.func70, Try.ntmps70
    go_wp2
    go_loopw [5, 13] (fun _ i w' => ∃ k : Nat, k ≤ l.length ∧ i = .int .i64 k ∧ (∀ i, i < k → l[i]? = m[i]?) ∧ ∃ q, w' = w.drewN q) (fun _ i _ => l.length - (intOf i).toNat)
    case atStart => exact ⟨0, by omega, rfl, by omega, 0, rfl⟩
    case round =>
      obtain ⟨k, hk, rfl, hs, q, rfl⟩ := hrel
      have HS := Lib.hid hs
      clear hs
      by_cases hlt : k < l.length
      · have hlm : k < m.length := by have := HL.out; omega
        obtain ⟨b0, o0, rfl, _, g0⟩ := h30 (by intro h; subst h; simp at hlt)
        obtain ⟨b1, o1, rfl, _, g1⟩ := h31 (by intro h; subst h; simp at hlm)
        have x0 := cells_K g0 k hlt
        have y0 := cells_K g1 k hlm
        clear g0 g1 h30 h31
        have hi0 : (k : Int) < (l.length : Int) := by omega
        have hi1 : (k : Int) < (m.length : Int) := by omega
        clear hb0 hb1 hb2
        by_cases he : l[k] = m[k]
        · have hd : elseK l[k].node l[k].peer l[k].w l[k].session l[k].marked m[k].node m[k].peer m[k].w m[k].session m[k].marked = false := by rw [elseK_iff]; simp [he]
          have HE := Lib.hid he
          clear he
          go_wp2
          go_quiet (fail)
          go_wp2
          go_roundw
          case rel => exact ⟨k + 1, by omega, by go_num, fun i hi => by
            by_cases h : i < k
            · exact HS.out i h
            · obtain rfl : i = k := by omega
              rw [List.getElem?_eq_getElem hlt, List.getElem?_eq_getElem hlm, HE.out], _, rfl⟩
          case measure => simp [intOf]; omega
        · have hd : elseK l[k].node l[k].peer l[k].w l[k].session l[k].marked m[k].node m[k].peer m[k].w m[k].session m[k].marked = true := by rw [elseK_iff]; simp [he]
          have HE := Lib.hid he
          clear he
          go_wp2
          go_quiet (fail)
          go_wp2
          go_ret
          refine ⟨ret_b ?_, by first | exact Dr.refl _ | exact Dr.one _ _ | exact Dr.two _ _ _⟩
          symm
          rw [decide_eq_false_iff_not]
          exact ne_of_at (List.getElem?_eq_getElem hlt) (List.getElem?_eq_getElem hlm) HE.out
      · go_wp2
        go_ret
        refine ⟨ret_b ?_, by first | exact Dr.refl _ | exact Dr.one _ _ | exact Dr.two _ _ _⟩
        symm
        rw [decide_eq_true_iff]
        exact eq_of_all HL.out (fun i hi => HS.out i (by omega))
  · have hb0 : ((l.length : Int) != (m.length : Int)) = true := by rw [bne_iff_ne]; omega
    have hb1 : ((l.length : Int) == (m.length : Int)) = false := beq_eq_false_iff_ne.mpr (by omega)
    have hb2 : (l.length == m.length) = false := beq_eq_false_iff_ne.mpr (by omega)
    have HL := Lib.hid hl
    clear hl
    go_enter Try.func70, Try.ntmps70
    go_wp2
    go_ret
    refine ⟨ret_b ?_, by first | exact Dr.refl _ | exact Dr.one _ _ | exact Dr.two _ _ _⟩
    symm
    rw [decide_eq_false_iff_not]
    intro h; exact HL.out (by rw [h])

end Go.Proofs.Ytandminldgiheaa
