/- Walks: all ends of edges. -/
import Derived.Test.YtandminldgiheaaOwn
import Derived.Test.YtandminldgiheaaShelf
import Derived.Test.YtandminldgiheaaEdgeW
import Derived.Test.YtandminldgiheaaNodesP
import Derived.Test.YtandminldgiheaaSortI
namespace Go.Proofs.Ytandminldgiheaa
open Go.RowKit

theorem infoI : (Try.prog.info? 3).map (fun i => (i.zero, i.size, i.bytes)) = some (some (.int .i64 0), 1, 8) := by kernel_rfl

set_option maxHeartbeats 1000000 in
theorem refNodes_c (l : List Edge) (v : Value) (w : World) (hv : RdE w v l) :
    Calls Try.prog 27 #[v] w fun e w' => (∃ v', e = .returned v' ∧ OwnI w' w.heap.size 3 v' (nodesOf l)) ∧ Below w.heap.size w w' := by
  obtain ⟨A0, c0, rfl, h10, h20, h30⟩ := hv
  have hn : l.length ≤ 9223372036854775807 := by omega
  clear h10 h20
  go_enter Try.func27, Try.ntmps27
  go_wp2_with fail
  go_loopw [3, 4] (fun s3 s4 wr => ∃ n : Nat, n ≤ 64 ∧ s4 = .int .i64 (↑n + 1) ∧ OwnI wr w.heap.size 3 s3 (nodesTo l n) ∧ Below w.heap.size w wr) (fun _ s4 _ => 66 - (intOf s4).toNat)
  case atStart => exact ⟨0, by omega, rfl, by simpa [Own, nodesTo] using World.ownsRow_made w #[] 0 (Nat.le_refl _) (Nat.zero_le _) (by simp), (Below.refl _ _).alloc (Nat.le_refl _) _⟩
  case round =>
    obtain ⟨n, hn64, rfl, ho, hb⟩ := hrel
    have HO := Lib.hid ho
    have HB := Lib.hid hb
    clear ho
    by_cases hlt : n < 64
    · have hi0 : (n : Int) + 1 ≤ 64 := by omega
      go_wp2_with fail
      go_loop [5, 6] (fun s5 s6 => ∃ k : Nat, k ≤ l.length ∧ s6 = .int .i64 k ∧ s5 = .bool (isEnd (l.take k) (↑n + 1))) (fun _ s6 => l.length - (intOf s6).toNat)
      case atStart => exact ⟨0, by omega, rfl, rfl⟩
      case round =>
        obtain ⟨k, hk, rfl, rfl⟩ := hrel
        by_cases hkl : k < l.length
        · obtain ⟨b0, o0, rfl, _, g0⟩ := h30 (by intro h; subst h; simp at hkl)
          obtain ⟨x0, x1, x2⟩ := cells_E g0 k hkl
          replace x0 := cell_of_below hb x0
          replace x1 := cell_of_below hb x1
          clear x2 g0 h30 hb
          have hi1 : (k : Int) < (l.length : Int) := by omega
          have hs := isEnd_snoc (l.take k) l[k] (↑n + 1)
          rw [← take_succ_at hkl] at hs
          have HS := Lib.hid hs
          clear hs
          obtain ⟨r, hr⟩ : ∃ r, isEnd (l.take k) (↑n + 1) = r := ⟨_, rfl⟩
          rw [hr]
          have HR := Lib.hid hr
          clear hr
          obtain ⟨ra, hra⟩ : ∃ r, (l[k].a == (n : Int) + 1) = r := ⟨_, rfl⟩
          obtain ⟨rb, hrb⟩ : ∃ r, (l[k].b == (n : Int) + 1) = r := ⟨_, rfl⟩
          have HA := Lib.hid hra
          have HBb := Lib.hid hrb
          cases r <;> cases ra <;> cases rb
          all_goals
            go_wp2
            go_round
            case rel => exact ⟨k + 1, by omega, by go_num, by rw [HS.out, HR.out, HA.out, HBb.out]; rfl⟩
            case measure => simp [intOf]; omega
        · have hk' : k = l.length := by omega
          subst hk'
          rw [List.take_length]
          have hsz := HB.out.size
          have hlen := nodesTo_length l n
          have hnx : nodesTo l (n + 1) = nodesTo l n ++ (if isEnd l (↑n + 1) then [(↑n : Int) + 1] else []) := rfl
          have HNX := Lib.hid hnx
          clear hnx hb h30
          obtain ⟨r, hr⟩ : ∃ r, isEnd l (↑n + 1) = r := ⟨_, rfl⟩
          rw [hr]
          have HR := Lib.hid hr
          clear hr
          cases r
          · go_wp2
            go_roundw
            case rel => exact ⟨n + 1, by omega, by go_num, by rw [HNX.out, HR.out]; simpa using HO.out, HB.out⟩
            case measure => simp [intOf]; omega
          · go_wp2_with (at_builtin; refine wpList_append1 encI_len encI_one w.heap.size w.heap.size rfl _ _ 39 (.int .i64 0) 8 rfl Try.underlying39 infoI rfl (by decide) (by decide) _ (nodesTo l n) (↑n + 1) rfl rfl _ rfl (by simp) HO.out HB.out (Nat.le_refl _) hsz (by omega) ?_; intro v1 w1 ho1 hb1 hg1 hat1)
            have HO1 := Lib.hid ho1
            have HB1 := Lib.hid hb1
            clear ho1 hb1 hg1 hat1
            go_wp2
            go_roundw
            case rel => exact ⟨n + 1, by omega, by go_num, by rw [HNX.out, HR.out]; exact HO1.out, HB1.out⟩
            case measure => simp [intOf]; omega
    · have hn' : n = 64 := by omega
      subst hn'
      go_wp2
      go_ret
      exact ⟨⟨_, rfl, HO.out⟩, HB.out⟩

set_option maxHeartbeats 2000000 in
theorem edgeNodes_c (l : List Edge) (v : Value) (w : World) (hv : RdE w v l) (hlen : l.length ≤ 10000) :
    Calls Try.prog 26 #[v] w fun e w' => (∃ v', e = .returned v' ∧ OwnI w' w.heap.size 3 v' (nodesOf l)) ∧ Below w.heap.size w w' := by
  obtain ⟨A0, c0, rfl, h10, h20, h30⟩ := hv
  clear h10 h20
  go_enter Try.func26, Try.ntmps26
  go_wp2_with fail
  go_loopw [3, 10] (fun s3 s10 wr => ∃ k : Nat, k ≤ l.length ∧ s10 = .int .i64 k ∧ OwnI wr w.heap.size 3 s3 ((l.take k).flatMap endsOf) ∧ Below w.heap.size w wr) (fun _ s10 _ => l.length - (intOf s10).toNat)
  case atStart => exact ⟨0, by omega, rfl, Own.nil _ _ _, Below.refl _ _⟩
  case round =>
    obtain ⟨k, hk, rfl, ho, hb⟩ := hrel
    have HO := Lib.hid ho
    have HB := Lib.hid hb
    clear ho
    by_cases hlt : k < l.length
    · obtain ⟨b0, o0, rfl, _, g0⟩ := h30 (by intro h; subst h; simp at hlt)
      obtain ⟨x0, x1, x2⟩ := cells_E g0 k hlt
      replace x0 := cell_of_below hb x0
      replace x1 := cell_of_below hb x1
      replace x2 := cell_of_below hb x2
      clear g0 h30 hb
      have hi1 : (k : Int) < (l.length : Int) := by omega
      have hel := ends_length (l.take k)
      have hlk : (l.take k).length ≤ k := List.length_take_le _ _
      have hnx := flatMap_take_succ endsOf hlt
      have HNX := Lib.hid hnx
      clear hnx
      have hsz := HB.out.size
      have hea : endsOf l[k] = (if node l[k].a then [l[k].a] else []) ++ (if node l[k].b then [l[k].b] else []) := rfl
      have HEA := Lib.hid hea
      clear hea
      obtain ⟨ra, hra⟩ : ∃ r, node l[k].a = r := ⟨_, rfl⟩
      obtain ⟨rb, hrb⟩ : ∃ r, node l[k].b = r := ⟨_, rfl⟩
      have HRA := Lib.hid hra
      have HRB := Lib.hid hrb
      have hb1 := (HB.out.alloc hsz (.cells #[.int .i64 l[k].a, .int .i64 l[k].b, .int .i64 l[k].w] 24)).alloc (by simp; omega) (.cells #[.int .i64 l[k].a, .int .i64 l[k].b] 3)
      have ho1 := (HO.out.alloc (.cells #[.int .i64 l[k].a, .int .i64 l[k].b, .int .i64 l[k].w] 24)).alloc (.cells #[.int .i64 l[k].a, .int .i64 l[k].b] 3)
      have HB1 := Lib.hid hb1
      have HO1 := Lib.hid ho1
      clear hb1 ho1
      cases ra <;> cases rb
      · go_wp2_with fail
        refine wp_loop_rounds 3 ?_
        iterate 3 (all_goals (try rw [rounds_succ]); go_wp2_with (go_at_call 51; refine (edgeNode_c _ _).mono ?_; rintro e w' ⟨rfl, rfl⟩))
        go_roundw
        case rel => exact ⟨k + 1, by omega, by go_num, by rw [HNX.out, HEA.out, HRA.out, HRB.out]; simpa using HO1.out, HB1.out⟩
        case measure => simp [intOf]; omega
      · go_wp2_with fail
        refine wp_loop_rounds 3 ?_
        rw [rounds_succ]
        go_wp2_with (go_at_call 51; refine (edgeNode_c _ _).mono ?_; rintro e w' ⟨rfl, rfl⟩)
        rw [rounds_succ]
        go_wp2_with (first | (go_at_call 51; refine (edgeNode_c _ _).mono ?_; rintro e w' ⟨rfl, rfl⟩) | (at_builtin; refine wpList_append1 encI_len encI_one w.heap.size w.heap.size rfl _ _ 39 (.int .i64 0) 8 rfl Try.underlying39 infoI rfl (by decide) (by decide) _ ((l.take k).flatMap endsOf) l[k].b rfl rfl _ rfl (by simp) HO1.out HB1.out (Nat.le_refl _) (by simp; omega) (by first | omega | (simp; omega)) ?_; intro v2 w2 ho2 hb2 hg2 hat2))
        have HO2 := Lib.hid ho2
        have HB2 := Lib.hid hb2
        have hsz2 := hb2.size
        clear ho2 hb2 hg2 hat2
        rw [rounds_succ]
        go_wp2_with fail
        go_roundw
        case rel => exact ⟨k + 1, by omega, by go_num, by rw [HNX.out, HEA.out, HRA.out, HRB.out]; simpa using HO2.out, HB2.out⟩
        case measure => simp [intOf]; omega
      · go_wp2_with fail
        refine wp_loop_rounds 3 ?_
        rw [rounds_succ]
        go_wp2_with (first | (go_at_call 51; refine (edgeNode_c _ _).mono ?_; rintro e w' ⟨rfl, rfl⟩) | (at_builtin; refine wpList_append1 encI_len encI_one w.heap.size w.heap.size rfl _ _ 39 (.int .i64 0) 8 rfl Try.underlying39 infoI rfl (by decide) (by decide) _ ((l.take k).flatMap endsOf) l[k].a rfl rfl _ rfl (by simp) HO1.out HB1.out (Nat.le_refl _) (by simp; omega) (by first | omega | (simp; omega)) ?_; intro v2 w2 ho2 hb2 hg2 hat2))
        have HO2 := Lib.hid ho2
        have HB2 := Lib.hid hb2
        have hsz2 := hb2.size
        have hc2 : w2.cell? ⟨wr.heap.size + 1, 1, none⟩ = some (.int .i64 l[k].b) := hg2.cell (by simp [go_sem]) (fun h => by have := (HO.out.lt _ h.symm).2; simp at this; omega)
        clear ho2 hb2 hg2 hat2
        rw [rounds_succ]
        go_wp2_with (go_at_call 51; refine (edgeNode_c _ _).mono ?_; rintro e w' ⟨rfl, rfl⟩)
        rw [rounds_succ]
        go_wp2_with fail
        go_roundw
        case rel => exact ⟨k + 1, by omega, by go_num, by rw [HNX.out, HEA.out, HRA.out, HRB.out]; simpa using HO2.out, HB2.out⟩
        case measure => simp [intOf]; omega
      · go_wp2_with fail
        refine wp_loop_rounds 3 ?_
        rw [rounds_succ]
        go_wp2_with (first | (go_at_call 51; refine (edgeNode_c _ _).mono ?_; rintro e w' ⟨rfl, rfl⟩) | (at_builtin; refine wpList_append1 encI_len encI_one w.heap.size w.heap.size rfl _ _ 39 (.int .i64 0) 8 rfl Try.underlying39 infoI rfl (by decide) (by decide) _ ((l.take k).flatMap endsOf) l[k].a rfl rfl _ rfl (by simp) HO1.out HB1.out (Nat.le_refl _) (by simp; omega) (by first | omega | (simp; omega)) ?_; intro v2 w2 ho2 hb2 hg2 hat2))
        have HO2 := Lib.hid ho2
        have HB2 := Lib.hid hb2
        have hsz2 := hb2.size
        have hc2 : w2.cell? ⟨wr.heap.size + 1, 1, none⟩ = some (.int .i64 l[k].b) := hg2.cell (by simp [go_sem]) (fun h => by have := (HO.out.lt _ h.symm).2; simp at this; omega)
        clear ho2 hb2 hg2 hat2
        rw [rounds_succ]
        go_wp2_with (first | (go_at_call 51; refine (edgeNode_c _ _).mono ?_; rintro e w' ⟨rfl, rfl⟩) | (at_builtin; refine wpList_append1 encI_len encI_one w.heap.size w.heap.size rfl _ _ 39 (.int .i64 0) 8 rfl Try.underlying39 infoI rfl (by decide) (by decide) _ (((l.take k).flatMap endsOf) ++ [l[k].a]) l[k].b rfl rfl _ rfl (by simp) HO2.out HB2.out (Nat.le_refl _) hsz2 (by rw [List.length_append, List.length_singleton]; omega) ?_; intro v3 w3 ho3 hb3 hg3 hat3))
        have HO3 := Lib.hid ho3
        have HB3 := Lib.hid hb3
        have hsz3 := hb3.size
        clear ho3 hb3 hg3 hat3
        rw [rounds_succ]
        go_wp2_with fail
        go_roundw
        case rel => exact ⟨k + 1, by omega, by go_num, by rw [HNX.out, HEA.out, HRA.out, HRB.out]; simpa using HO3.out, HB3.out⟩
        case measure => simp [intOf]; omega
    · have hk' : k = l.length := by omega
      subst hk'
      have hel := ends_length l
      have ho' := HO.out
      rw [List.take_length] at ho'
      have HO' := Lib.hid ho'
      have hne := nodes_eq l
      have HNE := Lib.hid hne
      clear ho' hne hb
      go_wp2_with (go_at_call 57; refine (sortI_c (l.flatMap endsOf) _ _ w.heap.size HO'.out (by omega)).mono ?_; rintro e w2 ⟨rfl, ho2, hb2⟩)
      have HO2 := Lib.hid ho2
      have hb2' := hb2 w.heap.size w (Nat.le_refl _) HB.out.size HB.out
      have HB2 := Lib.hid hb2'
      have hlen2 := sortI_length (l.flatMap endsOf)
      have HL2 := Lib.hid hlen2
      clear ho2 hb2 hb2' hlen2
      go_wp2_with (go_at_call 58; refine (compactI_c (sortI (l.flatMap endsOf)) _ _ w.heap.size HO2.out (by rw [HL2.out]; omega)).mono ?_; rintro e w3 ⟨⟨v3, rfl, ho3⟩, hb3⟩)
      go_ret
      have hb3' := hb3 w.heap.size w (Nat.le_refl _) HB2.out.size HB2.out
      refine ⟨⟨_, rfl, ?_⟩, hb3'⟩
      rw [← HNE.out]; exact ho3

end Go.Proofs.Ytandminldgiheaa
