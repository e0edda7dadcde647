/- Walks: which views may be (the program). -/
import Derived.Test.YtandminldgiheaaViewP
import Derived.Test.YtandminldgiheaaEdgeW
namespace Go.Proofs.Ytandminldgiheaa
open Go.RowKit
attribute [local go_sem ↓] Go.wp_at_zero Go.wp_at_succ

set_option maxHeartbeats 1000000 in
/-- cmp.Or over a block of two numbers. -/
theorem cmpOr2_c (x y : Int) (b : Nat) (w : World) (hx : w.cell? ⟨b, 0, none⟩ = some (.int .i64 x)) (hy : w.cell? ⟨b, 1, none⟩ = some (.int .i64 y)) :
    Calls Try.prog 84 #[.slice (some ⟨b, 0, none⟩) 2 2] w fun e w' => e = .returned (.int .i64 (orI x y)) ∧ w = w' := by
  go_enter Try.func84, Try.ntmps84
  go_wp2
  refine wp_loop_rounds 3 ?_
  iterate 3 (all_goals (try rw [rounds_succ]); go_wp2)
  all_goals (go_ret; refine ⟨ret_i ?_, rfl⟩; unfold orI; simp_all)

set_option maxHeartbeats 1000000 in
theorem viewOrder_c (x y : Known) (w : World) :
    Calls Try.prog 63 #[.agg #[.int .i64 x.node, .int .i64 x.peer, .int .i64 x.w, .int .i64 x.session, .bool x.marked], .agg #[.int .i64 y.node, .int .i64 y.peer, .int .i64 y.w, .int .i64 y.session, .bool y.marked]] w fun e w' => e = .returned (.int .i64 (cmpK x y)) ∧
      (((w.alloc (.cells #[.int .i64 x.node, .int .i64 x.peer, .int .i64 x.w, .int .i64 x.session, .bool x.marked] 51)).alloc (.cells #[.int .i64 y.node, .int .i64 y.peer, .int .i64 y.w, .int .i64 y.session, .bool y.marked] 51)).alloc (.cells #[.int .i64 (cmpI x.node y.node), .int .i64 (cmpI x.peer y.peer)] 3)).drew = w' := by
  go_enter Try.func63, Try.ntmps63
  go_wp2_with fail
  go_region_held3 (fun w' => w'.cell? ⟨w.heap.size, 0, none⟩ = some (.int .i64 x.node) ∧ w'.cell? ⟨w.heap.size, 1, none⟩ = some (.int .i64 x.peer) ∧ w'.cell? ⟨w.heap.size + 1, 0, none⟩ = some (.int .i64 y.node) ∧ w'.cell? ⟨w.heap.size + 1, 1, none⟩ = some (.int .i64 y.peer)) (go_keep)
    (first | (go_at_call 85; refine (cmpCompare_c _ _ _).mono ?_; rintro e w' ⟨rfl, rfl⟩) | (go_at_call 84; refine (cmpOr2_c (cmpI x.node y.node) (cmpI x.peer y.peer) (w.heap.size + 2) _ ?_ ?_).mono ?_; (go_simp); (go_simp); rintro e w' ⟨rfl, rfl⟩))
  all_goals go_wp2
  go_ret
  exact ⟨rfl, rfl⟩
theorem viewOrder_b (x y : Known) (w : World) :
    Calls Try.prog 63 #[.agg #[.int .i64 x.node, .int .i64 x.peer, .int .i64 x.w, .int .i64 x.session, .bool x.marked], .agg #[.int .i64 y.node, .int .i64 y.peer, .int .i64 y.w, .int .i64 y.session, .bool y.marked]] w fun e w' => e = .returned (.int .i64 (cmpK x y)) ∧ Below w.heap.size w w' :=
  (viewOrder_c x y w).mono fun e w' ⟨he, hw⟩ => ⟨he, by subst hw; exact below_drew ((((Below.refl _ w).alloc (Nat.le_refl _) _).alloc (by simp) _).alloc (by simp; omega) _)⟩

/-- Where a number is first among some; -1: nowhere. -/
def indexI (l : List Int) (n : Int) : Int := match l.findIdx? (· == n) with | some i => i | none => -1
theorem indexI_at {l : List Int} {n : Int} {k : Nat} (hk : k < l.length) (he : l[k] = n) (hb : ∀ i x, i < k → l[i]? = some x → x ≠ n) : indexI l n = k := by
  have : l.findIdx? (· == n) = some k := by
    rw [List.findIdx?_eq_some_iff_getElem]
    refine ⟨hk, by simp [he], fun j hj => ?_⟩
    simpa using hb j _ hj (List.getElem?_eq_getElem (by omega))
  unfold indexI; rw [this]
theorem indexI_no {l : List Int} {n : Int} (hb : ∀ i x, i < l.length → l[i]? = some x → x ≠ n) : indexI l n = -1 := by
  have : l.findIdx? (· == n) = none := by
    rw [List.findIdx?_eq_none_iff]
    intro x hx
    obtain ⟨i, hi, rfl⟩ := List.getElem_of_mem hx
    simpa using hb i _ hi (List.getElem?_eq_getElem hi)
  unfold indexI; rw [this]
theorem indexI_mem (l : List Int) (n : Int) : 0 ≤ indexI l n ↔ n ∈ l := by
  unfold indexI
  cases h : l.findIdx? (· == n) with
  | some i =>
    rw [List.findIdx?_eq_some_iff_getElem] at h
    obtain ⟨hi, he, _⟩ := h
    simp at he
    exact ⟨fun _ => he ▸ List.getElem_mem hi, fun _ => by simp⟩
  | none =>
    rw [List.findIdx?_eq_none_iff] at h
    simp at h
    simp
    exact fun hm => h n hm rfl

set_option maxHeartbeats 1000000 in
theorem sliceIndexI_c (l : List Int) (n : Int) (v : Value) (w : World) (hv : RdI w v l) :
    Calls Try.prog 93 #[v, .int .i64 n] w fun e w' => e = .returned (.int .i64 (indexI l n)) ∧ w = w' := by
  obtain ⟨A0, c0, rfl, h10, h20, h30⟩ := hv
  have hn : l.length ≤ 9223372036854775807 := by omega
  clear h10 h20
  go_enter Try.func93, Try.ntmps93
  go_wp2
  go_loop [5, 8] (fun _ i => ∃ k : Nat, k ≤ l.length ∧ i = .int .i64 k ∧ (∀ i x, i < k → l[i]? = some x → x ≠ n)) (fun _ i => l.length - (intOf i).toNat)
  case atStart => exact ⟨0, by omega, rfl, by omega⟩
  case round =>
    obtain ⟨k, hk, rfl, hs⟩ := hrel
    have HS := Lib.hid hs
    clear hs
    by_cases hlt : k < l.length
    · obtain ⟨b0, o0, rfl, _, g0⟩ := h30 (by intro h; subst h; simp at hlt)
      have x0 := cells_I g0 k hlt
      clear g0 h30
      have hi0 : (k : Int) < (l.length : Int) := by omega
      by_cases he : l[k] = n
      · have hd : (n == l[k]) = true := by simp [he]
        have HE := Lib.hid he
        clear he
        go_wp2
        go_ret
        exact ⟨ret_i (indexI_at hlt HE.out HS.out).symm, rfl⟩
      · have hd : (n == l[k]) = false := by simpa using fun h => he h.symm
        have HE := Lib.hid he
        clear he
        go_wp2
        go_round
        case rel => exact ⟨k + 1, by omega, by go_num, fun i x hi hx => by
          by_cases h : i < k
          · exact HS.out i x h hx
          · obtain rfl : i = k := by omega
            rw [List.getElem?_eq_getElem hlt] at hx
            obtain rfl := Option.some.inj hx
            exact HE.out⟩
        case measure => (simp [intOf]) <;> omega
    · go_wp2
      go_ret
      exact ⟨ret_i (indexI_no (fun i x hi hx => HS.out i x (by omega) hx)).symm, rfl⟩

set_option maxHeartbeats 1000000 in
theorem containsI_c (l : List Int) (n : Int) (v : Value) (w : World) (hv : RdI w v l) :
    Calls Try.prog 66 #[v, .int .i64 n] w fun e w' => e = .returned (.bool (decide (n ∈ l))) ∧ w = w' := by
  have hm := indexI_mem l n
  have hc := sliceIndexI_c l n v w hv
  obtain ⟨i, hi⟩ : ∃ i, indexI l n = i := ⟨_, rfl⟩
  rw [hi] at hm hc
  have HC := Lib.hid hc
  have HM := Lib.hid hm
  clear hc hm hi hv
  go_enter Try.func66, Try.ntmps66
  go_wp2_with (go_at_call 93; refine HC.out.mono ?_; rintro e w1 ⟨rfl, rfl⟩)
  go_ret
  refine ⟨ret_b ?_, rfl⟩
  rw [decide_eq_decide]
  exact HM.out

end Go.Proofs.Ytandminldgiheaa
