/- Walks: slices.IndexFunc and its kin at links, with a test that turns nothing old. -/
import Derived.Test.YtandminldgiheaaOwn
import Derived.Test.YtandminldgiheaaKnownEq
namespace Go.Proofs.Ytandminldgiheaa
open Go.RowKit Go.Shelf

set_option maxHeartbeats 1000000 in
theorem cloneK_c (l : List Known) (v : Value) (w : World) (hv : Rd encK 5 w v l) (hl : l.length ≤ 1000000) :
    Calls Try.prog 88 #[v] w fun e w' => (∃ v', e = .returned v' ∧ Own encK 5 w' w.heap.size 51 v' l) ∧ Below w.heap.size w w' := by
  have HV := Lib.hid hv
  obtain ⟨A, c, rfl, h1, h2, h3⟩ := hv
  have q22 : ∀ (w : World) (a : Option Addr) (n c n' c' : Nat), (binOp .eql 41 (.slice a n c) (.slice none n' c')).run Try.prog w = .ok (.bool a.isNone) w := fun w a n c n' c' => Lib.run_eql_slice_nil w _ _ a n c n' c' Try.underlying41
  rcases A with _ | ad
  · have hl0 : l = [] := by
      rcases List.eq_nil_or_concat l with h | ⟨_, _, h⟩
      · exact h
      · obtain ⟨b, o, hh, _⟩ := h3 (by rw [h]; simp)
        cases hh
    subst hl0
    clear h3
    go_enter Try.func88, Try.ntmps88
    go_wp2
    go_ret
    exact ⟨⟨_, rfl, Own.nil _ _ _⟩, Below.refl _ _⟩
  · have hb0 := (Below.refl w.heap.size w).alloc (Nat.le_refl _) (.cells #[] 51)
    have HV1 := Lib.hid (HV.out.below hb0)
    clear h3 hb0
    go_enter Try.func88, Try.ntmps88
    go_wp2_with (at_builtin; refine wpList_appendR encK_len encK_one w.heap.size w.heap.size rfl _ _ 41 51 (.agg #[.int .i64 0, .int .i64 0, .int .i64 0, .int .i64 0, .bool false]) 40 rfl Try.underlying41 infoK rfl (by decide) (by decide) _ _ [] l rfl rfl (World.ownsRow_made w #[] 0 (Nat.le_refl _) (Nat.zero_le _) (by simp)) HV1.out ((Below.refl _ w).alloc (Nat.le_refl _) _) (Nat.le_refl _) (by simp) (by simp; omega) ?_; intro v1 w1 ho1 hb1 hg1 hat1)
    rw [List.nil_append] at ho1
    have HO1 := Lib.hid ho1
    have HB1 := Lib.hid hb1
    clear ho1 hb1 hg1 hat1
    go_wp2_with fail
    go_ret
    exact ⟨⟨_, rfl, HO1.out⟩, HB1.out⟩

end Go.Proofs.Ytandminldgiheaa
