/- The law 'EdgeSorts', walked. -/
import Derived.Test.YtandminldgiheaaOfW
import Derived.Test.YtandminldgiheaaRefSortW
import Derived.Test.YtandminldgiheaaNodesW
import Derived.Test.YtandminldgiheaaSortW
import Derived.Test.YtandminldgiheaaSameW
import Derived.Test.YtandminldgiheaaCheckW
namespace Go.Proofs.Ytandminldgiheaa
open Go.RowKit

set_option maxHeartbeats 2000000 in
theorem edgeSorts_c (l : List Edge) (v : Value) (w : World) (hv : RdE w v l) :
    Calls Try.prog 6 #[v] w fun e w' => e = .returned (.bool true) ∧ Below w.heap.size w w' := by
  have HV := Lib.hid hv
  obtain ⟨A0, c0, rfl, h10, h20, h30⟩ := hv
  have hn : l.length ≤ 9223372036854775807 := by omega
  clear h10 h20 h30
  by_cases h600 : 600 < l.length
  · have hi : (600 : Int) < (l.length : Int) := by omega
    go_enter Try.func6, Try.ntmps6
    go_wp2_with (go_at_call 22; refine (awake05_c _).mono ?_; rintro e w1 ⟨rfl, h1⟩)
    go_ret
    exact ⟨rfl, h1⟩
  · have hi : ¬ ((600 : Int) < (l.length : Int)) := by omega
    have hlen : l.length ≤ 600 := by omega
    go_enter Try.func6, Try.ntmps6
    have hb0 := ((Below.refl _ w).alloc (Nat.le_refl _) (.cells #[] 24))
    have HV1 := Lib.hid (HV.out.below hb0)
    clear hb0
    go_wp2_with (at_builtin; refine wpList_appendR encE_len encE_one w.heap.size w.heap.size rfl _ _ 22 24 (.agg #[.int .i64 0, .int .i64 0, .int .i64 0]) 24 rfl Try.underlying22 infoE rfl (by decide) (by decide) _ _ [] l rfl rfl (World.ownsRow_made w #[] 0 (Nat.le_refl _) (Nat.zero_le _) (by simp)) HV1.out ((Below.refl _ w).alloc (Nat.le_refl _) _) (Nat.le_refl _) (by simp) (by simp; omega) ?_; intro v1 w1 ho1 hb1 hg1 hat1)
    rw [List.nil_append] at ho1
    have HR1 := Lib.hid (Own.rd encE_len ho1)
    have HB1 := Lib.hid hb1
    clear ho1 hb1 hg1 hat1 HV1
    by_cases h0 : check l = 0
    · have hsp : ∀ w u, RdE w u l → Calls Try.prog 23 #[u] w fun e w' => ∃ v', e = .returned (.tuple #[v', .int .i64 0]) ∧ RdE w' v' (sortE l) ∧ Below w.heap.size w w' := fun w u hu =>
        (edgeSort_c l u w hu).mono fun e w' ⟨hb, h⟩ => by
          rcases h with ⟨_, v', he, ho⟩ | ⟨h, _⟩
          · exact ⟨v', he, ho.rd encE_len, hb⟩
          · exact absurd h0 h
      have hck := fun w u hu => edgeCheckAll_c l u w hu
      have hck' := fun w u hu => refCheck_c l u w hu
      rw [h0] at hck hck'
      clear h0
      go_wp2_with (go_at_call 23; refine (hsp _ _ HR1.out).mono ?_; rintro e w2 ⟨v', rfl, hs2, hb2⟩)
      have HB2 := Lib.hid (below_then HB1.out hb2)
      have HS2 := Lib.hid hs2
      clear hb2 hs2
      go_wp2_with (go_at_call 10; refine (hck' _ _ (HV.out.below HB2.out)).mono ?_; rintro e w3 ⟨rfl, hb3⟩)
      have HB3 := Lib.hid (below_then HB2.out hb3)
      have HS3 := Lib.hid (HS2.out.below hb3)
      clear hb3
      go_wp2_with (go_at_call 24; refine (hck _ _ (HV.out.below HB3.out)).mono ?_; rintro e w4 ⟨rfl, hb4⟩)
      have HB4 := Lib.hid (below_then HB3.out hb4)
      have HS4 := Lib.hid (HS3.out.below hb4)
      clear hb4
      go_wp2_with (go_at_call 26; refine (edgeNodes_c l _ _ (HV.out.below HB4.out) (by omega)).mono ?_; rintro e w5 ⟨⟨v5, rfl, ho5⟩, hb5⟩)
      have HB5 := Lib.hid (below_then HB4.out hb5)
      have HS5 := Lib.hid (HS4.out.below hb5)
      have HN5 := Lib.hid (Own.rd encI_len ho5)
      clear hb5 ho5
      go_wp2_with (go_at_call 27; refine (refNodes_c l _ _ (HV.out.below HB5.out)).mono ?_; rintro e w6 ⟨⟨v6, rfl, ho6⟩, hb6⟩)
      have HB6 := Lib.hid (below_then HB5.out hb6)
      have HS6 := Lib.hid (HS5.out.below hb6)
      have HM6 := Lib.hid (HN5.out.below hb6)
      have HN6 := Lib.hid (Own.rd encI_len ho6)
      clear hb6 ho6
      have hi6 := refInts_c (nodesOf l) (nodesOf l) _ _ _ HM6.out HN6.out
      rw [decide_eq_true rfl] at hi6
      go_wp2_with (go_at_call 25; refine hi6.mono ?_; rintro e w7 ⟨rfl, hb7⟩)
      have HB7 := Lib.hid (below_then HB6.out hb7.below)
      have HS7 := Lib.hid (HS6.out.below hb7.below)
      clear hb7
      go_wp2_with (go_at_call 16; refine (refSort_c l _ _ (HV.out.below HB7.out) (by omega)).mono ?_; rintro e w8 ⟨⟨v8, rfl, ho8⟩, hb8⟩)
      have HB8 := Lib.hid (below_then HB7.out hb8)
      have HS8 := Lib.hid (HS7.out.below hb8)
      have HR8 := Lib.hid (Own.rd encE_len ho8)
      clear hb8 ho8
      have hi8 := refSame_c (sortE l) (sortE l) _ _ _ HS8.out HR8.out
      rw [decide_eq_true rfl] at hi8
      go_wp2_with (go_at_call 13; refine hi8.mono ?_; rintro e w9 ⟨rfl, hb9⟩)
      have HB9 := Lib.hid (below_then HB8.out hb9.below)
      clear hb9
      go_wp2_with (go_at_call 22; refine (awake05_c _).mono ?_; rintro e w10 ⟨rfl, h10⟩)
      go_ret
      exact ⟨rfl, below_then HB9.out h10⟩
    · have hsp : ∀ w u, RdE w u l → Calls Try.prog 23 #[u] w fun e w' => e = .returned (.tuple #[.slice none 0 0, .int .i64 (check l)]) ∧ Below w.heap.size w w' := fun w u hu =>
        (edgeSort_c l u w hu).mono fun e w' ⟨hb, h⟩ => by
          rcases h with ⟨h, _⟩ | ⟨_, he⟩
          · exact absurd h h0
          · exact ⟨he, hb⟩
      have hck := fun w u hu => edgeCheckAll_c l u w hu
      have hck' := fun w u hu => refCheck_c l u w hu
      have hne : (check l != 0) = true := by simpa using h0
      generalize check l = c at *
      clear h0
      go_wp2_with (go_at_call 23; refine (hsp _ _ HR1.out).mono ?_; rintro e w2 ⟨rfl, hb2⟩)
      have HB2 := Lib.hid (below_then HB1.out hb2)
      clear hb2
      go_wp2_with (go_at_call 10; refine (hck' _ _ (HV.out.below HB2.out)).mono ?_; rintro e w3 ⟨rfl, hb3⟩)
      have HB3 := Lib.hid (below_then HB2.out hb3)
      clear hb3
      go_wp2_with (go_at_call 24; refine (hck _ _ (HV.out.below HB3.out)).mono ?_; rintro e w4 ⟨rfl, hb4⟩)
      have HB4 := Lib.hid (below_then HB3.out hb4)
      clear hb4
      go_wp2_with (go_at_call 26; refine (edgeNodes_c l _ _ (HV.out.below HB4.out) (by omega)).mono ?_; rintro e w5 ⟨⟨v5, rfl, ho5⟩, hb5⟩)
      have HB5 := Lib.hid (below_then HB4.out hb5)
      have HN5 := Lib.hid (Own.rd encI_len ho5)
      clear hb5 ho5
      go_wp2_with (go_at_call 27; refine (refNodes_c l _ _ (HV.out.below HB5.out)).mono ?_; rintro e w6 ⟨⟨v6, rfl, ho6⟩, hb6⟩)
      have HB6 := Lib.hid (below_then HB5.out hb6)
      have HM6 := Lib.hid (HN5.out.below hb6)
      have HN6 := Lib.hid (Own.rd encI_len ho6)
      clear hb6 ho6
      have hi6 := refInts_c (nodesOf l) (nodesOf l) _ _ _ HM6.out HN6.out
      rw [decide_eq_true rfl] at hi6
      go_wp2_with (go_at_call 25; refine hi6.mono ?_; rintro e w7 ⟨rfl, hb7⟩)
      have HB7 := Lib.hid (below_then HB6.out hb7.below)
      clear hb7
      go_wp2_with (go_at_call 22; refine (awake05_c _).mono ?_; rintro e w10 ⟨rfl, h10⟩)
      go_ret
      exact ⟨rfl, below_then HB7.out h10⟩

end Go.Proofs.Ytandminldgiheaa
