/- The law 'SpanLeast', walked. -/
import Derived.Test.YtandminldgiheaaRefLeastW
import Derived.Test.YtandminldgiheaaAwake7W
import Derived.Test.YtandminldgiheaaCheckW
namespace Go.Proofs.Ytandminldgiheaa
open Go.RowKit

theorem least_ok {l : List Edge} (h0 : check l = 0) (w : World) (u : Value) (hu : RdE w u l) : Calls Try.prog 12 #[u] w fun e w' => ∃ v', e = .returned (.tuple #[v', .int .i64 0]) ∧ RdE w' v' (least l) ∧ Below w.heap.size w w' :=
  (spanLeast_c l u w hu).mono fun e w' ⟨hb, h⟩ => by
    rcases h with ⟨_, v', he, ho⟩ | ⟨h, _⟩
    · exact ⟨v', he, ho.rd encE_len, hb⟩
    · exact absurd h0 h
theorem least_no {l : List Edge} (h0 : check l ≠ 0) (w : World) (u : Value) (hu : RdE w u l) : Calls Try.prog 12 #[u] w fun e w' => e = .returned (.tuple #[.slice none 0 0, .int .i64 (check l)]) ∧ Below w.heap.size w w' :=
  (spanLeast_c l u w hu).mono fun e w' ⟨hb, h⟩ => by
    rcases h with ⟨h, _⟩ | ⟨_, he⟩
    · exact absurd h h0
    · exact ⟨he, hb⟩

set_option maxHeartbeats 2000000 in
theorem spanLeastLaw_c (l : List Edge) (v : Value) (w : World) (hv : RdE w v l) :
    Calls Try.prog 5 #[v] w fun e w' => e = .returned (.bool true) ∧ Below w.heap.size w w' := by
  have HV := Lib.hid hv
  obtain ⟨A0, c0, rfl, h10, h20, h30⟩ := hv
  have hn : l.length ≤ 9223372036854775807 := by omega
  clear h10 h20 h30
  by_cases hbig : 700 < l.length
  · have hi1 : (60 : Int) < (l.length : Int) := by omega
    have hi2 : ¬ ((l.length : Int) ≤ 512) := by omega
    have hi3 : (700 : Int) < (l.length : Int) := by omega
    go_enter Try.func5, Try.ntmps5
    go_wp2_with fail
    go_at_call 11; refine (awake07_c _).mono ?_; rintro e w1 ⟨rfl, h1⟩
    go_wp2_with fail
    go_ret
    exact ⟨rfl, h1⟩
  by_cases hmid : 60 < l.length ∧ l.length ≤ 512
  · have hi1 : (60 : Int) < (l.length : Int) := by omega
    have hi2 : (l.length : Int) ≤ 512 := by omega
    go_enter Try.func5, Try.ntmps5
    go_wp2_with fail
    go_at_call 11; refine (awake07_c _).mono ?_; rintro e w1 ⟨rfl, h1⟩
    go_wp2_with fail
    go_ret
    exact ⟨rfl, h1⟩
  have hlen : l.length ≤ 700 := by omega
  have hi3 : ¬ ((700 : Int) < (l.length : Int)) := by omega
  have hcase : (60 : Int) < (l.length : Int) ∧ ¬ ((l.length : Int) ≤ 512) ∨ ¬ ((60 : Int) < (l.length : Int)) := by omega
  clear hbig hmid
  have hb0 := ((Below.refl _ w).alloc (Nat.le_refl _) (.cells #[] 24))
  have HV1 := Lib.hid (HV.out.below hb0)
  clear hb0
  rcases hcase with ⟨hi1, hi2⟩ | hi1
  all_goals
    go_enter Try.func5, Try.ntmps5
    go_wp2_with (at_builtin; refine wpList_appendR encE_len encE_one w.heap.size w.heap.size rfl _ _ 22 24 (.agg #[.int .i64 0, .int .i64 0, .int .i64 0]) 24 rfl Try.underlying22 infoE rfl (by decide) (by decide) _ _ [] l rfl rfl (World.ownsRow_made w #[] 0 (Nat.le_refl _) (Nat.zero_le _) (by simp)) HV1.out ((Below.refl _ w).alloc (Nat.le_refl _) _) (Nat.le_refl _) (by simp) (by simp; omega) ?_; intro v1 w1 ho1 hb1 hg1 hat1)
    rw [List.nil_append] at ho1
    have HR1 := Lib.hid (Own.rd encE_len ho1)
    have HB1 := Lib.hid hb1
    clear ho1 hb1 hg1 hat1
    by_cases h0 : check l = 0
    · have hck := fun w u hu => refCheck_c l u w hu
      rw [h0] at hck
      have H0 := Lib.hid h0
      have hw : weightAns l = wsum l := by rw [weightAns, if_pos h0]
      have hF := fun u w hu => spanForest_c l u w hu
      rw [h0, decide_eq_true rfl, Bool.true_and] at hF
      have hW := fun u w hu => spanWeight_c l u w hu
      rw [hw] at hW
      have hm := may_of_check h0
      have HF := Lib.hid hF
      have HW := Lib.hid hW
      have HM := Lib.hid hm
      obtain ⟨fo, hfo⟩ : ∃ fo, forest l = fo := ⟨_, rfl⟩
      have HFO := Lib.hid hfo
      obtain ⟨ws, hws⟩ : ∃ ws, wsum l = ws := ⟨_, rfl⟩
      have HWS := Lib.hid hws
      clear h0 hF hW hm hw hfo hws
      go_wp2_with fail
      go_at_call 12; refine (least_ok H0.out _ _ HR1.out).mono ?_; rintro e w2 ⟨v2, rfl, hr2, hb2⟩
      have HB2 := Lib.hid (below_then HB1.out hb2)
      have HR2 := Lib.hid hr2
      clear hr2 hb2
      go_wp2_with fail
      go_at_call 10; refine (hck _ _ (HV.out.below HB2.out)).mono ?_; rintro e w3 ⟨rfl, hb3⟩
      have HB3 := Lib.hid (below_then HB2.out hb3)
      have HR3 := Lib.hid (HR2.out.below hb3)
      clear hb3
      go_wp2_with fail
      go_at_call 19; refine (refLeast_c l _ _ (HV.out.below HB3.out) HM.out (by omega)).mono ?_; rintro e w4 ⟨⟨v4, rfl, ho4⟩, hb4⟩
      have HB4 := Lib.hid (below_then HB3.out hb4)
      have hs4 := refSame_c (least l) (least l) _ _ _ (HR3.out.below hb4) (ho4.rd encE_len)
      rw [decide_eq_true rfl] at hs4
      have HS4 := Lib.hid hs4
      clear hb4 ho4 hs4
      go_wp2_with fail
      go_at_call 13; refine HS4.out.mono ?_; rintro e w5 ⟨rfl, hd5⟩
      have HB5 := Lib.hid (below_then HB4.out hd5.below)
      clear hd5
      go_wp2_with fail
      go_at_call 17; refine (HF.out _ _ (HV.out.below HB5.out)).mono ?_; rintro e w6 ⟨rfl, hb6⟩
      have HB6 := Lib.hid (below_then HB5.out hb6)
      clear hb6
      rw [HFO.out]
      go_wp2_with fail
      go_at_call 20; refine (refForest_c l _ _ (HV.out.below HB6.out) HM.out).mono ?_; rintro e w7 ⟨rfl, hb7⟩
      have HB7 := Lib.hid (below_then HB6.out hb7)
      clear hb7
      rw [HFO.out]
      have hfe : (fo == fo) = true := by simp
      go_wp2_with fail
      go_at_call 18; refine (HW.out _ _ (HV.out.below HB7.out)).mono ?_; rintro e w8 ⟨rfl, hb8⟩
      have HB8 := Lib.hid (below_then HB7.out hb8)
      clear hb8
      rw [HWS.out]
      go_wp2_with fail
      go_at_call 21; refine (refWeight_c l _ _ (HV.out.below HB8.out)).mono ?_; rintro e w9 ⟨rfl, hb9⟩
      have HB9 := Lib.hid (below_then HB8.out hb9)
      clear hb9
      rw [HWS.out]
      go_wp2_with fail
      go_at_call 11; refine (awake07_c _).mono ?_; rintro e w10 ⟨rfl, h10⟩
      go_wp2_with fail
      go_ret
      exact ⟨rfl, below_then HB9.out h10⟩
    · have hck := fun w u hu => refCheck_c l u w hu
      have hls := fun w u hu => least_no h0 w u hu
      have hF := fun u w hu => spanForest_c l u w hu
      rw [decide_eq_false h0, Bool.false_and] at hF
      have hW := fun u w hu => spanWeight_c l u w hu
      rw [show weightAns l = 0 by rw [weightAns, if_neg h0]] at hW
      have hne : (check l != 0) = true := by simpa using h0
      obtain ⟨c, hcc⟩ : ∃ c, check l = c := ⟨_, rfl⟩
      rw [hcc] at hck hls hne
      have HCK := Lib.hid hck
      have HLS := Lib.hid hls
      have HF := Lib.hid hF
      have HW := Lib.hid hW
      clear h0 hck hls hF hW hcc
      go_wp2_with fail
      go_at_call 12; refine (HLS.out _ _ HR1.out).mono ?_; rintro e w2 ⟨rfl, hb2⟩
      have HB2 := Lib.hid (below_then HB1.out hb2)
      clear hb2
      go_wp2_with fail
      go_at_call 10; refine (HCK.out _ _ (HV.out.below HB2.out)).mono ?_; rintro e w3 ⟨rfl, hb3⟩
      have HB3 := Lib.hid (below_then HB2.out hb3)
      clear hb3
      go_wp2_with fail
      go_at_call 17; refine (HF.out _ _ (HV.out.below HB3.out)).mono ?_; rintro e w6 ⟨rfl, hb6⟩
      have HB6 := Lib.hid (below_then HB3.out hb6)
      clear hb6
      go_wp2_with fail
      go_at_call 18; refine (HW.out _ _ (HV.out.below HB6.out)).mono ?_; rintro e w8 ⟨rfl, hb8⟩
      have HB8 := Lib.hid (below_then HB6.out hb8)
      clear hb8
      go_wp2_with fail
      go_at_call 11; refine (awake07_c _).mono ?_; rintro e w10 ⟨rfl, h10⟩
      go_wp2_with fail
      go_ret
      exact ⟨rfl, below_then HB8.out h10⟩

end Go.Proofs.Ytandminldgiheaa
