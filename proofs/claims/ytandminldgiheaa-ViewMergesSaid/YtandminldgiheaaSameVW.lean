/- Walks: are two views alike? -/
import Derived.Test.YtandminldgiheaaViewP
import Derived.Test.YtandminldgiheaaSameKW
namespace Go.Proofs.Ytandminldgiheaa
open Go.RowKit

def sameV (a b : View) : Bool := decide (a.nodes = b.nodes) && decide (a.links = b.links)
theorem sameV_iff {a b : View} : sameV a b = true ↔ a = b := by
  cases a; cases b; simp [sameV]
theorem Dr.rdV {w w' : World} (h : Dr w w') {vn vl : Value} {v : View} (hv : RdV w vn vl v) : RdV w' vn vl v := hv.below h.below

set_option maxHeartbeats 1000000 in
theorem refSameV_c (a b : View) (an al bn bl : Value) (w : World) (ha : RdV w an al a) (hb : RdV w bn bl b) :
    Calls Try.prog 31 #[.agg #[an, al], .agg #[bn, bl]] w fun e w' => e = .returned (.bool (sameV a b)) ∧ Below w.heap.size w w' := by
  have HA := Lib.hid ha
  have HB := Lib.hid hb
  obtain ⟨A0, c0, rfl, _, _, _⟩ := ha.1
  obtain ⟨A1, c1, rfl, _, _, _⟩ := ha.2
  obtain ⟨A2, c2, rfl, _, _, _⟩ := hb.1
  obtain ⟨A3, c3, rfl, _, _, _⟩ := hb.2
  have hbx := ((Below.refl w.heap.size w).alloc (Nat.le_refl _) (.cells #[.slice A0 a.nodes.length c0, .slice A1 a.links.length c1] 43)).alloc (by simp) (.cells #[.slice A2 b.nodes.length c2, .slice A3 b.links.length c3] 43)
  have HBX := Lib.hid hbx
  have h1 := fun w' hq => refInts_c a.nodes b.nodes _ _ w' (HA.out.below (w1 := w') hq).ns (HB.out.below hq).ns
  have h2 := fun w' hq => refLinks_c a.links b.links _ _ w' (HA.out.below (w1 := w') hq).ls (HB.out.below hq).ls
  have hs : sameV a b = (decide (a.nodes = b.nodes) && decide (a.links = b.links)) := rfl
  obtain ⟨p, hp⟩ : ∃ p, decide (a.nodes = b.nodes) = p := ⟨_, rfl⟩
  obtain ⟨q, hq⟩ : ∃ q, decide (a.links = b.links) = q := ⟨_, rfl⟩
  rw [hp] at h1
  rw [hq] at h2
  rw [hp, hq] at hs
  have H1 := Lib.hid h1
  have H2 := Lib.hid h2
  have HS := Lib.hid hs
  clear ha hb hbx h1 h2 hs hp hq
  cases p
  · go_enter Try.func31, Try.ntmps31
    go_wp2_with fail
    go_at_call 25; refine (H1.out _ HBX.out).mono ?_; rintro e w1 ⟨rfl, hd1⟩
    have HD1 := Lib.hid (below_then HBX.out hd1.below)
    clear hd1
    go_wp2_with fail
    go_ret
    exact ⟨ret_b HS.out.symm, HD1.out⟩
  · go_enter Try.func31, Try.ntmps31
    go_wp2_with fail
    go_at_call 25; refine (H1.out _ HBX.out).mono ?_; rintro e w1 ⟨rfl, hd1⟩
    have HD1 := Lib.hid (below_then HBX.out hd1.below)
    have k0 : w1.cell? ⟨w.heap.size, 1, none⟩ = some (.slice A1 a.links.length c1) := cell_of_below hd1.below (by go_simp)
    have k1 : w1.cell? ⟨w.heap.size + 1, 1, none⟩ = some (.slice A3 b.links.length c3) := cell_of_below hd1.below (by go_simp)
    clear hd1
    go_wp2_with fail
    go_at_call 64; refine (H2.out _ HD1.out).mono ?_; rintro e w2 ⟨rfl, hd2⟩
    have HD2 := Lib.hid (below_then HD1.out hd2.below)
    clear hd2
    go_wp2_with fail
    go_ret
    exact ⟨ret_b (by rw [HS.out]; cases q <;> rfl), HD2.out⟩

set_option maxHeartbeats 1000000 in
theorem viewSame_c (a b : View) (an al bn bl : Value) (w : World) (ha : RdV w an al a) (hb : RdV w bn bl b) :
    Calls Try.prog 35 #[.agg #[an, al], .agg #[bn, bl]] w fun e w' => e = .returned (.bool (sameV a b)) ∧ Below w.heap.size w w' := by
  have HA := Lib.hid ha
  have HB := Lib.hid hb
  obtain ⟨A0, c0, rfl, _, _, _⟩ := ha.1
  obtain ⟨A1, c1, rfl, _, _, _⟩ := ha.2
  obtain ⟨A2, c2, rfl, _, _, _⟩ := hb.1
  obtain ⟨A3, c3, rfl, _, _, _⟩ := hb.2
  have hbx := ((Below.refl w.heap.size w).alloc (Nat.le_refl _) (.cells #[.slice A0 a.nodes.length c0, .slice A1 a.links.length c1] 43)).alloc (by simp) (.cells #[.slice A2 b.nodes.length c2, .slice A3 b.links.length c3] 43)
  have HBX := Lib.hid hbx
  have h1 := fun w' hq => equalInt_c a.nodes b.nodes _ _ w' (HA.out.below (w1 := w') hq).ns (HB.out.below hq).ns
  have h2 := fun w' hq => equalK_c a.links b.links _ _ w' (HA.out.below (w1 := w') hq).ls (HB.out.below hq).ls
  have hs : sameV a b = (decide (a.nodes = b.nodes) && decide (a.links = b.links)) := rfl
  obtain ⟨p, hp⟩ : ∃ p, decide (a.nodes = b.nodes) = p := ⟨_, rfl⟩
  obtain ⟨q, hq⟩ : ∃ q, decide (a.links = b.links) = q := ⟨_, rfl⟩
  rw [hp] at h1
  rw [hq] at h2
  rw [hp, hq] at hs
  have H1 := Lib.hid h1
  have H2 := Lib.hid h2
  have HS := Lib.hid hs
  clear ha hb hbx h1 h2 hs hp hq
  cases p
  · go_enter Try.func35, Try.ntmps35
    go_wp2_with fail
    go_at_call 69; refine (H1.out _ HBX.out).mono ?_; rintro e w1 ⟨rfl, hd1⟩
    have HD1 := Lib.hid (below_then HBX.out hd1.below)
    clear hd1
    go_wp2_with fail
    go_ret
    exact ⟨ret_b HS.out.symm, HD1.out⟩
  · go_enter Try.func35, Try.ntmps35
    go_wp2_with fail
    go_at_call 69; refine (H1.out _ HBX.out).mono ?_; rintro e w1 ⟨rfl, hd1⟩
    have HD1 := Lib.hid (below_then HBX.out hd1.below)
    have k0 : w1.cell? ⟨w.heap.size, 1, none⟩ = some (.slice A1 a.links.length c1) := cell_of_below hd1.below (by go_simp)
    have k1 : w1.cell? ⟨w.heap.size + 1, 1, none⟩ = some (.slice A3 b.links.length c3) := cell_of_below hd1.below (by go_simp)
    clear hd1
    go_wp2_with fail
    go_at_call 70; refine (H2.out _ HD1.out).mono ?_; rintro e w2 ⟨rfl, hd2⟩
    have HD2 := Lib.hid (below_then HD1.out hd2.below)
    clear hd2
    go_wp2_with fail
    go_ret
    exact ⟨ret_b (by rw [HS.out]; cases q <;> rfl), HD2.out⟩

end Go.Proofs.Ytandminldgiheaa
