/- Walk: view.Outer. -/
import Derived.Test.YtandminldgiheaaInnerP
import Derived.Test.YtandminldgiheaaDelK
import Derived.Test.YtandminldgiheaaCloneK
import Derived.Test.YtandminldgiheaaViewCheckW
import Derived.Test.YtandminldgiheaaSortKW
namespace Go.Proofs.Ytandminldgiheaa
open Go.RowKit Go.Shelf
attribute [local go_sem ↓] Go.wp_at_zero Go.wp_at_succ

def OuterPost (v : View) (w : World) (e : Ending) (w' : World) : Prop :=
  Below w.heap.size w w' ∧ (mayV v = false → e = .returned (.tuple #[.slice none 0 0, .int .i64 1])) ∧ (mayV v = true → ∃ u, e = .returned (.tuple #[u, .int .i64 0]) ∧ OwnK w' w.heap.size 51 u (outerV v))

set_option maxHeartbeats 1000000 in
theorem outerTest (ns : List Int) (A0 : Option Addr) (c0 BX : Nat) (vl : Value) (W : World) (hk : W.heap[BX]? = some (.cells #[.slice A0 ns.length c0, vl] 43 (0, 0))) (hn : RdI W (.slice A0 ns.length c0) ns) :
    TestK 89 #[.pointer (some ⟨BX, 0, none⟩)] (fun w1 => Below W.heap.size W w1) (fun k => decide (k.peer ∈ ns)) where
  enters := enters_of Try.func89 (by kernel_rfl) rfl
  keep _ _ h hb := below_then h hb
  call x w hR := by
    have HN := Lib.hid (hn.below (hR.alloc hR.size (.cells #[.int .i64 x.node, .int .i64 x.peer, .int .i64 x.w, .int .i64 x.session, .bool x.marked] 51)))
    have x0 := cell_alloc (cell_in (block_of_below hk hR) 0 _ rfl) (.cells #[.int .i64 x.node, .int .i64 x.peer, .int .i64 x.w, .int .i64 x.session, .bool x.marked] 51)
    clear hk hn hR
    show Calls Try.prog 89 #[.agg #[.int .i64 x.node, .int .i64 x.peer, .int .i64 x.w, .int .i64 x.session, .bool x.marked], .pointer (some ⟨BX, 0, none⟩)] w _
    go_enter Try.func89, Try.ntmps89
    go_wp2_with fail
    go_at_call 66; refine (containsI_c ns x.peer _ _ HN.out).mono ?_; rintro e w1 ⟨rfl, rfl⟩
    go_wp2_with fail
    go_ret
    exact ⟨rfl, (Below.refl _ w).alloc (Nat.le_refl _) _⟩

set_option maxRecDepth 100000 in
set_option maxHeartbeats 4000000 in
theorem viewOuter_c (a : View) (an al : Value) (w : World) (ha : RdV w an al a) :
    Calls Try.prog 59 #[.agg #[an, al]] w (OuterPost a w) := by
  have HA := Lib.hid ha
  obtain ⟨A0, c0, rfl, _, _, _⟩ := ha.1
  obtain ⟨A1, c1, rfl, _, _, _⟩ := ha.2
  clear ha
  obtain ⟨W, e1⟩ : ∃ W, w.alloc (.cells #[.slice A0 a.nodes.length c0, .slice A1 a.links.length c1] 43) = W := ⟨_, rfl⟩
  have f1 := alloc_facts e1
  obtain ⟨BX, hBX⟩ : ∃ BX, w.heap.size = BX := ⟨_, rfl⟩
  have k0 := f1.1
  rw [hBX] at k0
  have HB := Lib.hid f1.2.2.1
  have HK := Lib.hid k0
  have HBX := Lib.hid hBX
  have x0 := cell_in k0 0 _ rfl
  have x1 := cell_in k0 1 _ rfl
  clear f1 k0
  have hck := viewCheck_c a _ _ W (HA.out.below HB.out)
  cases hm : mayV a
  · rw [hm] at hck
    have HCK := Lib.hid hck
    have HM := Lib.hid hm
    clear hck hm
    go_enter Try.func59, Try.ntmps59
    go_wp2_with fail
    go_at_call 33; refine HCK.out.mono ?_; rintro e w1 ⟨rfl, hb1⟩
    go_wp2_with fail
    go_ret2
    exact ⟨below_then HB.out hb1, fun _ => rfl, fun h => by rw [HM.out] at h; cases h⟩
  · rw [hm, show eArg true = 0 from rfl] at hck
    have HCK := Lib.hid hck
    have HM := Lib.hid hm
    have hsm := (may_iff.1 hm).small.2
    have hll : a.links.length ≤ 1000000 := by omega
    have ht := outerTest a.nodes A0 c0 BX _ W HK.out (HA.out.below HB.out).ns
    have HT := Lib.hid ht
    have hmf : ∀ (fn : Fn) (first cap : Array Value) (w : World), (Instr.makeFunc fn first cap).run Try.prog w = .ok (.func fn first cap) w := fun _ _ _ _ => rfl
    clear hck hm hsm ht
    go_enter Try.func59, Try.ntmps59
    go_wp2_with fail
    go_at_call 33; refine HCK.out.mono ?_; rintro e w1 ⟨rfl, hb1⟩
    have HB1 := Lib.hid hb1
    have hk1 := block_of_below HK.out hb1
    have x0 := cell_in hk1 0 _ rfl
    have x1 := cell_in hk1 1 _ rfl
    clear hb1 hk1 e1 hBX
    go_wp2_with fail
    go_at_call 88; refine (cloneK_c a.links _ w1 (HA.out.below (below_then HB.out HB1.out)).ls hll).mono ?_; rintro e w2 ⟨⟨v2, rfl, ho2⟩, hb2⟩
    have HO2 := Lib.hid ho2
    have HB2 := Lib.hid (below_then HB1.out hb2)
    have HB12 := Lib.hid hb2
    have hsz2 := hb2.size
    clear ho2 hb2
    go_wp2_with fail
    go_at_call 87; refine (deleteFuncK_c a.links w1.heap.size v2 w2 HT.out HB2.out HO2.out (fun b hb w3 vs o hr => below_setCells (by have := (HO2.out.lt b hb).1; have := HB1.out.size; omega) vs o _ _ hr) (by omega) hll).mono ?_; rintro e w3 ⟨hb3, v3, rfl, ho3⟩
    have HB3 := Lib.hid hb3
    have HO3 := Lib.hid ho3
    clear hb3 ho3 hmf
    go_wp2_with fail
    go_ret2
    have hb13 : Below w1.heap.size w1 w3 := HB12.out.trans HB3.out
    have hbw := below_then HB.out HB1.out
    exact ⟨below_then hbw hb13, fun h => (by rw [HM.out] at h; cases h), fun _ => ⟨_, rfl, HO3.out.base_le hbw.size⟩⟩

end Go.Proofs.Ytandminldgiheaa
