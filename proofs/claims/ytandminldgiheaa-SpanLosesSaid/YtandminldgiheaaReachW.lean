/- Walks: the reference's links. -/
import Derived.Test.YtandminldgiheaaReachP
import Derived.Test.YtandminldgiheaaEdgeW
namespace Go.Proofs.Ytandminldgiheaa
open Go.RowKit

theorem setSize : (Try.prog.info? 64).map (·.size) = some 65 := by kernel_rfl
/-- A set as the array of 65 bools. -/
def bools (S : Nat → Bool) : Array Value := (Array.range 65).map fun i => .bool (S i)
theorem bools_size (S : Nat → Bool) : (bools S).size = 65 := by simp [bools]
theorem bools_one (S : Nat → Bool) : (bools S).all (·.oneCell') = true := by
  rw [Array.all_eq_true_iff_forall_mem]
  intro v hv
  simp only [bools, Array.mem_map] at hv
  obtain ⟨i, _, rfl⟩ := hv
  rfl
theorem zSet_eq : Try.zeroCells64 = bools (fun _ => false) := by kernel_rfl
theorem zSet_size : Try.zeroCells64.size = 65 := by kernel_rfl
/-- A whole set stored over another one. -/
theorem store65 (w : World) (g : Nat) (old cs : Array Value) (hg : w.heap[g]? = some (.cells old 64 (0, 0))) (ho : old.size = 65) (hc : cs.size = 65) (h1 : cs.all (·.oneCell') = true) :
    (storeCells ⟨g, 0, none⟩ cs.toList).run Try.prog w = .ok () (w.setRow g cs) := by
  have := run_storeCells_from (P := Try.prog) g 64 cs.toList 0 old w hg (by simp; omega) (fun v hv => (Array.all_eq_true_iff_forall_mem.1 h1) v (by simpa using hv))
  simpa using this
theorem rowIs_bools {w : World} {B : Nat} {S : Nat → Bool} (h : w.rowIs B 64 65 (fun i => .bool (S i))) : w.heap[B]? = some (.cells (bools S) 64 (0, 0)) := by
  obtain ⟨c, hb, hn, hc⟩ := h
  rw [hb]
  have : c = bools S := by
    apply Array.ext
    · rw [hn, bools_size]
    · intro i h1 h2
      have := hc i (by omega)
      rw [Array.getElem?_eq_getElem h1] at this
      rw [Option.some.inj this]
      simp [bools]
  rw [this]

set_option maxHeartbeats 4000000 in
theorem refReach_c (l : List Edge) (a : Nat) (ha1 : 1 ≤ a) (ha : a < 65) (hm : ∀ e ∈ l, may e = true) (v : Value) (w : World) (hv : RdE w v l) :
    Calls Try.prog 47 #[v, .int .i64 (a : Int)] w fun e w' => e = .returned (.agg (bools (reachS l a))) ∧ Below w.heap.size w w' := by
  have hnd := refNode_c (a : Int)
  rw [show node (a : Int) = true by unfold node; simp; omega] at hnd
  obtain ⟨A0, c0, rfl, h10, h20, h30⟩ := hv
  have hn : l.length ≤ 9223372036854775807 := by omega
  have HM := Lib.hid hm
  have HV := Lib.hid h30
  clear h10 h20 h30 hm
  have i0 : (0 : Int) ≤ (a : Int) := by omega
  have i1 : (a : Int) < 65 := by omega
  have hst : (storeCells ⟨w.heap.size + 1, 0, none⟩ Try.zeroCells64.toList).run Try.prog ((w.alloc (.cells Try.zeroCells64 64)).alloc (.cells Try.zeroCells64 64)) =
      .ok () ((w.alloc (.cells Try.zeroCells64 64)).alloc (.cells Try.zeroCells64 64)) := by
    have hsz : w.heap.size + 1 = (w.alloc (.cells Try.zeroCells64 64)).heap.size := by simp
    rw [hsz, store65 _ _ Try.zeroCells64 _ (heap_alloc_new _ _) zSet_size zSet_size (by rw [zSet_eq]; exact bools_one _), World.setRow_alloc_new]
  go_enter Try.func47, Try.ntmps47
  go_wp2_with fail
  go_at_call 46; refine (hnd _).mono ?_; rintro e w' ⟨rfl, rfl⟩
  go_wp2_with fail
  obtain ⟨B, hB⟩ : ∃ B, w.heap.size = B := ⟨_, rfl⟩
  have hrow0 : ((w.alloc (.cells Try.zeroCells64 64)).alloc (.cells (Try.zeroCells64.setIfInBounds a (.bool true)) 64)).rowIs (B + 1) 64 65 (fun i => .bool (startS a i)) := by
    have h := World.rowIs_alloc (w.alloc (.cells Try.zeroCells64 64)) (Try.zeroCells64.setIfInBounds a (.bool true)) 64 (fun i => .bool (startS a i)) (fun i hi => by
      rw [zSet_eq] at hi ⊢
      simp [bools] at hi
      rw [Array.getElem?_setIfInBounds]
      by_cases e : a = i
      · subst e; simp [bools, startS, ha]
      · have e' : ¬ i = a := fun h => e h.symm
        simp [bools, startS, e, e', hi])
    have e1 : (Try.zeroCells64.setIfInBounds a (.bool true)).size = 65 := by rw [Array.size_setIfInBounds]; exact zSet_size
    have e2 : (w.alloc (.cells Try.zeroCells64 64)).heap.size = B + 1 := by rw [← hB]; simp
    rw [e1, e2] at h
    exact h
  have hzero : ((w.alloc (.cells Try.zeroCells64 64)).alloc (.cells (Try.zeroCells64.setIfInBounds a (.bool true)) 64)).heap[B]? = some (.cells Try.zeroCells64 64 (0, 0)) := by
    rw [((Below.refl _ (w.alloc (.cells Try.zeroCells64 64))).alloc (Nat.le_refl _) _).block B (by rw [← hB]; simp), ← hB]
    exact heap_alloc_new _ _
  have hb0 : Below B w ((w.alloc (.cells Try.zeroCells64 64)).alloc (.cells (Try.zeroCells64.setIfInBounds a (.bool true)) 64)) := by
    rw [← hB]; exact ((Below.refl _ w).alloc (Nat.le_refl _) _).alloc (by simp) _
  have HR0 := Lib.hid hrow0
  have HZ0 := Lib.hid hzero
  have HB0 := Lib.hid hb0
  clear hrow0 hzero hb0 hst
  rw [hB]
  go_loopw [6] (fun s6 wr => ∃ n : Nat, n ≤ 64 ∧ s6 = .int .i64 n ∧ wr.rowIs (B + 1) 64 65 (fun i => .bool (roundsS l (startS a) n i)) ∧ wr.heap[B]? = some (.cells Try.zeroCells64 64 (0, 0)) ∧ Below B w wr) (fun s6 _ => 64 - (intOf s6).toNat)
  case atStart => exact ⟨0, by omega, rfl, HR0.out, HZ0.out, HB0.out⟩
  case round =>
    clear HR0 HZ0 HB0
    obtain ⟨n, hn64, rfl, hr, hz, hb⟩ := hrel
    have HR := Lib.hid hr
    have HZ := Lib.hid hz
    have HBB := Lib.hid hb
    clear hr hz hb
    by_cases hlt64 : n < 64
    · have hi64 : (n : Int) < 64 := by omega
      go_wp2_with fail
      go_loopw [7] (fun s7 wr => ∃ k : Nat, k ≤ l.length ∧ s7 = .int .i64 k ∧ wr.rowIs (B + 1) 64 65 (fun i => .bool (passS (roundsS l (startS a) n) (l.take k) i)) ∧ wr.heap[B]? = some (.cells Try.zeroCells64 64 (0, 0)) ∧ Below B w wr) (fun s7 _ => l.length - (intOf s7).toNat)
      case atStart => exact ⟨0, by omega, rfl, HR.out, HZ.out, HBB.out⟩
      case round =>
        clear HR HZ HBB
        obtain ⟨k, hk, rfl, hR, hq, hb⟩ := hrel
        by_cases hlt : k < l.length
        · obtain ⟨b0, o0, rfl, hb0, g0⟩ := HV.out (by intro h; subst h; simp at hlt)
          obtain ⟨x0, x1, _⟩ := cells_E g0 k hlt
          replace x0 := cell_of_below (by rw [hB]; exact hb) x0
          replace x1 := cell_of_below (by rw [hB]; exact hb) x1
          rw [hB] at hb0
          have x1' : (wr.setCell ⟨B + 1, l[k].a.toNat, none⟩ (.bool true)).cell? ⟨b0, o0 + k * 3 + 1, none⟩ = some (.int .i64 l[k].b) := (World.cell?_setCell_far _ _ _ _ (by show B + 1 ≠ b0; omega)).trans x1
          clear g0
          have hi0 : (k : Int) < (l.length : Int) := by omega
          have hmn := may_nodes (HM.out _ (List.getElem_mem hlt))
          obtain ⟨m1, m2, m3, m4⟩ := hmn
          have m1' : (0 : Int) ≤ l[k].a := by omega
          have m3' : (0 : Int) ≤ l[k].b := by omega
          obtain ⟨S, hSe⟩ : ∃ S, passS (roundsS l (startS a) n) (l.take k) = S := ⟨_, rfl⟩
          rw [hSe] at hR
          cases QA : S l[k].a.toNat
          · cases QB : S l[k].b.toNat
            · have HITP : hit S l[k] = false := by unfold hit; rw [QA, QB]; rfl
              have c1 := hR.cell (i := l[k].a.toNat) (by omega)
              have c2 := hR.cell (i := l[k].b.toNat) (by omega)
              rw [QA] at c1
              rw [QB] at c2
              have HRR := Lib.hid hR
              have HB := Lib.hid hb
              have HQ := Lib.hid hq
              have HS := Lib.hid hSe
              clear hR hb hq hSe
              go_wp2_with fail
              go_roundw
              case rel =>
                refine ⟨k + 1, by omega, by go_num, ?_, HQ.out, HB.out⟩
                refine HRR.out.congr fun i _ => ?_
                rw [take_succ_at hlt, passS_snoc, HS.out, stepS, if_neg (by rw [HITP]; simp)]
              case measure => (simp [intOf]) <;> omega
            · have HITP : hit S l[k] = true := by unfold hit; rw [QA, QB]; rfl
              have c1 := hR.cell (i := l[k].a.toNat) (by omega)
              have c2 := hR.cell (i := l[k].b.toNat) (by omega)
              rw [QA] at c1
              rw [QB] at c2
              have f1 := hR.frozen l[k].a.toNat
              have f2 := hR.frozen l[k].b.toNat
              have d2 := (hR.set l[k].a.toNat (.bool true)).cell (i := l[k].b.toNat) (by omega)
              have d2' : ∃ u, (wr.setCell ⟨B + 1, l[k].a.toNat, none⟩ (.bool true)).cell? ⟨B + 1, l[k].b.toNat, none⟩ = some (.bool u) := by
                rw [d2]; split
                · exact ⟨true, rfl⟩
                · exact ⟨_, rfl⟩
              obtain ⟨u2, d2⟩ := d2'
              have HRR := Lib.hid hR
              have HB := Lib.hid hb
              have HQ := Lib.hid hq
              have HS := Lib.hid hSe
              clear hR hb hq hSe
              go_wp2_with fail
              go_roundw
              case rel =>
                refine ⟨k + 1, by omega, by go_num, ?_, ?_, ?_⟩
                · have h2 := ((HRR.out.set l[k].a.toNat (.bool true)).set l[k].b.toNat (.bool true))
                  refine h2.congr fun i _ => ?_
                  rw [take_succ_at hlt, passS_snoc, HS.out, stepS, if_pos HITP]
                  by_cases e2 : i = l[k].b.toNat
                  · subst e2; simp
                  · by_cases e1 : i = l[k].a.toNat
                    · subst e1; simp [e2]
                    · have e1' : (i == l[k].a.toNat) = false := by simpa using e1
                      have e2' : (i == l[k].b.toNat) = false := by simpa using e2
                      rw [if_neg e2, if_neg e1, e1', e2']; rfl
                · rw [Below.heap_setCell _ _ _ _ (by show B ≠ B + 1; omega), Below.heap_setCell _ _ _ _ (by show B ≠ B + 1; omega)]; exact HQ.out
                · exact (HB.out.setCell (by show B ≤ B + 1; omega) _).setCell (by show B ≤ B + 1; omega) _
              case measure => (simp [intOf]) <;> omega
          · obtain ⟨q, QB⟩ : ∃ q, S l[k].b.toNat = q := ⟨_, rfl⟩
            have HITP : hit S l[k] = true := by unfold hit; rw [QA]; rfl
            have c1 := hR.cell (i := l[k].a.toNat) (by omega)
            have c2 := hR.cell (i := l[k].b.toNat) (by omega)
            rw [QA] at c1
            rw [QB] at c2
            have f1 := hR.frozen l[k].a.toNat
            have f2 := hR.frozen l[k].b.toNat
            have d2 := (hR.set l[k].a.toNat (.bool true)).cell (i := l[k].b.toNat) (by omega)
            have d2' : ∃ u, (wr.setCell ⟨B + 1, l[k].a.toNat, none⟩ (.bool true)).cell? ⟨B + 1, l[k].b.toNat, none⟩ = some (.bool u) := by
              rw [d2]; split
              · exact ⟨true, rfl⟩
              · exact ⟨_, rfl⟩
            obtain ⟨u2, d2⟩ := d2'
            have HRR := Lib.hid hR
            have HB := Lib.hid hb
            have HQ := Lib.hid hq
            have HS := Lib.hid hSe
            clear hR hb hq hSe
            go_wp2_with fail
            go_roundw
            case rel =>
              refine ⟨k + 1, by omega, by go_num, ?_, ?_, ?_⟩
              · have h2 := ((HRR.out.set l[k].a.toNat (.bool true)).set l[k].b.toNat (.bool true))
                refine h2.congr fun i _ => ?_
                rw [take_succ_at hlt, passS_snoc, HS.out, stepS, if_pos HITP]
                by_cases e2 : i = l[k].b.toNat
                · subst e2; simp
                · by_cases e1 : i = l[k].a.toNat
                  · subst e1; simp [e2]
                  · have e1' : (i == l[k].a.toNat) = false := by simpa using e1
                    have e2' : (i == l[k].b.toNat) = false := by simpa using e2
                    rw [if_neg e2, if_neg e1, e1', e2']; rfl
              · rw [Below.heap_setCell _ _ _ _ (by show B ≠ B + 1; omega), Below.heap_setCell _ _ _ _ (by show B ≠ B + 1; omega)]; exact HQ.out
              · exact (HB.out.setCell (by show B ≤ B + 1; omega) _).setCell (by show B ≤ B + 1; omega) _
            case measure => (simp [intOf]) <;> omega
        · have hK : k = l.length := by omega
          subst hK
          rw [List.take_length] at hR
          have HRR := Lib.hid hR
          have HB := Lib.hid hb
          have HQ := Lib.hid hq
          clear hR hb hq
          go_wp2_with fail
          go_roundw
          case rel => exact ⟨n + 1, by omega, by go_num, HRR.out, HQ.out, HB.out⟩
          case measure => (simp [intOf]) <;> omega
    · have hN : n = 64 := by omega
      subst hN
      have hrow := rowIs_bools HR.out
      have HROW := Lib.hid hrow
      clear hrow
      go_wp2_with (first | (refine wpList_load_row rfl 64 _ rfl (B + 1) rfl 64 _ (0, 0) _ HROW.out Try.underlying64 rfl (by rw [bools_size]; exact setSize) ?_) | (refine wpList_store_row rfl 64 _ _ rfl B _ rfl rfl 64 _ HZ.out (by rw [bools_size]; exact setSize) (by rw [bools_size]; exact zSet_size) (bools_one _) ?_))
      have HBX := HBB.out
      refine bodyPost_ret (v := .agg (bools (reachS l a))) ?_ rfl ⟨rfl, ?_⟩
      · exact results_cell_row rfl _ _ B 64 _ (0, 0) _ rfl (setRow_heap wr B _ _ _ _ HZ.out) Try.underlying64 rfl (by rw [bools_size]; exact setSize)
      · rw [hB]
        exact ⟨HBX.os, HBX.tape, HBX.output, by rw [setRow_size]; exact HBX.size, fun i hi => (setRow_other wr B i _ (by omega)).trans (HBX.block i hi)⟩

theorem index_bools (S : Nat → Bool) (y : Nat) (hy : y < 65) (w : World) : (Instr.index 64 (.agg (bools S)) (.int .i64 (y : Int))).run Try.prog w = .ok (.bool (S y)) w := by
  have hs : (sizeOf 4).run Try.prog w = .ok 1 w := Try.sizeOf4 w
  have hb : (bools S)[y]? = some (.bool (S y)) := by simp [bools, hy]
  have h0 : (0 : Int) ≤ (y : Int) ∧ (y : Int) < 65 := by omega
  simp [Instr.index, asIntOf, run_underlying Try.underlying64, h0, hs, hy, part, hb]

/-- The reference's links, where the edges may be. -/
theorem refLinked_c (l : List Edge) (a b : Int) (hm : ∀ e ∈ l, may e = true) (v : Value) (w : World) (hv : RdE w v l) :
    Calls Try.prog 14 #[v, .int .i64 a, .int .i64 b] w fun e w' => e = .returned (.bool (node a && node b && linked l a b)) ∧ Below w.heap.size w w' := by
  have h1 := refNode_c a
  have h2 := refNode_c b
  cases ha : node a
  · rw [ha] at h1
    go_enter Try.func14, Try.ntmps14
    go_wp2_with fail
    go_at_call 46; refine (h1 _).mono ?_; rintro e w' ⟨rfl, rfl⟩
    go_wp2_with fail
    go_ret
    exact ⟨rfl, Below.refl _ _⟩
  · rw [ha] at h1
    cases hb : node b
    · rw [hb] at h2
      go_enter Try.func14, Try.ntmps14
      go_wp2_with fail
      go_at_call 46; refine (h1 _).mono ?_; rintro e w' ⟨rfl, rfl⟩
      go_wp2_with fail
      go_at_call 46; refine (h2 _).mono ?_; rintro e w' ⟨rfl, rfl⟩
      go_wp2_with fail
      go_ret
      exact ⟨rfl, Below.refl _ _⟩
    · rw [hb] at h2
      obtain ⟨x, rfl, hx1, hx2⟩ : ∃ x : Nat, a = x ∧ 1 ≤ x ∧ x < 65 := ⟨a.toNat, by unfold node at ha; simp at ha; omega, by unfold node at ha; simp at ha; omega, by unfold node at ha; simp at ha; omega⟩
      obtain ⟨y, rfl, hy1, hy2⟩ : ∃ x : Nat, b = x ∧ 1 ≤ x ∧ x < 65 := ⟨b.toNat, by unfold node at hb; simp at hb; omega, by unfold node at hb; simp at hb; omega, by unfold node at hb; simp at hb; omega⟩
      have hr := refReach_c l x hx1 hx2 hm v w hv
      have hq := reachS_ok hm hx1 hx2 (x := y)
      have hix := index_bools (reachS l x) y hy2
      rw [hq] at hix
      obtain ⟨arr, harr⟩ : ∃ arr, bools (reachS l x) = arr := ⟨_, rfl⟩
      rw [harr] at hix hr
      have HR := Lib.hid hr
      clear harr
      have i0 : (0 : Int) ≤ (y : Int) := by omega
      have i1 : (y : Int) < 65 := by omega
      clear hr hq hm hv ha hb
      go_enter Try.func14, Try.ntmps14
      go_wp2_with fail
      go_at_call 46; refine (h1 _).mono ?_; rintro e w' ⟨rfl, rfl⟩
      go_wp2_with fail
      go_at_call 46; refine (h2 _).mono ?_; rintro e w' ⟨rfl, rfl⟩
      go_wp2_with fail
      go_at_call 47; refine HR.out.mono ?_; rintro e w1 ⟨rfl, hb1⟩
      have HB1 := Lib.hid hb1
      clear hb1
      go_wp2_with fail
      go_ret
      exact ⟨rfl, HB1.out⟩

end Go.Proofs.Ytandminldgiheaa
