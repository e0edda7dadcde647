/- Walks: the library's searches through edges by a test that remembers what it has met. -/
import Derived.Test.YtandminldgiheaaConnP
import Derived.Test.YtandminldgiheaaJoinB
import Derived.Test.YtandminldgiheaaRefSortW
import Derived.Test.YtandminldgiheaaSortI
import Derived.Shelf.Abstract
import Derived.Lib.SliceRun
namespace Go.Proofs.Ytandminldgiheaa
open Go.RowKit

/-- The function value '.func (.func g) #[] #[c]' is a test that remembers: I done w: in world w it has met 'done'; it answers 'p done e', and turns nothing outside of [lo, hi). -/
structure Pred (g : FuncId) (c : Value) (lo hi : Nat) (I : List Edge → World → Prop) (p : List Edge → Edge → Bool) (ok : Edge → Prop) : Prop where
  enters : ∀ args w, (callFunc g args).run Try.prog w = .ok (.enter g args) w
  call : ∀ done e w, ok e → I done w → Calls Try.prog g #[.agg #[.int .i64 e.a, .int .i64 e.b, .int .i64 e.w], c] w fun r w' => r = .returned (.bool (p done e)) ∧ I (done ++ [e]) w' ∧ Out lo hi w w'
  keep : ∀ done w w', I done w → w.heap.size ≤ w'.heap.size → (∀ b, lo ≤ b → b < hi → w'.heap[b]? = w.heap[b]?) → I done w'
  inside : ∀ done w, I done w → lo ≤ hi ∧ hi ≤ w.heap.size

set_option maxHeartbeats 2000000 in
theorem indexFuncE_c {g : FuncId} {c : Value} {lo hi : Nat} {I : List Edge → World → Prop} {p : List Edge → Edge → Bool} {ok : Edge → Prop} (hp : Pred g c lo hi I p ok) (l : List Edge) (hok : ∀ e ∈ l, ok e) (v : Value) (w : World)
    (hv : ∀ w', Below lo w w' → RdE w' v l) (hI : I [] w) :
    Calls Try.prog 79 #[v, .func (.func g) #[] #[c]] w fun e w' => Out lo hi w w' ∧
      ((∃ i, ∃ h : i < l.length, e = .returned (.int .i64 i) ∧ p (l.take i) l[i] = true ∧ (∀ j (hj : j < i), p (l.take j) (l[j]'(by omega)) = false) ∧ I (l.take (i + 1)) w') ∨
       (e = .returned (.int .i64 (-1)) ∧ (∀ j (hj : j < l.length), p (l.take j) l[j] = false) ∧ I l w')) := by
  have eg := hp.enters
  obtain ⟨A0, c0, rfl, h10, h20, h30⟩ := hv w (Below.refl _ _)
  have hn : l.length ≤ 9223372036854775807 := by omega
  have HV := Lib.hid hv
  have HP := Lib.hid hp
  clear h10 h20 h30 hv hp
  go_enter Try.func79, Try.ntmps79
  go_wp2_with fail
  go_loopw [8] (fun s8 wr => ∃ k : Nat, k ≤ l.length ∧ s8 = .int .i64 k ∧ Out lo hi w wr ∧ I (l.take k) wr ∧ (∀ j (hj : j < l.length), j < k → p (l.take j) l[j] = false)) (fun s8 _ => l.length - (intOf s8).toNat)
  case atStart => exact ⟨0, by omega, rfl, Out.refl _ _ _, hI, fun j _ h => absurd h (by omega)⟩
  case round =>
    clear hI
    obtain ⟨k, hk, rfl, hb, hi, hno⟩ := hrel
    have HB := Lib.hid hb
    have HI := Lib.hid hi
    have HN := Lib.hid hno
    clear hi hno
    by_cases hlt : k < l.length
    · have hrd := HV.out wr hb.1
      clear hb
      obtain ⟨A1, c1, e1, _, _, h3⟩ := hrd
      obtain ⟨b0, o0, rfl, _, g0⟩ := h3 (by intro h; subst h; simp at hlt)
      simp only [Value.slice.injEq, true_and] at e1
      obtain ⟨rfl, rfl⟩ := e1
      obtain ⟨x0, x1, x2⟩ := cells_E g0 k hlt
      clear g0 h3
      have hi0 : (k : Int) < (l.length : Int) := by omega
      have hcall := HP.out.call (l.take k) l[k] wr (hok _ (List.getElem_mem hlt)) HI.out
      rw [← take_succ_at hlt] at hcall
      cases hq : p (l.take k) l[k]
      · rw [hq] at hcall
        have HC := Lib.hid hcall
        have HQ := Lib.hid hq
        clear hcall hq
        go_wp2_with (go_at_fn g; refine HC.out.mono ?_; rintro e w' ⟨rfl, hi', hb'⟩)
        go_roundw
        case rel => exact ⟨k + 1, by omega, by go_num, HB.out.trans hb', hi', fun j hj hjk => by
          by_cases e : j = k
          · subst e; exact HQ.out
          · exact HN.out j hj (by omega)⟩
        case measure => (simp [intOf]) <;> omega
      · rw [hq] at hcall
        have HC := Lib.hid hcall
        have HQ := Lib.hid hq
        clear hcall hq
        go_wp2_with (go_at_fn g; refine HC.out.mono ?_; rintro e w' ⟨rfl, hi', hb'⟩)
        go_ret
        exact ⟨HB.out.trans hb', .inl ⟨k, hlt, rfl, HQ.out, fun j hj => HN.out j (by omega) hj, hi'⟩⟩
    · have hK : k = l.length := by omega
      subst hK
      clear hb
      go_wp2_with fail
      go_ret
      have := HI.out
      rw [List.take_length] at this
      exact ⟨HB.out, .inr ⟨rfl, fun j hj => HN.out j hj hj, this⟩⟩

set_option maxHeartbeats 1000000 in
theorem containsFuncE_c {g : FuncId} {c : Value} {lo hi : Nat} {I : List Edge → World → Prop} {p : List Edge → Edge → Bool} {ok : Edge → Prop} (hp : Pred g c lo hi I p ok) (l : List Edge) (hok : ∀ e ∈ l, ok e) (v : Value) (w : World)
    (hv : ∀ w', Below lo w w' → RdE w' v l) (hI : I [] w) :
    Calls Try.prog 48 #[v, .func (.func g) #[] #[c]] w fun e w' => Out lo hi w w' ∧
      ((e = .returned (.bool true) ∧ ∃ i, ∃ h : i < l.length, p (l.take i) l[i] = true) ∨ (e = .returned (.bool false) ∧ ∀ j (hj : j < l.length), p (l.take j) l[j] = false)) := by
  go_enter Try.func48, Try.ntmps48
  go_wp2_with (go_at_call 79; refine (indexFuncE_c hp l hok v w hv hI).mono ?_; rintro e w' ⟨hb, ⟨i, hi, rfl, hq, _, _⟩ | ⟨rfl, hn, _⟩⟩)
  · go_ret
    exact ⟨hb, .inl ⟨rfl, i, hi, hq⟩⟩
  · go_ret
    exact ⟨hb, .inr ⟨rfl, hn⟩⟩

theorem clear_own {α : Type} {E : α → List Value} {k : Nat} {base : Nat} {e : TypeId} {g n cap : Nat} {l : List α} : ∀ (vs : List Value) (o : Nat) (w : World), Own E k w base e (.slice (some ⟨g, 0, none⟩) n cap) l → n = l.length → (l.flatMap E).length ≤ o →
    Own E k (w.setCells g o vs) base e (.slice (some ⟨g, 0, none⟩) n cap) l
  | [], _, _, h, _, _ => h
  | v :: r, o, w, h, hn, ho => by
    subst hn
    refine clear_own r (o + 1) _ ?_ rfl (by omega)
    have h1 := (World.ownsRow.stored h o v).1
    rw [List.set_eq_of_length_le ho] at h1
    exact h1
theorem clear_below {B : Nat} {g : Nat} (hg : B ≤ g) : ∀ (vs : List Value) (o : Nat) (w0 w : World), Below B w0 w → Below B w0 (w.setCells g o vs)
  | [], _, _, _, h => h
  | v :: r, o, _, _, h => clear_below hg r (o + 1) _ _ (h.setCell hg v)
theorem clear_block {g b : Nat} (hg : g ≠ b) : ∀ (vs : List Value) (o : Nat) (w : World), (w.setCells g o vs).heap[b]? = w.heap[b]? ∧ (w.setCells g o vs).heap.size = w.heap.size
  | [], _, _ => ⟨rfl, rfl⟩
  | v :: r, o, w => by
    have h := clear_block hg r (o + 1) (w.setCell ⟨g, o, none⟩ v)
    exact ⟨h.1.trans (Below.heap_setCell _ _ _ _ (fun e => hg e.symm)), h.2.trans (by simp)⟩

theorem clear_run (w : World) (ty : TypeId) (b o n c : Nat) (hn : 0 < n) (hc : ∀ j, j < n * 3 → (w.cell? ⟨b, o + j, none⟩).isSome = true) (hf : ∀ j, j < n * 3 → w.frozen? ⟨b, o + j, none⟩ = false) :
    (Builtin.clear_ #[22] ty #[.slice (some ⟨b, o, none⟩) n c]).run Try.prog w = .ok (.tuple #[]) (w.setCells b o (List.replicate (n * 3) (.int .i64 0))) := by
  have hz : ∀ w, (zeroValue 24).run Try.prog w = .ok (.agg #[.int .i64 0, .int .i64 0, .int .i64 0]) w := fun w => by kernel_rfl
  have hzc : (Builtin.zeroCells #[.int .i64 0, .int .i64 0, .int .i64 0] n).toList = List.replicate (n * 3) (Value.int .i64 0) := by
    apply List.ext_getElem?
    intro i
    by_cases h : i < n * 3
    · have hm : i % 3 < 3 := by omega
      have hc : i % 3 = 0 ∨ i % 3 = 1 ∨ i % 3 = 2 := by omega
      simp only [Builtin.zeroCells]
      rcases hc with hc | hc | hc <;> simp [h, hc]
    · simp [Builtin.zeroCells, h]
  have hst := run_storeCells_cells (P := Try.prog) b o (List.replicate (n * 3) (Value.int .i64 0)) 0 w (by simpa using hc) (by simpa using hf) (by intro v hv'; rw [List.eq_of_mem_replicate hv']; rfl)
  simp only [Nat.add_zero] at hst
  obtain ⟨m, rfl⟩ : ∃ m, n = m + 1 := ⟨n - 1, by omega⟩
  simp [Builtin.clear_, run_underlying Try.underlying22, hz, Value.cells, hzc, hst]

/-! ### slices.DeleteFunc, the test answering 'linked' -/
theorem growAll_all {l : List Edge} {k : Nat} (hk : k ≤ l.length) (h : ∀ j (hj : j < l.length), j < k → linked (l.take j) l[j].a l[j].b = false) : growAll (l.take k) = l.take k := by
  induction k with
  | zero => rfl
  | succ k ih =>
    have hlt : k < l.length := by omega
    rw [take_succ_at hlt, growAll_snoc, ih (by omega) (fun j hj hjk => h j hj (by omega)), grow1, h k hlt (by omega)]
    rfl
theorem growAll_yes {l : List Edge} {k : Nat} (hk : k < l.length) (h : linked (l.take k) l[k].a l[k].b = true) : growAll (l.take (k + 1)) = growAll (l.take k) := by
  rw [take_succ_at hk, growAll_snoc, grow1, linked_growAll, h]; rfl
theorem growAll_no {l : List Edge} {k : Nat} (hk : k < l.length) (h : linked (l.take k) l[k].a l[k].b = false) : growAll (l.take (k + 1)) = growAll (l.take k) ++ [l[k]] := by
  rw [take_succ_at hk, growAll_snoc, grow1, linked_growAll, h]; rfl
theorem growAll_len (l : List Edge) (k : Nat) : (growAll (l.take k)).length ≤ k := by
  have := (growAll_sub (l.take k)).length_le
  rw [List.length_take] at this; omega

set_option maxHeartbeats 4000000 in
theorem deleteFuncE_c {g : FuncId} {c : Value} {lo hi : Nat} {I : List Edge → World → Prop} {ok : Edge → Prop} (hp : Pred g c lo hi I (fun done e => linked done e.a e.b) ok) (l : List Edge) (hok : ∀ e ∈ l, ok e) (base : Nat) (v : Value) (w : World)
    (ho : OwnE w base 24 v l) (hbl : ∀ b, v.ownBlock = some b → b < lo) (hbase : base ≤ lo) (hI : I [] w) :
    Calls Try.prog 43 #[v, .func (.func g) #[] #[c]] w fun e w' => Below base w w' ∧ I l w' ∧ ∃ v', e = .returned v' ∧ OwnE w' base 24 v' (growAll l) := by
  have eg := hp.enters
  have hown : ∀ w', Below lo w w' → OwnE w' base 24 v l := fun w' hb => ho.of_block fun b hb' => hb.block b (hbl b hb')
  have hrd : ∀ w', Below lo w w' → RdE w' v l := fun w' hb => (hown w' hb).rd encE_len
  have hidx := indexFuncE_c hp l hok v w hrd hI
  have HP := Lib.hid hp
  have HOWN := Lib.hid hown
  have HIDX := Lib.hid hidx
  clear hp hrd hidx hI
  have hins := ho.lt
  go_enter Try.func43, Try.ntmps43
  rcases ho.shape with ⟨rfl, rfl⟩ | ⟨g0, cap, cur, rfl, hg0, hg0lt, _, hcap, hcapm, _, _⟩
  · go_wp2_with fail
    go_at_call 79; refine HIDX.out.mono ?_; rintro e w1 ⟨hb, ⟨i, hi, rfl, hq, hn, hi1⟩ | ⟨rfl, hn, hi1⟩⟩
    · simp at hi
    go_wp2_with fail
    go_ret
    exact ⟨hb.1.mono hbase, hi1, _, rfl, Own.nil _ _ _⟩
  · have hglo : g0 < lo := hbl g0 rfl
    clear hins hbl ho
    go_wp2_with fail
    go_at_call 79; refine HIDX.out.mono ?_; rintro e w1 ⟨hb, ⟨i, hi, rfl, hq, hn, hi1⟩ | ⟨rfl, hn, hi1⟩⟩
    · have hgr : growAll (l.take i) = l.take i := growAll_all (by omega) (fun j hj hji => hn j hji)
      have HQ := Lib.hid hq
      have HG := Lib.hid hgr
      have HB1 := Lib.hid hb.1
      have HI1 := Lib.hid hi1
      have hneg : ((i : Int) == -1) = false := beq_eq_false_iff_ne.2 (by omega)
      have hlen : l.length ≤ 9223372036854775807 := by omega
      clear hq hgr hb hi1 hn
      go_wp2_with fail
      go_loopw [5, 6] (fun s5 s6 wr => ∃ (j n : Nat) (R : List Edge), j ≤ l.length ∧ n < j ∧ s5 = .int .i64 n ∧ s6 = .int .i64 j ∧ (growAll (l.take j)).length = n ∧ R.length = l.length ∧ OwnE wr base 24 (.slice (some ⟨g0, 0, none⟩) R.length cap) R ∧
        R.take n = growAll (l.take j) ∧ R.drop j = l.drop j ∧ I (l.take j) wr ∧ Below base w wr) (fun _ s6 _ => l.length - (intOf s6).toNat)
      case atStart => exact ⟨i + 1, i, l, by omega, by omega, rfl, by go_num, by rw [growAll_yes hi HQ.out, HG.out, List.length_take, Nat.min_eq_left (by omega)], rfl, HOWN.out _ HB1.out, by rw [growAll_yes hi HQ.out, HG.out], rfl, HI1.out, HB1.out.mono hbase⟩
      case round =>
        clear HQ HG HB1 HI1 HIDX HOWN hneg hi
        obtain ⟨j, n, R, hj, hnj, rfl, rfl, hgl, hRl, hR, hRt, hRd, hi1, hb1⟩ := hrel
        by_cases hlt : j < l.length
        · have hRj : R[j]'(by omega) = l[j] := by
            have h1 : (R.drop j)[0]? = (l.drop j)[0]? := by rw [hRd]
            rw [List.getElem?_drop, List.getElem?_drop, Nat.add_zero, List.getElem?_eq_getElem (by omega), List.getElem?_eq_getElem hlt] at h1
            exact Option.some.inj h1
          obtain ⟨p0, p1, p2, _, _, _⟩ := own_cells hR j (by omega)
          rw [hRj] at p0 p1 p2
          have hin := HP.out.inside _ _ hi1
          have hba := (Below.refl wr.heap.size wr).alloc (Nat.le_refl _) (.cells #[.int .i64 l[j].a, .int .i64 l[j].b, .int .i64 l[j].w] 24)
          have hi2 := HP.out.keep _ _ _ hi1 hba.size (fun b _ hb => hba.block b (by omega))
          have hR2 : OwnE _ _ _ _ _ := hR.alloc (.cells #[.int .i64 l[j].a, .int .i64 l[j].b, .int .i64 l[j].w] 24)
          have hcall := HP.out.call (l.take j) l[j] _ (hok _ (List.getElem_mem hlt)) hi2
          rw [← take_succ_at hlt] at hcall
          have hbn := heap_alloc_new wr (.cells #[.int .i64 l[j].a, .int .i64 l[j].b, .int .i64 l[j].w] 24)
          have hb2 := hb1.alloc (Nat.le_trans hbase (Nat.le_trans hin.1 hin.2)) (.cells #[.int .i64 l[j].a, .int .i64 l[j].b, .int .i64 l[j].w] 24)
          have HR2 := Lib.hid hR2
          have HB2 := Lib.hid hb2
          have HBN := Lib.hid hbn
          have HRT := Lib.hid hRt
          have HRD := Lib.hid hRd
          have HGL := Lib.hid hgl
          have HIN := Lib.hid hin
          have hj0 : (j : Int) < (l.length : Int) := by omega
          clear hR hR2 hb1 hb2 hbn hRt hRd hgl hin hba hi1 hi2 hown
          cases hq : linked (l.take j) l[j].a l[j].b
          · rw [hq] at hcall
            have HC := Lib.hid hcall
            have HQ := Lib.hid hq
            clear hcall hq
            go_wp2_with fail
            go_at_fn g; refine HC.out.mono ?_; rintro e w2 ⟨rfl, hi2, ho2⟩
            have hR2 : OwnE w2 base 24 (.slice (some ⟨g0, 0, none⟩) R.length cap) R := HR2.out.out ho2 (fun b hb => by injection hb with hb; subst hb; exact .inl hglo)
            have hbox : w2.heap[wr.heap.size]? = _ := (ho2.2 _ HIN.out.2 (by simp)).trans HBN.out
            have q0 : w2.cell? ⟨wr.heap.size, 0, none⟩ = some (.int .i64 l[j].a) := (cell_of_row w2 _ 0 _ _ _ hbox).trans rfl
            have q1 : w2.cell? ⟨wr.heap.size, 1, none⟩ = some (.int .i64 l[j].b) := (cell_of_row w2 _ 1 _ _ _ hbox).trans rfl
            have q2 : w2.cell? ⟨wr.heap.size, 2, none⟩ = some (.int .i64 l[j].w) := (cell_of_row w2 _ 2 _ _ _ hbox).trans rfl
            obtain ⟨r0, r1, r2, s0, s1, s2⟩ := own_cells hR2 n (by omega)
            have HB3 := Lib.hid (HB2.out.trans (ho2.1.mono hbase))
            have HR3 := Lib.hid hR2
            have HI2 := Lib.hid hi2
            have n0 : (0 : Int) ≤ (n : Int) := by omega
            have n1 : (n : Int) < (l.length : Int) := by omega
            clear hR2 hbox hi2 ho2
            go_wp2_with fail
            go_roundw
            case rel =>
              have hs := set_at HR3.out n (by omega) l[j]
              refine ⟨j + 1, n + 1, R.set n l[j], by omega, by omega, by go_num, by go_num, ?_, by rw [List.length_set]; exact hRl, hs, ?_, ?_, ?_, ?_⟩
              · rw [growAll_no hlt HQ.out, List.length_append, HGL.out]; rfl
              · rw [growAll_no hlt HQ.out, ← HRT.out, take_succ_at (by rw [List.length_set]; omega), List.take_set_of_le (Nat.le_refl _), List.getElem_set_self]
              · rw [List.drop_set_of_lt (by omega)]
                have h1 := congrArg (List.drop 1) HRD.out
                rw [List.drop_drop, List.drop_drop] at h1
                exact h1
              · refine HP.out.keep _ _ _ HI2.out (by simp) (fun b hb _ => ?_)
                have hne : b ≠ g0 := by omega
                rw [Below.heap_setCell _ _ _ _ (by exact hne), Below.heap_setCell _ _ _ _ (by exact hne), Below.heap_setCell _ _ _ _ (by exact hne)]
              · exact ((HB3.out.setCell (by exact hg0) _).setCell (by exact hg0) _).setCell (by exact hg0) _
            case measure => (simp [intOf]) <;> omega
          · rw [hq] at hcall
            have HC := Lib.hid hcall
            have HQ := Lib.hid hq
            clear hcall hq
            go_wp2_with fail
            go_at_fn g; refine HC.out.mono ?_; rintro e w2 ⟨rfl, hi2, ho2⟩
            have hR2 : OwnE w2 base 24 (.slice (some ⟨g0, 0, none⟩) R.length cap) R := HR2.out.out ho2 (fun b hb => by injection hb with hb; subst hb; exact .inl hglo)
            have HB3 := Lib.hid (HB2.out.trans (ho2.1.mono hbase))
            have HR3 := Lib.hid hR2
            have HI2 := Lib.hid hi2
            clear hR2 hi2 ho2
            go_wp2_with fail
            go_roundw
            case rel =>
              refine ⟨j + 1, n, R, by omega, by omega, rfl, by go_num, by rw [growAll_yes hlt HQ.out]; exact HGL.out, hRl, HR3.out, by rw [growAll_yes hlt HQ.out]; exact HRT.out, ?_, HI2.out, HB3.out⟩
              have h1 := congrArg (List.drop 1) HRD.out
              rw [List.drop_drop, List.drop_drop] at h1
              exact h1
            case measure => (simp [intOf]) <;> omega
        · have hK : j = l.length := by omega
          subst hK
          rw [List.take_length] at hgl hRt hi1
          have hfr := fun t (ht : t < (l.length - n) * 3) => World.ownsRow.frozenAt hR (n * 3 + t)
          have hce := fun t (ht : t < (l.length - n) * 3) => World.ownsRow.cellAt hR (n * 3 + t) (by omega)
          have hfl := flat_length encE_len R
          have hcl := fun ty => clear_run wr ty g0 (n * 3) (l.length - n) (cap - n) (by omega) (fun t ht => by
            rw [hce t ht, List.getElem?_eq_getElem (by rw [hfl]; omega)]; rfl) hfr
          have hR4 := Own.take encE_len hR n (by omega)
          rw [hRt] at hR4
          have HR4 := Lib.hid hR4
          have HB4 := Lib.hid hb1
          have HI4 := Lib.hid hi1
          have HGL := Lib.hid hgl
          have n0 : (0 : Int) ≤ (n : Int) := by omega
          have n1 : (n : Int) ≤ (l.length : Int) := by omega
          have n2 : (n : Int) ≤ (cap : Int) := by omega
          clear hR hR4 hb1 hi1 hgl hRt hRd hfr hce hfl hown
          go_wp2_with fail
          go_ret
          have hn4 := HGL.out
          refine ⟨clear_below hg0 _ _ _ _ HB4.out, ?_, _, rfl, clear_own _ _ _ HR4.out hn4.symm (by rw [flat_length encE_len, hn4]; omega)⟩
          refine HP.out.keep _ _ _ HI4.out (Nat.le_of_eq (clear_block (b := g0 + 1) (by omega) _ _ _).2.symm) (fun b hb _ => (clear_block (by omega) _ _ _).1)
    · go_wp2_with fail
      go_ret
      refine ⟨hb.1.mono hbase, hi1, _, rfl, ?_⟩
      have e := growAll_all (l := l) (Nat.le_refl _) (fun j hj _ => hn j hj)
      rw [List.take_length] at e
      rw [e]
      exact HOWN.out _ hb.1

end Go.Proofs.Ytandminldgiheaa
