/- Walks: slices.IndexFunc and its kin at links, with a test that turns nothing old. -/
import Derived.Test.YtandminldgiheaaOwn
import Derived.Test.YtandminldgiheaaKnownEq
import Derived.Test.YtandminldgiheaaIdxK
import Derived.Test.YtandminldgiheaaSetOwn
import Derived.Test.YtandminldgiheaaTail
import Derived.Test.YtandminldgiheaaSortI
namespace Go.Proofs.Ytandminldgiheaa
open Go.RowKit Go.Shelf

theorem clearRunK (w : World) (ty : TypeId) (b o n c : Nat) (hn : 0 < n) (hc : ∀ j, j < n * 5 → (w.cell? ⟨b, o + j, none⟩).isSome = true) (hf : ∀ j, j < n * 5 → w.frozen? ⟨b, o + j, none⟩ = false) :
    (Builtin.clear_ #[41] ty #[.slice (some ⟨b, o, none⟩) n c]).run Try.prog w = .ok (.tuple #[]) (w.setCells b o (Builtin.zeroCells (.agg #[.int .i64 0, .int .i64 0, .int .i64 0, .int .i64 0, .bool false] : Value).cells n).toList) := by
  have hz : ∀ w, (zeroValue 51).run Try.prog w = .ok (.agg #[.int .i64 0, .int .i64 0, .int .i64 0, .int .i64 0, .bool false]) w := fun w => by kernel_rfl
  have hlen : (Builtin.zeroCells (.agg #[.int .i64 0, .int .i64 0, .int .i64 0, .int .i64 0, .bool false] : Value).cells n).toList.length = n * 5 := by simp [Builtin.zeroCells, Value.cells]
  have h1 : ∀ v ∈ (Builtin.zeroCells (.agg #[.int .i64 0, .int .i64 0, .int .i64 0, .int .i64 0, .bool false] : Value).cells n).toList, v.oneCell' = true := by
    intro v hv
    obtain ⟨i, hi, rfl⟩ := List.getElem_of_mem hv
    rw [hlen] at hi
    have hm : i % 5 < 5 := by omega
    have hall : ∀ t, t < 5 → (((.agg #[.int .i64 0, .int .i64 0, .int .i64 0, .int .i64 0, .bool false] : Value).cells)[t]!).oneCell' = true := by decide
    simp only [Builtin.zeroCells, Value.cells] at hall ⊢
    simp
    have := hall _ hm
    simpa using this
  obtain ⟨zs, hzs⟩ : ∃ zs, (Builtin.zeroCells (.agg #[.int .i64 0, .int .i64 0, .int .i64 0, .int .i64 0, .bool false] : Value).cells n).toList = zs := ⟨_, rfl⟩
  have hst := run_storeCells_cells (P := Try.prog) b o zs 0 w (by rw [← hzs, hlen]; simpa using hc) (by rw [← hzs, hlen]; simpa using hf) (by rw [← hzs]; exact h1)
  simp only [Nat.add_zero] at hst
  rw [hzs]
  obtain ⟨m, rfl⟩ : ∃ m, n = m + 1 := ⟨n - 1, by omega⟩
  simp [Builtin.clear_, run_underlying Try.underlying41, hz, Value.cells] at hzs ⊢
  rw [hzs, hst]
  rfl

/-- What is kept, so far. -/
theorem keptK_succ (p : Known → Bool) {l : List Known} {k : Nat} (h : k < l.length) : (l.take (k + 1)).filter (fun x => !p x) = (l.take k).filter (fun x => !p x) ++ (if p l[k] then [] else [l[k]]) := by
  rw [take_succ_at h, List.filter_append]
  congr 1
  cases hq : p l[k] <;> simp [hq]

set_option maxHeartbeats 8000000 in
theorem deleteFuncK_c {g : FuncId} {caps : Array Value} {R : World → Prop} {p : Known → Bool} (l : List Known) (base : Nat) (v : Value) (w : World) (hp : TestK g caps R p) (hR : R w) (ho : Own encK 5 w base 51 v l)
    (hset : ∀ b, v.ownBlock = some b → ∀ (w1 : World) (vs : List Value) (o : Nat), R w1 → R (w1.setCells b o vs)) (hbase : base ≤ w.heap.size) (hl : l.length ≤ 1000000) :
    Calls Try.prog 87 #[v, .func (.func g) #[] caps] w fun e w' => Below base w w' ∧ ∃ v', e = .returned v' ∧ Own encK 5 w' base 51 v' (l.filter fun x => !p x) := by
  have eg := hp.enters
  have hidx := indexFuncK_c l v w hp hR (ho.rd encK_len)
  have HP := Lib.hid hp
  have HIDX := Lib.hid hidx
  have HOWN := Lib.hid ho
  have HSET := Lib.hid hset
  clear hp hidx hset
  rcases ho.shape with ⟨rfl, rfl⟩ | ⟨g0, cap, cur, rfl, hg0, hg0lt, _, hcap, hcapm, _, _⟩
  · go_enter Try.func87, Try.ntmps87
    go_wp2_with fail
    go_at_call 115; refine HIDX.out.mono ?_; rintro e w1 ⟨rfl, hb⟩
    have hi : indexK p ([] : List Known) = -1 := rfl
    rw [hi]
    go_wp2_with fail
    go_ret
    exact ⟨hb.mono hbase, _, rfl, Own.nil _ _ _⟩
  · clear ho
    by_cases hneg1 : indexK p l = -1
    · rw [hneg1] at HIDX
      have hno : l.filter (fun x => !p x) = l := by
        rw [List.filter_eq_self]
        intro x hx
        cases hq : p x with
        | false => rfl
        | true =>
          have : 0 ≤ indexK p l := (indexK_any p l).2 (List.any_eq_true.2 ⟨x, hx, hq⟩)
          omega
      have HNO := Lib.hid hno
      clear hneg1 hno
      go_enter Try.func87, Try.ntmps87
      go_wp2_with fail
      go_at_call 115; refine HIDX.out.mono ?_; rintro e w1 ⟨rfl, hb⟩
      go_wp2_with fail
      go_ret
      exact ⟨hb.mono hbase, _, rfl, by rw [HNO.out]; exact HOWN.out.below hb⟩
    · obtain ⟨i, hi, hpi, hbi, hie⟩ : ∃ i, ∃ h : i < l.length, p l[i] = true ∧ (∀ j x, j < i → l[j]? = some x → p x = false) ∧ indexK p l = i := by
        unfold indexK at hneg1 ⊢
        cases h : l.findIdx? p with
        | none => rw [h] at hneg1; exact absurd rfl hneg1
        | some i =>
          rw [List.findIdx?_eq_some_iff_getElem] at h
          obtain ⟨h1, h2, h3⟩ := h
          exact ⟨i, h1, h2, fun j x hj hx => by
            obtain ⟨hjl, rfl⟩ := List.getElem?_eq_some_iff.1 hx
            simpa using h3 j hj, rfl⟩
      rw [hie] at HIDX
      have hpre : (l.take i).filter (fun x => !p x) = l.take i := by
        rw [List.filter_eq_self]
        intro x hx
        obtain ⟨j, hj, rfl⟩ := List.getElem_of_mem hx
        rw [List.length_take] at hj
        have hjl : j < l.length := by omega
        have := hbi j l[j] (by omega) (List.getElem?_eq_getElem hjl)
        rw [List.getElem_take, this]; rfl
      have hst : (l.take (i + 1)).filter (fun x => !p x) = l.take i := by
        rw [keptK_succ p hi, hpre, hpi]; simp
      have HST := Lib.hid hst
      have hneg : ((i : Int) == -1) = false := beq_eq_false_iff_ne.2 (by omega)
      have hlen : l.length ≤ 9223372036854775807 := by omega
      clear hneg1 hpi hbi hie hpre hst
      go_enter Try.func87, Try.ntmps87
      go_wp2_with fail
      go_at_call 115; refine HIDX.out.mono ?_; rintro e w1 ⟨rfl, hb⟩
      have HB1 := Lib.hid hb
      have HR1 := Lib.hid (HP.out.keep _ _ hR hb)
      clear hb hneg HIDX
      have hneg : ((i : Int) == -1) = false := beq_eq_false_iff_ne.2 (by omega)
      go_wp2_with fail
      go_loopw [5, 6] (fun s5 s6 wr => ∃ (j n : Nat) (Q : List Known), j ≤ l.length ∧ n < j ∧ s5 = .int .i64 n ∧ s6 = .int .i64 j ∧ ((l.take j).filter (fun x => !p x)).length = n ∧ Q.length = l.length ∧ Own encK 5 wr base 51 (.slice (some ⟨g0, 0, none⟩) l.length cap) Q ∧
        Q.take n = (l.take j).filter (fun x => !p x) ∧ Q.drop j = l.drop j ∧ R wr ∧ Below base w wr) (fun _ s6 _ => l.length - (intOf s6).toNat)
      case atStart => exact ⟨i + 1, i, l, by omega, by omega, rfl, by go_num, by rw [HST.out, List.length_take, Nat.min_eq_left (by omega)], rfl, HOWN.out.below HB1.out, by rw [HST.out], rfl, HR1.out, HB1.out.mono hbase⟩
      case round =>
        clear HB1 HR1 HST hneg hi hR HOWN
        obtain ⟨j, n, Q, hj, hnj, rfl, rfl, hgl, hQl, hQ, hQt, hQd, hr, hb⟩ := hrel
        by_cases hlt : j < l.length
        · have hQj : Q[j]'(by omega) = l[j] := by
            have h1 : (Q.drop j)[0]? = (l.drop j)[0]? := by rw [hQd]
            rw [List.getElem?_drop, List.getElem?_drop, Nat.add_zero, List.getElem?_eq_getElem (by omega), List.getElem?_eq_getElem hlt] at h1
            exact Option.some.inj h1
          have hjQ : j < Q.length := by omega
          have hcell := fun i u (hu : (encK Q[j])[i]? = some u) => (hQ.cellOf encK_len hQl.symm j hjQ i u hu).1
          rw [hQj] at hcell
          have hks := keptK_succ p hlt
          obtain ⟨x, hx⟩ : ∃ x, l[j] = x := ⟨_, rfl⟩
          rw [hx] at hcell hks
          have z0 := hcell 0 _ rfl
          have z1 := hcell 1 _ rfl
          have z2 := hcell 2 _ rfl
          have z3 := hcell 3 _ rfl
          have z4 := hcell 4 _ rfl
          rw [Nat.add_zero] at z0
          have hQd2 : Q.drop (j + 1) = l.drop (j + 1) := by
            have h1 := congrArg (List.drop 1) hQd
            rw [List.drop_drop, List.drop_drop] at h1
            exact h1
          obtain ⟨W1, hW1⟩ : ∃ W1, wr.alloc (.cells #[.int .i64 x.node, .int .i64 x.peer, .int .i64 x.w, .int .i64 x.session, .bool x.marked] 51) = W1 := ⟨_, rfl⟩
          obtain ⟨BK, hBK⟩ : ∃ BK, wr.heap.size = BK := ⟨_, rfl⟩
          have f1 := alloc_facts hW1
          have hbk := f1.1
          rw [hBK] at hbk
          have hQ1 := hQ.below f1.2.2.1
          have hr1 := HP.out.keep _ _ hr f1.2.2.1
          have hb1 := hb.trans (f1.2.2.1.mono (by have := hb.size; omega))
          have hc := HP.out.call x W1 hr1
          have hj0 : (j : Int) < (l.length : Int) := by omega
          have HQ1 := Lib.hid hQ1
          have HB1 := Lib.hid hb1
          have HBK := Lib.hid hbk
          have HBKE := Lib.hid hBK
          have HR1 := Lib.hid hr1
          have HKS := Lib.hid hks
          have HGL := Lib.hid hgl
          have HQT := Lib.hid hQt
          have HQD := Lib.hid hQd2
          have y0 := cell_in hbk 0 _ rfl
          have y1 := cell_in hbk 1 _ rfl
          have y2 := cell_in hbk 2 _ rfl
          have y3 := cell_in hbk 3 _ rfl
          have y4 := cell_in hbk 4 _ rfl
          obtain ⟨q, hq⟩ : ∃ q, p x = q := ⟨_, rfl⟩
          rw [hq] at hc hks
          have HC := Lib.hid hc
          have HKQ := Lib.hid hks
          clear hQ hr hb f1 hbk hQ1 hr1 hb1 hc hq hx hks hgl hQt hQd hQd2 hcell hQj
          cases q
          · go_wp2_with fail
            go_at_fn g; refine HC.out.mono ?_; rintro e w2 ⟨rfl, hb2⟩
            have hQ2 := HQ1.out.below hb2
            have hbk2 := block_of_below HBK.out hb2
            have HB2 := Lib.hid (HB1.out.trans (hb2.mono (by have := HB1.out.size; omega)))
            have HR2 := Lib.hid (HP.out.keep _ _ HR1.out hb2)
            have HQ2 := Lib.hid hQ2
            have hnQ : n < Q.length := by omega
            obtain ⟨r0, s0⟩ := HQ2.out.cellOf encK_len hQl.symm n hnQ 0 _ rfl
            obtain ⟨r1, s1⟩ := HQ2.out.cellOf encK_len hQl.symm n hnQ 1 _ rfl
            obtain ⟨r2, s2⟩ := HQ2.out.cellOf encK_len hQl.symm n hnQ 2 _ rfl
            obtain ⟨r3, s3⟩ := HQ2.out.cellOf encK_len hQl.symm n hnQ 3 _ rfl
            obtain ⟨r4, s4⟩ := HQ2.out.cellOf encK_len hQl.symm n hnQ 4 _ rfl
            rw [Nat.add_zero] at r0 s0
            have n0 : (0 : Int) ≤ (n : Int) := by omega
            have n1 : (n : Int) < (l.length : Int) := by omega
            have y0 := cell_in hbk2 0 _ rfl
            have y1 := cell_in hbk2 1 _ rfl
            have y2 := cell_in hbk2 2 _ rfl
            have y3 := cell_in hbk2 3 _ rfl
            have y4 := cell_in hbk2 4 _ rfl
            clear hb2 hQ2 hbk2 hW1 hBK
            go_wp2_with fail
            go_roundw
            case rel =>
              have hs := HQ2.out.set encK_len hQl.symm n hnQ x
              refine ⟨j + 1, n + 1, Q.set n x, by omega, by omega, by go_num, by go_num, ?_, by rw [List.length_set]; exact hQl, hs, ?_, ?_, ?_, ?_⟩
              · rw [HKQ.out, List.length_append, HGL.out]; rfl
              · rw [HKQ.out, ← HQT.out, take_succ_at (by rw [List.length_set]; omega), List.take_set_of_le (Nat.le_refl _), List.getElem_set_self]; rfl
              · rw [List.drop_set_of_lt (by omega)]
                exact HQD.out
              · exact HSET.out g0 rfl _ (encK x) (n * 5) HR2.out
              · exact below_setCells hg0 (encK x) (n * 5) _ _ HB2.out
            case measure => (simp [intOf]) <;> omega
          · go_wp2_with fail
            go_at_fn g; refine HC.out.mono ?_; rintro e w2 ⟨rfl, hb2⟩
            have HB2 := Lib.hid (HB1.out.trans (hb2.mono (by have := HB1.out.size; omega)))
            have HR2 := Lib.hid (HP.out.keep _ _ HR1.out hb2)
            have HQ2 := Lib.hid (HQ1.out.below hb2)
            clear hb2 hW1 hBK
            go_wp2_with fail
            go_roundw
            case rel =>
              refine ⟨j + 1, n, Q, by omega, by omega, rfl, by go_num, by rw [HKQ.out, List.length_append, HGL.out]; simp, hQl, HQ2.out, by rw [HKQ.out, HQT.out]; simp, HQD.out, HR2.out, HB2.out⟩
            case measure => (simp [intOf]) <;> omega
        · obtain rfl : j = l.length := by omega
          rw [List.take_length] at hgl hQt
          have hQ' : Own encK 5 wr base 51 (.slice (some ⟨g0, 0, none⟩) Q.length cap) Q := by rw [hQl]; exact hQ
          have hfr := fun t (ht : t < (l.length - n) * 5) => World.ownsRow.frozenAt hQ' (n * 5 + t)
          have hce := fun t (ht : t < (l.length - n) * 5) => World.ownsRow.cellAt hQ' (n * 5 + t) (by omega)
          have hfl := flat_length encK_len Q
          have hcl := fun ty => clearRunK wr ty g0 (n * 5) (l.length - n) (cap - n) (by omega) (fun t ht => by
            rw [hce t ht, List.getElem?_eq_getElem (by rw [hfl]; omega)]; rfl) hfr
          have hQ4 := Own.take encK_len hQ' n (by omega)
          rw [hQt] at hQ4
          have HQ4 := Lib.hid hQ4
          have HB4 := Lib.hid hb
          have HGL := Lib.hid hgl
          have n0 : (0 : Int) ≤ (n : Int) := by omega
          have n1 : (n : Int) ≤ (l.length : Int) := by omega
          have n2 : (n : Int) ≤ (cap : Int) := by omega
          obtain ⟨zs, hzs⟩ : ∃ zs, (Builtin.zeroCells (.agg #[.int .i64 0, .int .i64 0, .int .i64 0, .int .i64 0, .bool false] : Value).cells (l.length - n)).toList = zs := ⟨_, rfl⟩
          rw [hzs] at hcl
          clear hQ hQ' hQ4 hb hr hgl hQt hQd hfr hce hfl hzs
          go_wp2_with fail
          go_ret
          have hn4 := HGL.out
          exact ⟨below_setCells hg0 _ _ _ _ HB4.out, _, rfl, own_clear hn4.symm _ _ _ HQ4.out (by rw [flat_length encK_len, hn4]; omega)⟩

end Go.Proofs.Ytandminldgiheaa
