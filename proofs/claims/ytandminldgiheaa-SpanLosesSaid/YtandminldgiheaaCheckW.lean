/- Walk: which edges may be together (the reference): an array of pairs. -/
import Derived.Test.YtandminldgiheaaEdgeW
namespace Go.Proofs.Ytandminldgiheaa
open Go.RowKit

def zPairs : Array Value := Array.replicate 4225 (.bool false)
theorem zPairs_size : zPairs.size = 4225 := by simp [zPairs]
theorem zPairs_one : zPairs.all (·.oneCell') = true := by
  rw [Array.all_eq_true_iff_forall_mem]
  intro v hv
  simp only [zPairs, Array.mem_replicate] at hv
  rw [hv.2]; rfl
theorem zPairs_info : (Try.prog.info? 65).map (fun i => (i.zero, i.size)) = some (some (.agg zPairs), 4225) := by kernel_rfl
/-- Is pair number i among those of the first edges? -/
def met (l : List Edge) (i : Nat) : Bool := l.any (fun e => e.a.toNat * 65 + e.b.toNat == i)

theorem met_snoc (l : List Edge) (e : Edge) (i : Nat) : met (l ++ [e]) i = (met l i || (e.a.toNat * 65 + e.b.toNat == i)) := by simp [met]
theorem met_iff {l : List Edge} (hl : ∀ x ∈ l, may x = true) {e : Edge} (he : may e = true) :
    met l (e.a.toNat * 65 + e.b.toNat) = true ↔ ∃ x ∈ l, e.a = x.a ∧ e.b = x.b := by
  unfold met
  rw [List.any_eq_true]
  constructor
  · rintro ⟨x, hx, h⟩
    have h1 := may_bounds (hl x hx)
    have h2 := may_bounds he
    simp only [beq_iff_eq] at h
    exact ⟨x, hx, by omega, by omega⟩
  · rintro ⟨x, hx, h1, h2⟩
    exact ⟨x, hx, by rw [h1, h2]; simp⟩
theorem met_ok {l : List Edge} {k : Nat} (hk : k < l.length) (hs : ∀ i x, i < l.length → l[i]? = some x → may x = true) (ha : apart (l.take k) = true)
    (h : met (l.take k) (l[k].a.toNat * 65 + l[k].b.toNat) = false) : apart (l.take (k + 1)) = true := by
  rw [take_succ_at hk, apart_snoc]
  refine ⟨ha, fun x hx hh => ?_⟩
  have hl : ∀ x ∈ l, may x = true := fun x hx => by
    obtain ⟨i, hi, rfl⟩ := List.getElem_of_mem hx
    exact hs i _ hi (List.getElem?_eq_getElem hi)
  have := (met_iff (l := l.take k) (fun x hx => hl x (List.mem_of_mem_take hx)) (hl _ (List.getElem_mem hk))).2 ⟨x, hx, hh⟩
  rw [h] at this; cases this
theorem met_not {l : List Edge} {k : Nat} (hk : k < l.length) (hs : ∀ i x, i < l.length → l[i]? = some x → may x = true)
    (h : met (l.take k) (l[k].a.toNat * 65 + l[k].b.toNat) = true) : check l = 1 := by
  apply check_of_not_apart
  cases hap : apart l with
  | false => rfl
  | true =>
    have h2 := apart_take (k + 1) hap
    rw [take_succ_at hk, apart_snoc] at h2
    have hl : ∀ x ∈ l, may x = true := fun x hx => by
      obtain ⟨i, hi, rfl⟩ := List.getElem_of_mem hx
      exact hs i _ hi (List.getElem?_eq_getElem hi)
    obtain ⟨x, hx, hh⟩ := (met_iff (l := l.take k) (fun x hx => hl x (List.mem_of_mem_take hx)) (hl _ (List.getElem_mem hk))).1 h
    exact absurd hh (h2.2 x hx)

set_option maxHeartbeats 1000000 in
theorem refCheck_c (l : List Edge) (v : Value) (w : World) (hv : RdE w v l) :
    Calls Try.prog 10 #[v] w fun e w' => e = .returned (.int .i64 (check l)) ∧ Below w.heap.size w w' := by
  obtain ⟨A0, c0, rfl, h10, h20, h30⟩ := hv
  have hn : l.length ≤ 9223372036854775807 := by omega
  clear h10 h20
  go_enter Try.func10, Try.ntmps10
  go_wp2_with fail
  go_loopw [3] (fun i wr => ∃ k : Nat, k ≤ l.length ∧ i = .int .i64 k ∧ (∀ i x, i < k → l[i]? = some x → may x = true) ∧ Below w.heap.size w wr) (fun i _ => l.length - (intOf i).toNat)
  case atStart => exact ⟨0, by omega, rfl, by omega, Below.refl _ _⟩
  case round =>
    obtain ⟨k, hk, rfl, hs, hb⟩ := hrel
    have HS := Lib.hid hs
    have HB := Lib.hid hb
    clear hs
    by_cases hlt : k < l.length
    · obtain ⟨b0, o0, rfl, _, g0⟩ := h30 (by intro h; subst h; simp at hlt)
      obtain ⟨x0, x1, x2⟩ := cells_E g0 k hlt
      replace x0 := cell_of_below hb x0
      replace x1 := cell_of_below hb x1
      replace x2 := cell_of_below hb x2
      clear g0 h30 hb
      have hi0 : (k : Int) < (l.length : Int) := by omega
      have hc := refMay_c l[k]
      by_cases hm : may l[k] = true
      · have HM := Lib.hid hm
        rw [hm] at hc
        have HC := Lib.hid hc
        clear hm hc
        go_wp2_with (go_at_call 41; refine (HC.out _).mono ?_; rintro e w' ⟨rfl, rfl⟩)
        go_roundw
        case rel => exact ⟨k + 1, by omega, by go_num, fun i x hi hx => by
          by_cases h : i < k
          · exact HS.out i x h hx
          · obtain rfl : i = k := by omega
            rw [List.getElem?_eq_getElem hlt] at hx
            obtain rfl := Option.some.inj hx
            exact HM.out, HB.out.alloc HB.out.size _⟩
        case measure => simp [intOf]; omega
      · have hm' : may l[k] = false := by simpa using hm
        have HM := Lib.hid hm'
        rw [hm'] at hc
        have HC := Lib.hid hc
        clear hm hc hm'
        go_wp2_with (go_at_call 41; refine (HC.out _).mono ?_; rintro e w' ⟨rfl, rfl⟩)
        go_ret
        refine ⟨ret_i ?_, HB.out.alloc HB.out.size _⟩
        rw [check_of_not_may (List.getElem_mem hlt) HM.out]
    · clear hb
      have hi0 : ¬ ((k : Int) < (l.length : Int)) := by omega
      have hsz := HB.out.size
      go_wp2_with (refine wpList_zero_array 65 zPairs 4225 65 64 _ _ zPairs_info zPairs_size Try.underlying65 65 (Try.sizeOf64 _) zPairs_one rfl rfl rfl rfl rfl rfl rfl rfl ?_)
      have HK : k = l.length := by omega
      subst HK
      obtain ⟨B, hB⟩ : ∃ B, B = wr.heap.size := ⟨_, rfl⟩
      have hrow : (wr.alloc (.cells zPairs 65)).rowIs B 65 4225 (fun i => .bool (met (l.take 0) i)) := by
        have h := World.rowIs_alloc wr zPairs 65 (fun i => .bool (met (l.take 0) i)) (fun i hi => by
          have hi' : i < 4225 := by rw [zPairs_size] at hi; exact hi
          simp [zPairs, hi', met])
        rw [zPairs_size] at h
        rw [hB]; exact h
      have hb2 : Below w.heap.size w (wr.alloc (.cells zPairs 65)) := HB.out.alloc hsz _
      have hBlt : w.heap.size ≤ B := by omega
      generalize wr.alloc (.cells zPairs 65) = W1 at hrow hb2 ⊢
      have hp : (⟨wr.heap.size, 0, none⟩ : Addr) = ⟨B, 0, none⟩ := by rw [hB]
      rw [hp]
      clear hp HB hB hsz
      have HROW := Lib.hid hrow
      have HB2 := Lib.hid hb2
      clear hrow hb2 hi0 hlt hk
      go_loopw [5] (fun i wr => ∃ k : Nat, k ≤ l.length ∧ i = .int .i64 k ∧ apart (l.take k) = true ∧ wr.rowIs B 65 4225 (fun i => .bool (met (l.take k) i)) ∧ Below w.heap.size w wr) (fun i _ => l.length - (intOf i).toNat)
      case atStart => exact ⟨0, by omega, rfl, rfl, HROW.out, HB2.out⟩
      case round =>
        clear HROW HB2
        obtain ⟨k, hk, rfl, ha, hr, hb⟩ := hrel
        have HA := Lib.hid ha
        have HR := Lib.hid hr
        have HB := Lib.hid hb
        clear ha hr
        by_cases hlt : k < l.length
        · obtain ⟨b0, o0, rfl, _, g0⟩ := h30 (by intro h; subst h; simp at hlt)
          obtain ⟨x0, x1, x2⟩ := cells_E g0 k hlt
          replace x0 := cell_of_below hb x0
          replace x1 := cell_of_below hb x1
          replace x2 := cell_of_below hb x2
          clear g0 h30 hb
          have hi0 : (k : Int) < (l.length : Int) := by omega
          have hmay := may_bounds (HS.out k _ hlt (List.getElem?_eq_getElem hlt))
          obtain ⟨ha0, ha1, hb0, hb1, hab⟩ := hmay
          have hcell := HR.out.cell (i := l[k].a.toNat * 65 + l[k].b.toNat) (by omega)
          have hfro := HR.out.frozen (l[k].a.toNat * 65 + l[k].b.toNat)
          obtain ⟨r, hr⟩ : ∃ r, met (l.take k) (l[k].a.toNat * 65 + l[k].b.toNat) = r := ⟨_, rfl⟩
          rw [hr] at hcell
          have HM := Lib.hid hr
          clear hr
          cases r
          · go_wp2
            go_quiet (fail)
            go_wp2
            go_region
            go_wp2
            go_roundw
            case rel =>
              refine ⟨k + 1, by omega, by go_num, met_ok hlt HS.out HA.out HM.out, ?_, ?_⟩
              · refine (World.rowIs.set (w := wr.drewN (nq + 1)) HR.out _ _).congr (fun i _ => ?_)
                show (if i = _ then Value.bool true else Value.bool (met (List.take k l) i)) = _
                rw [take_succ_at hlt, met_snoc]
                by_cases he : i = l[k].a.toNat * 65 + l[k].b.toNat
                · subst he; simp
                · rw [if_neg he]
                  have : (l[k].a.toNat * 65 + l[k].b.toNat == i) = false := by simp; omega
                  rw [this, Bool.or_false]
              · exact (below_drewN HB.out _).setCell hBlt _
            case measure => simp [intOf]; omega
          · go_wp2
            go_quiet (fail)
            go_wp2
            go_ret
            exact ⟨ret_i (by rw [met_not hlt HS.out HM.out]), below_drewN HB.out _⟩
        · have HK : k = l.length := by omega
          subst HK
          have hl : ∀ x ∈ l, may x = true := fun x hx => by
            obtain ⟨i, hi, rfl⟩ := List.getElem_of_mem hx
            exact HS.out i _ hi (List.getElem?_eq_getElem hi)
          have hch := check_of hl (by have := HA.out; rwa [List.take_length] at this)
          have HCH := Lib.hid hch
          clear hch hl hb
          by_cases h512 : 512 < l.length
          all_goals
            go_wp2
            go_ret
            exact ⟨ret_i (by rw [HCH.out]; simp [h512]), HB.out⟩

end Go.Proofs.Ytandminldgiheaa
