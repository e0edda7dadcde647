/- Walks: slices.IndexFunc and its kin at links, with a test that turns nothing old. -/
import Derived.Test.YtandminldgiheaaOwn
import Derived.Test.YtandminldgiheaaKnownEq
namespace Go.Proofs.Ytandminldgiheaa
open Go.RowKit Go.Shelf

/-- The function value '.func (.func g) #[] caps' answers p in every world of R, and turns nothing old; R stands where nothing old turns. -/
structure TestK (g : FuncId) (caps : Array Value) (R : World → Prop) (p : Known → Bool) : Prop where
  enters : ∀ args w, (callFunc g args).run Try.prog w = .ok (.enter g args) w
  call : ∀ (x : Known) (w : World), R w → Calls Try.prog g (#[.agg #[.int .i64 x.node, .int .i64 x.peer, .int .i64 x.w, .int .i64 x.session, .bool x.marked]] ++ caps) w fun e w' => e = .returned (.bool (p x)) ∧ Below w.heap.size w w'
  keep : ∀ (w w1 : World), R w → Below w.heap.size w w1 → R w1
def indexK (p : Known → Bool) (l : List Known) : Int := match l.findIdx? p with | some i => i | none => -1
theorem indexK_at {p : Known → Bool} {l : List Known} {k : Nat} (hk : k < l.length) (he : p l[k] = true) (hb : ∀ i x, i < k → l[i]? = some x → p x = false) : indexK p l = k := by
  have : l.findIdx? p = some k := by
    rw [List.findIdx?_eq_some_iff_getElem]
    exact ⟨hk, he, fun j hj => by simpa using hb j _ hj (List.getElem?_eq_getElem (by omega))⟩
  unfold indexK; rw [this]
theorem indexK_no {p : Known → Bool} {l : List Known} (hb : ∀ i x, i < l.length → l[i]? = some x → p x = false) : indexK p l = -1 := by
  have : l.findIdx? p = none := by
    rw [List.findIdx?_eq_none_iff]
    intro x hx
    obtain ⟨i, hi, rfl⟩ := List.getElem_of_mem hx
    exact hb i _ hi (List.getElem?_eq_getElem hi)
  unfold indexK; rw [this]
theorem indexK_any (p : Known → Bool) (l : List Known) : 0 ≤ indexK p l ↔ l.any p = true := by
  unfold indexK
  cases h : l.findIdx? p with
  | some i =>
    rw [List.findIdx?_eq_some_iff_getElem] at h
    obtain ⟨hi, he, _⟩ := h
    exact ⟨fun _ => List.any_eq_true.2 ⟨_, List.getElem_mem hi, he⟩, fun _ => by simp⟩
  | none =>
    rw [List.findIdx?_eq_none_iff] at h
    simp
    exact h

set_option maxHeartbeats 2000000 in
theorem indexFuncK_c {g : FuncId} {caps : Array Value} {R : World → Prop} {p : Known → Bool} (l : List Known) (v : Value) (w : World) (hp : TestK g caps R p) (hR : R w) (hv : Rd encK 5 w v l) :
    Calls Try.prog 115 #[v, .func (.func g) #[] caps] w fun e w' => e = .returned (.int .i64 (indexK p l)) ∧ Below w.heap.size w w' := by
  have eg := hp.enters
  have HP := Lib.hid hp
  have HV := Lib.hid hv
  obtain ⟨A0, c0, rfl, h10, h20, _⟩ := hv
  have hn : l.length ≤ 9223372036854775807 := by omega
  clear h10 h20 hp
  go_enter Try.func115, Try.ntmps115
  go_wp2_with fail
  go_loopw [8] (fun s8 wr => ∃ k : Nat, k ≤ l.length ∧ s8 = .int .i64 k ∧ (∀ i x, i < k → l[i]? = some x → p x = false) ∧ Below w.heap.size w wr) (fun s8 _ => l.length - (intOf s8).toNat)
  case atStart => exact ⟨0, by omega, rfl, by omega, Below.refl _ _⟩
  case round =>
    obtain ⟨k, hk, rfl, hs, hb⟩ := hrel
    have HS := Lib.hid hs
    have HB := Lib.hid hb
    have hrd := HV.out.below hb
    clear hs hb
    by_cases hlt : k < l.length
    · obtain ⟨A1, c1, e1, _, _, h3⟩ := hrd
      obtain ⟨b0, o0, rfl, _, g0⟩ := h3 (by intro h; subst h; simp at hlt)
      simp only [Value.slice.injEq, true_and] at e1
      obtain ⟨rfl, rfl⟩ := e1
      obtain ⟨x0, x1, x2, x3, x4⟩ := cells_K g0 k hlt
      have hi0 : (k : Int) < (l.length : Int) := by omega
      have hx : l[k]? = some l[k] := List.getElem?_eq_getElem hlt
      have hat := fun he => indexK_at (p := p) hlt he HS.out
      obtain ⟨x, hxx⟩ : ∃ x, l[k] = x := ⟨_, rfl⟩
      rw [hxx] at x0 x1 x2 x3 x4 hx hat
      have HX := Lib.hid hx
      have HAT := Lib.hid hat
      have hc := HP.out.call x wr (HP.out.keep _ _ hR HB.out)
      obtain ⟨q, hq⟩ : ∃ q, p x = q := ⟨_, rfl⟩
      rw [hq] at hc
      have HC := Lib.hid hc
      have HQ := Lib.hid hq
      clear hxx hx hc hq g0 h3 hat
      cases q
      · go_wp2_with (go_at_fn g; refine HC.out.mono ?_; rintro e w1 ⟨rfl, hb1⟩)
        go_roundw
        case rel => exact ⟨k + 1, by omega, by go_num, fun i y hi hy => by
          by_cases h : i < k
          · exact HS.out i y h hy
          · obtain rfl : i = k := by omega
            rw [HX.out] at hy
            obtain rfl := Option.some.inj hy
            exact HQ.out, below_then HB.out hb1⟩
        case measure => (simp [intOf]) <;> omega
      · go_wp2_with (go_at_fn g; refine HC.out.mono ?_; rintro e w1 ⟨rfl, hb1⟩)
        go_ret
        exact ⟨ret_i (HAT.out HQ.out).symm, below_then HB.out hb1⟩
    · clear hrd
      go_wp2_with fail
      go_ret
      exact ⟨ret_i (indexK_no (fun i x hi hx => HS.out i x (by omega) hx)).symm, HB.out⟩

end Go.Proofs.Ytandminldgiheaa
