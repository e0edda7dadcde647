/- Walk: which edges may be together (the program): a map of ends. -/
import Derived.Test.YtandminldgiheaaEdgeW
import Derived.Test.YtandminldgiheaaEdgeEq
import Derived.Test.YtandminldgiheaaMapOwn
namespace Go.Proofs.Ytandminldgiheaa
open Go.RowKit

def kencP (p : Int × Int) : Value := .agg #[.int .i64 p.1, .int .i64 p.2, .int .i64 0]
theorem chkE (b : Bool) (x y : Int) (w : World) : (Instr.checkKey b 10000 24 (.agg #[.int .i64 x, .int .i64 y, .int .i64 0])).run Try.prog w = .ok () w := by kernel_rfl
theorem keyE : KeyLaw Try.prog 24 kencP where
  desc := ⟨_, fieldsE⟩
  chk b k w := chkE b k.1 k.2 w
  eq a b w _ := by
    unfold kencP Op.equal
    show (Op.equalIn 10000 _ _ _).run _ _ = _
    rw [equalE]
    congr 1
    rw [Bool.eq_iff_iff]; simp [Prod.ext_iff]
  bits k := by simp [kencP, Instr.sameBits]

/-- What the map holds behind some edges. -/
def MetIs (m : List ((Int × Int) × Bool)) (l : List Edge) : Prop := ∀ a b : Int, look (a, b) m = if l.any (fun e => e.a == a && e.b == b) then some true else none
theorem MetIs.snoc {m : List ((Int × Int) × Bool)} {l : List Edge} (h : MetIs m l) (e : Edge) : MetIs (put (e.a, e.b) true m) (l ++ [e]) := by
  intro a b
  rw [look_put, h a b]
  by_cases he : a = e.a ∧ b = e.b
  · rw [if_pos (by rw [he.1, he.2])]; simp [he.1, he.2]
  · have h1 : ¬ ((a, b) = (e.a, e.b)) := fun h => he ⟨congrArg Prod.fst h, congrArg Prod.snd h⟩
    have h2 : (e.a == a && e.b == b) = false := by
      rw [Bool.and_eq_false_iff]
      by_cases h3 : e.a = a
      · right; simp; intro h4; exact he ⟨h3.symm, h4.symm⟩
      · left; simpa using h3
    rw [if_neg h1, List.any_append, List.any_cons, List.any_nil, h2, Bool.or_false, Bool.or_false]
theorem MetIs.ok {m : List ((Int × Int) × Bool)} {l : List Edge} {k : Nat} (h : MetIs m (l.take k)) (hk : k < l.length) (ha : apart (l.take k) = true) (hl : look (l[k].a, l[k].b) m = none) : apart (l.take (k + 1)) = true := by
  rw [take_succ_at hk, apart_snoc]
  refine ⟨ha, fun x hx hh => ?_⟩
  rw [h] at hl
  rw [if_pos] at hl
  · cases hl
  · rw [List.any_eq_true]; exact ⟨x, hx, by simp [hh.1, hh.2]⟩
theorem MetIs.not {m : List ((Int × Int) × Bool)} {l : List Edge} {k : Nat} (h : MetIs m (l.take k)) (hk : k < l.length) (hl : look (l[k].a, l[k].b) m ≠ none) : check l = 1 := by
  apply check_of_not_apart
  cases hap : apart l with
  | false => rfl
  | true =>
    have h2 := apart_take (k + 1) hap
    rw [take_succ_at hk, apart_snoc] at h2
    rw [h] at hl
    split at hl
    · rename_i h3
      rw [List.any_eq_true] at h3
      obtain ⟨x, hx, hh⟩ := h3
      simp at hh
      exact absurd ⟨hh.1.symm, hh.2.symm⟩ (h2.2 x hx)
    · exact absurd rfl hl
theorem MetIs.two {m : List ((Int × Int) × Bool)} {l : List Edge} (h : MetIs m l) (a b : Int) : look (a, b) m = none ∨ look (a, b) m = some true := by
  rw [h]; split <;> simp

set_option maxHeartbeats 1000000 in
theorem edgeCheckAll_c (l : List Edge) (v : Value) (w : World) (hv : RdE w v l) :
    Calls Try.prog 24 #[v] w fun e w' => e = .returned (.int .i64 (check l)) ∧ Below w.heap.size w w' := by
  obtain ⟨A0, c0, rfl, h10, h20, h30⟩ := hv
  have hn : l.length ≤ 9223372036854775807 := by omega
  clear h10 h20
  have hmm := @run_makeMap Try.prog
  have hmap := MapIs.made (kenc := kencP) (venc := Value.bool) w
  have HMAP := Lib.hid hmap
  clear hmap
  go_enter Try.func24, Try.ntmps24
  go_wp2_with fail
  clear hmm
  go_loopw [10] (fun i wr => ∃ (k : Nat) (m : List ((Int × Int) × Bool)), k ≤ l.length ∧ i = .int .i64 k ∧ (∀ i x, i < k → l[i]? = some x → may x = true) ∧ apart (l.take k) = true ∧ MetIs m (l.take k) ∧ MapIs kencP Value.bool wr w.heap.size m ∧ Below w.heap.size w wr) (fun i _ => l.length - (intOf i).toNat)
  case atStart => exact ⟨0, [], by omega, rfl, by omega, rfl, fun a b => by simp [look], HMAP.out, (Below.refl _ _).alloc (Nat.le_refl _) _⟩
  case round =>
    clear HMAP
    obtain ⟨k, m, hk, rfl, hs, ha, hmet, hmap, hb⟩ := hrel
    have HS := Lib.hid hs
    have HA := Lib.hid ha
    have HMET := Lib.hid hmet
    have HMAP := Lib.hid hmap
    have HB := Lib.hid hb
    clear hs ha hmet hmap
    by_cases hlt : k < l.length
    · obtain ⟨b0, o0, rfl, hbw, g0⟩ := h30 (by intro h; subst h; simp at hlt)
      obtain ⟨x0, x1, x2⟩ := cells_E g0 k hlt
      replace x0 := cell_of_below hb x0
      replace x1 := cell_of_below hb x1
      replace x2 := cell_of_below hb x2
      clear g0 h30 hb
      have hi0 : (k : Int) < (l.length : Int) := by omega
      have hc := fun W => edgeCheck_c l[k] W
      cases hm : may l[k]
      · rw [hm] at hc
        have HC := Lib.hid hc
        have HM := Lib.hid hm
        clear hc hm
        go_wp2_with (go_at_call 56; refine (HC.out _).mono ?_; rintro e w' ⟨rfl, rfl⟩)
        go_ret
        refine ⟨ret_i ?_, ((HB.out.alloc HB.out.size _).alloc (by simp; have := HB.out.size; omega) _).alloc (by simp; have := HB.out.size; omega) _⟩
        rw [check_of_not_may (List.getElem_mem hlt) HM.out]
      · rw [hm] at hc
        have HC := Lib.hid hc
        have HM := Lib.hid hm
        clear hc hm
        have hsz := HB.out.size
        have hz := fun W => Try.zeroValue4 W
        rcases HMET.out.two l[k].a l[k].b with hl | hl
        · have HL := Lib.hid hl
          go_wp2_with (first | (go_at_call 56; refine (HC.out _).mono ?_; rintro e w' ⟨rfl, rfl⟩) | (at_lookup; refine wpList_lookup_m keyE Try.underlying78 (.bool false) (hz _) (l[k].a, l[k].b) m _ _ false rfl rfl (by exact ((HMAP.out.alloc _).alloc _).alloc _) rfl rfl ?_) | (at_mapUpdate; refine wpList_update_m keyE Try.underlying78 (l[k].a, l[k].b) true m _ _ _ rfl rfl (by exact ((HMAP.out.alloc _).alloc _).alloc _) rfl rfl rfl ?_; intro w9 hm9 hg9 hz9))
          go_roundw
          case rel =>
            refine ⟨k + 1, _, by omega, by go_num, fun i x hi hx => ?_, HMET.out.ok hlt HA.out HL.out, ?_, hm9, ?_⟩
            · by_cases h : i < k
              · exact HS.out i x h hx
              · obtain rfl : i = k := by omega
                rw [List.getElem?_eq_getElem hlt] at hx
                obtain rfl := Option.some.inj hx
                exact HM.out
            · rw [take_succ_at hlt]; exact HMET.out.snoc _
            · exact (((HB.out.alloc hsz _).alloc (by simp; omega) _).alloc (by simp; omega) _).grown hg9 (by simp; omega) (fun j hj => by injection hj with hj; omega)
          case measure => simp [intOf]; omega
        · have HL := Lib.hid hl
          go_wp2_with (first | (go_at_call 56; refine (HC.out _).mono ?_; rintro e w' ⟨rfl, rfl⟩) | (at_lookup; refine wpList_lookup_m keyE Try.underlying78 (.bool false) (hz _) (l[k].a, l[k].b) m _ _ false rfl rfl (by exact ((HMAP.out.alloc _).alloc _).alloc _) rfl rfl ?_))
          go_ret
          refine ⟨ret_i ?_, ((HB.out.alloc hsz _).alloc (by simp; omega) _).alloc (by simp; omega) _⟩
          rw [HMET.out.not hlt (by rw [HL.out]; simp)]
    · have HK : k = l.length := by omega
      subst HK
      have hl : ∀ x ∈ l, may x = true := fun x hx => by
        obtain ⟨i, hi, rfl⟩ := List.getElem_of_mem hx
        exact HS.out i _ hi (List.getElem?_eq_getElem hi)
      have hch := check_of hl (by have := HA.out; rwa [List.take_length] at this)
      have HCH := Lib.hid hch
      clear hch hl hb
      by_cases h512 : 512 < l.length
      all_goals
        go_wp2
        go_ret
        exact ⟨ret_i (by rw [HCH.out]; simp [h512]), HB.out⟩

end Go.Proofs.Ytandminldgiheaa
