/- Walks: what edges link, by sets that are joined; the least forest. -/
import Derived.Test.YtandminldgiheaaPredW
import Derived.Test.YtandminldgiheaaNewW
import Derived.Test.YtandminldgiheaaSortW
namespace Go.Proofs.Ytandminldgiheaa
open Go.RowKit

/-- A join whose sets are what the edges l link. -/
def JoinFor (w : World) (lo hi : Nat) (v : Value) (l : List Edge) : Prop :=
  ∃ R, JoinIs w lo hi v R ∧ ∀ x y : Nat, x < 65 → y < 65 → (R x = R y ↔ Conn l x y)

theorem JoinFor.below {w w1 : World} {lo hi : Nat} {v : Value} {l : List Edge} (h : JoinFor w lo hi v l) (hb : Below w.heap.size w w1) : JoinFor w1 lo hi v l := by
  obtain ⟨R, h1, h2⟩ := h
  exact ⟨R, h1.below hb, h2⟩
theorem JoinFor.of_blocks {w w1 : World} {lo hi : Nat} {v : Value} {l : List Edge} (h : JoinFor w lo hi v l) (hs : w.heap.size ≤ w1.heap.size) (hb : ∀ g, lo ≤ g → g < hi → w1.heap[g]? = w.heap[g]?) : JoinFor w1 lo hi v l := by
  obtain ⟨R, h1, h2⟩ := h
  exact ⟨R, h1.of_blocks hs hb, h2⟩
theorem JoinFor.inside {w : World} {lo hi : Nat} {v : Value} {l : List Edge} (h : JoinFor w lo hi v l) : lo ≤ hi ∧ hi ≤ w.heap.size := by
  obtain ⟨R, ⟨J, U, S, L, cu, cs, cl, lu, ls, ll, n, _, hj, _⟩, _⟩ := h
  have := hj.bounds
  omega
theorem JoinFor.ptr {w : World} {lo hi : Nat} {v : Value} {l : List Edge} (h : JoinFor w lo hi v l) : ∃ J, v = .pointer (some ⟨J, 0, none⟩) := by
  obtain ⟨R, ⟨J, U, S, L, cu, cs, cl, lu, ls, ll, n, e, hj, _⟩, _⟩ := h
  exact ⟨J, e⟩
theorem node_nat {n : Int} (h : node n = true) : ∃ a : Nat, n = a ∧ 1 ≤ a ∧ a < 65 := by
  unfold node at h; simp at h
  exact ⟨n.toNat, by omega, by omega, by omega⟩

theorem uniteE_c {w : World} {lo hi : Nat} {v : Value} {l : List Edge} (h : JoinFor w lo hi v l) (e : Edge) (he : may e = true) :
    Calls Try.prog 45 #[v, .int .i64 e.a, .int .i64 e.b] w fun r w' => r = .returned (.bool (!linked l e.a e.b)) ∧ JoinFor w' lo hi v (l ++ [e]) ∧ Out lo hi w w' := by
  obtain ⟨R, hj, hR⟩ := h
  have h2 : node e.a = true ∧ node e.b = true := by unfold may at he; simp only [Bool.and_eq_true] at he; exact ⟨he.1.1.1.1, he.1.1.1.2⟩
  obtain ⟨a, ha, ha1, ha2⟩ := node_nat h2.1
  obtain ⟨b, hb, hb1, hb2⟩ := node_nat h2.2
  rw [ha, hb]
  refine (joinUnite_c hj a b ha1 ha2 hb1 hb2).mono fun r w' ⟨hr, ⟨R', hj', hm⟩, ho⟩ => ⟨?_, ⟨R', hj', fun x y hx hy => ?_⟩, ho⟩
  · rw [hr]
    refine ret_b ?_
    congr 1
    rw [Bool.eq_iff_iff, decide_eq_true_eq, linked_iff]
    exact hR a b ha2 hb2
  · rw [hm x y hx hy, conn_snoc, hR x y hx hy, hR x a hx ha2, hR y b hy hb2, hR x b hx hb2, hR y a hy ha2, ha, hb]
    constructor
    · rintro (h | ⟨h, k⟩ | ⟨h, k⟩)
      · exact .inl h
      · exact .inr (.inl ⟨h, k.symm⟩)
      · exact .inr (.inr ⟨h, k.symm⟩)
    · rintro (h | ⟨h, k⟩ | ⟨h, k⟩)
      · exact .inl h
      · exact .inr (.inl ⟨h, k.symm⟩)
      · exact .inr (.inr ⟨h, k.symm⟩)

set_option maxHeartbeats 1000000 in
theorem sets_c (w : World) : Calls Try.prog 42 #[] w fun e w' => ∃ v, e = .returned v ∧ JoinFor w' w.heap.size w'.heap.size v [] ∧ Below w.heap.size w w' :=
  (spanSets_c w).mono fun e w' ⟨v, he, hj, hb⟩ => ⟨v, he, ⟨id, hj, fun x y _ _ => by rw [conn_nil]; simp only [id]; omega⟩, hb⟩

/-- The closures' test: the captured variable, in block V, holds a join. -/
def JoinVar (lo hi V : Nat) (l : List Edge) (w : World) : Prop := hi ≤ V ∧ ∃ v, w.heap[V]? = some (.cells #[v] 66 (0, 0)) ∧ JoinFor w lo hi v l

theorem joinVar_keep {lo hi V : Nat} {l : List Edge} {w w' : World} (h : JoinVar lo hi V l w) (hs : w.heap.size ≤ w'.heap.size) (hb : ∀ b, lo ≤ b → b < V + 1 → w'.heap[b]? = w.heap[b]?) : JoinVar lo hi V l w' := by
  obtain ⟨h1, v, h2, h3⟩ := h
  have hin := h3.inside
  exact ⟨h1, v, by rw [hb V (by omega) (by omega)]; exact h2, h3.of_blocks hs fun g hg hg' => hb g hg (by omega)⟩

set_option maxHeartbeats 1000000 in
theorem leastTest_c {lo hi V : Nat} {l : List Edge} {w : World} (h : JoinVar lo hi V l w) (e : Edge) (he : may e = true) :
    Calls Try.prog 44 #[.agg #[.int .i64 e.a, .int .i64 e.b, .int .i64 e.w], .pointer (some ⟨V, 0, none⟩)] w fun r w' => r = .returned (.bool (linked l e.a e.b)) ∧ JoinVar lo hi V (l ++ [e]) w' ∧ Out lo (V + 1) w w' := by
  obtain ⟨hV, v, hc, hj⟩ := h
  have hin := hj.inside
  have hVlt := (Array.getElem?_eq_some_iff.1 hc).1
  have hb := (Below.refl w.heap.size w).alloc (Nat.le_refl _) (.cells #[.int .i64 e.a, .int .i64 e.b, .int .i64 e.w] 24)
  have hcell : (w.alloc (.cells #[.int .i64 e.a, .int .i64 e.b, .int .i64 e.w] 24)).cell? ⟨V, 0, none⟩ = some v := by
    rw [cell_of_row _ V 0 #[v] 66 (0, 0) (by rw [hb.block V hVlt]; exact hc)]; rfl
  have hu := uniteE_c (hj.below hb) e he
  have HU := Lib.hid hu
  have HB := Lib.hid hb
  have HC := Lib.hid hc
  clear hu hb hc hj
  go_enter Try.func44, Try.ntmps44
  go_wp2_with fail
  go_at_call 45; refine HU.out.mono ?_; rintro r w1 ⟨rfl, hj1, ho1⟩
  have HJ1 := Lib.hid hj1
  have HO1 := Lib.hid ho1
  clear hj1 ho1
  go_wp2_with fail
  go_ret
  have hout : Out lo (V + 1) w w1 := by
    have h1 : Out lo hi w _ := Out.of_below HB.out (by omega)
    have h2 := h1.trans HO1.out
    exact ⟨h2.1, fun b hb hl => h2.2 b (by omega) hl⟩
  refine ⟨ret_b (by simp), ⟨hV, v, ?_, HJ1.out⟩, hout⟩
  have h1 := HO1.out.2 V hV (Nat.lt_of_lt_of_le hVlt HB.out.size)
  rw [h1, HB.out.block V hVlt]; exact HC.out

/-- Forest$1 is Least$1 anew. -/
theorem forestTest_c {lo hi V : Nat} {l : List Edge} {w : World} (h : JoinVar lo hi V l w) (e : Edge) (he : may e = true) :
    Calls Try.prog 49 #[.agg #[.int .i64 e.a, .int .i64 e.b, .int .i64 e.w], .pointer (some ⟨V, 0, none⟩)] w fun r w' => r = .returned (.bool (linked l e.a e.b)) ∧ JoinVar lo hi V (l ++ [e]) w' ∧ Out lo (V + 1) w w' := by
  obtain ⟨hV, v, hc, hj⟩ := h
  have hin := hj.inside
  have hVlt := (Array.getElem?_eq_some_iff.1 hc).1
  have hb := (Below.refl w.heap.size w).alloc (Nat.le_refl _) (.cells #[.int .i64 e.a, .int .i64 e.b, .int .i64 e.w] 24)
  have hcell : (w.alloc (.cells #[.int .i64 e.a, .int .i64 e.b, .int .i64 e.w] 24)).cell? ⟨V, 0, none⟩ = some v := by
    rw [cell_of_row _ V 0 #[v] 66 (0, 0) (by rw [hb.block V hVlt]; exact hc)]; rfl
  have hu := uniteE_c (hj.below hb) e he
  have HU := Lib.hid hu
  have HB := Lib.hid hb
  have HC := Lib.hid hc
  clear hu hb hc hj
  go_enter Try.func49, Try.ntmps49
  go_wp2_with fail
  go_at_call 45; refine HU.out.mono ?_; rintro r w1 ⟨rfl, hj1, ho1⟩
  have HJ1 := Lib.hid hj1
  have HO1 := Lib.hid ho1
  clear hj1 ho1
  go_wp2_with fail
  go_ret
  have hout : Out lo (V + 1) w w1 := by
    have h1 : Out lo hi w _ := Out.of_below HB.out (by omega)
    have h2 := h1.trans HO1.out
    exact ⟨h2.1, fun b hb hl => h2.2 b (by omega) hl⟩
  refine ⟨ret_b (by simp), ⟨hV, v, ?_, HJ1.out⟩, hout⟩
  have h1 := HO1.out.2 V hV (Nat.lt_of_lt_of_le hVlt HB.out.size)
  rw [h1, HB.out.block V hVlt]; exact HC.out

theorem leastPred (lo hi V : Nat) : Pred 44 (.pointer (some ⟨V, 0, none⟩)) lo (V + 1) (JoinVar lo hi V) (fun done e => linked done e.a e.b) (fun e => may e = true) where
  enters := enters_of Try.func44 (by kernel_rfl) rfl
  call := fun done e w he h => leastTest_c h e he
  keep := fun done w w' h hs hb => joinVar_keep h hs hb
  inside := fun done w ⟨h1, v, h2, h3⟩ => by
    have := h3.inside
    have := (Array.getElem?_eq_some_iff.1 h2).1
    omega
theorem forestPred (lo hi V : Nat) : Pred 49 (.pointer (some ⟨V, 0, none⟩)) lo (V + 1) (JoinVar lo hi V) (fun done e => linked done e.a e.b) (fun e => may e = true) where
  enters := enters_of Try.func49 (by kernel_rfl) rfl
  call := fun done e w he h => forestTest_c h e he
  keep := fun done w w' h hs hb => joinVar_keep h hs hb
  inside := fun done w ⟨h1, v, h2, h3⟩ => by
    have := h3.inside
    have := (Array.getElem?_eq_some_iff.1 h2).1
    omega

theorem may_of_check {l : List Edge} (h : check l = 0) : ∀ e ∈ l, may e = true := by
  unfold check at h
  split at h
  · rename_i hh
    simp only [Bool.and_eq_true, List.all_eq_true] at hh
    exact hh.1
  · cases h

/-- What span.Least leaves. -/
def LeastPost (l : List Edge) (w : World) (e : Ending) (w' : World) : Prop :=
  Below w.heap.size w w' ∧ ((check l = 0 ∧ ∃ v', e = .returned (.tuple #[v', .int .i64 0]) ∧ OwnE w' w.heap.size 24 v' (least l)) ∨ (check l ≠ 0 ∧ e = .returned (.tuple #[.slice none 0 0, .int .i64 (check l)])))

set_option maxHeartbeats 1000000 in
theorem spanLeast_c (l : List Edge) (v : Value) (w : World) (hv : RdE w v l) : Calls Try.prog 12 #[v] w (LeastPost l w) := by
  have hs := edgeSort_c l v w hv
  by_cases h0 : check l = 0
  · have hs0 : Calls Try.prog 23 #[v] w fun e w' => ∃ v', e = .returned (.tuple #[v', .int .i64 0]) ∧ OwnE w' w.heap.size 24 v' (sortE l) ∧ Below w.heap.size w w' := hs.mono fun e w' ⟨hb, h⟩ => by
      rcases h with ⟨_, v', he, ho⟩ | ⟨h, _⟩
      · exact ⟨v', he, ho, hb⟩
      · exact absurd h0 h
    have HS := Lib.hid hs0
    have H0 := Lib.hid h0
    clear hs hs0 h0
    have hmf : ∀ (fn : Fn) (first cap : Array Value) (w : World), (Instr.makeFunc fn first cap).run Try.prog w = .ok (.func fn first cap) w := fun _ _ _ _ => rfl
    go_enter Try.func12, Try.ntmps12
    go_wp2_with fail
    go_at_call 23; refine HS.out.mono ?_; rintro e w1 ⟨v1, rfl, ho1, hb1⟩
    have HO1 := Lib.hid ho1
    have HB1 := Lib.hid hb1
    clear ho1 hb1
    go_wp2_with fail
    go_at_call 42; refine (sets_c _).mono ?_; rintro e w2 ⟨j, rfl, hj2, hb2⟩
    obtain ⟨J, rfl⟩ := hj2.ptr
    have hown2 := HO1.out.below hb2
    have hlt2 := HO1.out.lt
    have HJ2 := Lib.hid hj2
    have HB2 := Lib.hid (below_then HB1.out hb2)
    have hle1 := HB1.out.size
    have hle2 := hb2.size
    clear hj2 hb2
    have hba := (Below.refl w2.heap.size w2).alloc (Nat.le_refl _) (.cells #[.pointer (some ⟨J, 0, none⟩)] 66)
    have hI : JoinVar w1.heap.size w2.heap.size w2.heap.size [] (w2.alloc (.cells #[.pointer (some ⟨J, 0, none⟩)] 66)) := ⟨Nat.le_refl _, .pointer (some ⟨J, 0, none⟩), heap_alloc_new w2 _, HJ2.out.below hba⟩
    have hdel := deleteFuncE_c (leastPred w1.heap.size w2.heap.size w2.heap.size) (sortE l) (fun e he => may_of_check H0.out e ((sortE_perm l).mem_iff.1 he)) w.heap.size v1 _ (hown2.below hba) (fun b hb => (hlt2 b hb).2) hle1 hI
    have HDEL := Lib.hid hdel
    have HBA := Lib.hid (below_then HB2.out hba)
    clear hdel hI hba hown2 hlt2
    go_wp2_with fail
    go_at_call 43; refine HDEL.out.mono ?_; rintro e w3 ⟨hb3, _, v3, rfl, ho3⟩
    have HB3 := Lib.hid hb3
    have HO3 := Lib.hid ho3
    clear hb3 ho3
    go_wp2_with fail
    go_ret2
    exact ⟨HBA.out.trans HB3.out, .inl ⟨H0.out, v3, rfl, HO3.out⟩⟩
  · have hs0 : Calls Try.prog 23 #[v] w fun e w' => e = .returned (.tuple #[.slice none 0 0, .int .i64 (check l)]) ∧ Below w.heap.size w w' := hs.mono fun e w' ⟨hb, h⟩ => by
      rcases h with ⟨h, _⟩ | ⟨_, he⟩
      · exact absurd h h0
      · exact ⟨he, hb⟩
    have HS := Lib.hid hs0
    have H0 := Lib.hid h0
    have hne : (check l != 0) = true := by simpa using h0
    clear hs hs0 h0
    go_enter Try.func12, Try.ntmps12
    go_wp2_with fail
    go_at_call 23; refine HS.out.mono ?_; rintro e w1 ⟨rfl, hb1⟩
    have HB1 := Lib.hid hb1
    clear hb1
    go_wp2_with fail
    go_ret2
    exact ⟨HB1.out, .inr ⟨H0.out, rfl⟩⟩

end Go.Proofs.Ytandminldgiheaa
