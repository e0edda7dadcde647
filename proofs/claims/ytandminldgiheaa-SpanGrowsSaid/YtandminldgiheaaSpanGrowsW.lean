/- The law 'SpanGrows', walked. -/
import Derived.Test.YtandminldgiheaaGrowB
import Derived.Test.YtandminldgiheaaGrowsP
import Derived.Test.YtandminldgiheaaSpanLeastW
import Derived.Test.YtandminldgiheaaEdgeEq
import Derived.Test.YtandminldgiheaaWLast
namespace Go.Proofs.Ytandminldgiheaa
open Go.RowKit Go.Proofs.YtandminldgiheaaW.PrintLast
attribute [local go_sem ↓] guardE neqE eqlE

/-- Is x among them? -/
def among (x : Edge) (l : List Edge) : Bool := l.any (fun y => decide (y = x))
theorem among_snoc (x : Edge) (l : List Edge) (y : Edge) : among x (l ++ [y]) = (among x l || decide (y = x)) := by simp [among]
theorem among_iff {x : Edge} {l : List Edge} : among x l = true ↔ x ∈ l := by simp [among]

set_option maxRecDepth 100000 in
set_option maxHeartbeats 8000000 in
theorem spanGrowsLaw_c (l : List Edge) (e : Edge) (v : Value) (w : World) (hv : RdE w v l) :
    Calls Try.prog 3 #[v, .agg #[.int .i64 e.a, .int .i64 e.b, .int .i64 e.w]] w fun r w' => r = .returned (.bool true) ∧ Below w.heap.size w w' := by
  have HV := Lib.hid hv
  obtain ⟨A0, c0, rfl, h10, h20, h30⟩ := hv
  have hn : l.length ≤ 9223372036854775807 := by omega
  clear h20 h30
  have hbx := (Below.refl w.heap.size w).alloc (Nat.le_refl _) (.cells #[.int .i64 e.a, .int .i64 e.b, .int .i64 e.w] 24)
  have HBX := Lib.hid hbx
  clear hbx
  go_enter Try.func3, Try.ntmps3
  go_wp2_with fail
  obtain ⟨W, hW⟩ : ∃ W, w.alloc (.cells #[.int .i64 e.a, .int .i64 e.b, .int .i64 e.w] 24) = W := ⟨_, rfl⟩
  obtain ⟨BX, hBX⟩ : ∃ BX, w.heap.size = BX := ⟨_, rfl⟩
  have hbox := heap_alloc_new w (.cells #[.int .i64 e.a, .int .i64 e.b, .int .i64 e.w] 24)
  rw [hW, hBX] at hbox
  have E0 : W.cell? ⟨BX, 0, none⟩ = some (.int .i64 e.a) := (cell_of_row W _ 0 _ _ _ hbox).trans rfl
  have E1 : W.cell? ⟨BX, 1, none⟩ = some (.int .i64 e.b) := (cell_of_row W _ 1 _ _ _ hbox).trans rfl
  have E2 : W.cell? ⟨BX, 2, none⟩ = some (.int .i64 e.w) := (cell_of_row W _ 2 _ _ _ hbox).trans rfl
  have HBW : Hid (Below w.heap.size w W) := by have := HBX.out; rw [hW] at this; exact Lib.hid this
  have HVW := Lib.hid (HV.out.below HBW.out)
  rw [hW, hBX]
  clear hbox HBX
  by_cases h40 : 40 < l.length
  · have hi : (40 : Int) < (l.length : Int) := by omega
    refine start_ (n := 13) (S := fun w' => True) (ds := []) #[false, false, false, false, false, false, false, false, false, false, false, false, false] (by kernel_rfl) rfl rfl trivial (fun hHeld => ?_)
    refine pure_ (i := 0) (N := some 16) (v := ?_) (a' := ?_) #[true, false, false, false, false, false, false, false, false, false, false, false, false] rfl rfl (by kernel_rfl) (fun _ _ _ h => h) (Or.inl ⟨by rfl, ?_⟩) ?_ ?_
    rotate_left
    · intro w'
      go_simp
      with_reducible rfl
    rotate_left
    · simp only [Act.put, List.setIfInBounds_toArray, List.set_cons_zero, List.set_cons_succ]
      rfl
    refine pure_ (i := 1) (N := some 17) (v := ?_) (a' := ?_) #[true, true, false, false, false, false, false, false, false, false, false, false, false] rfl rfl (by kernel_rfl) (fun _ _ _ h => h) (Or.inl ⟨by rfl, ?_⟩) ?_ ?_
    rotate_left
    · intro w'
      go_simp
      with_reducible rfl
    rotate_left
    · simp only [Act.put, List.setIfInBounds_toArray, List.set_cons_zero, List.set_cons_succ]
      rfl
    refine pure_ (i := 2) (N := some 18) (v := ?_) (a' := ?_) #[true, true, true, false, false, false, false, false, false, false, false, false, false] rfl rfl (by kernel_rfl) (fun _ _ _ h => h) (Or.inl ⟨by rfl, ?_⟩) ?_ ?_
    rotate_left
    · intro w'
      go_simp
      with_reducible rfl
    rotate_left
    · simp only [Act.put, List.setIfInBounds_toArray, List.set_cons_zero, List.set_cons_succ]
      rfl
    refine pure_ (i := 3) (N := some 19) (v := ?_) (a' := ?_) #[true, true, true, true, false, false, false, false, false, false, false, false, false] rfl rfl (by kernel_rfl) (fun _ _ _ h => h) (Or.inl ⟨by rfl, ?_⟩) ?_ ?_
    rotate_left
    · intro w'
      go_simp
      with_reducible rfl
    rotate_left
    · simp only [Act.put, List.setIfInBounds_toArray, List.set_cons_zero, List.set_cons_succ]
      rfl
    refine pure_ (i := 4) (N := some 20) (v := undef) (a' := ?_) #[true, true, true, true, true, false, false, false, false, false, false, false, false] rfl rfl (by kernel_rfl) (fun _ _ _ h => h) (Or.inr ⟨by rfl, rfl⟩) ?_ ?_
    rotate_left
    · simp only [Act.put, List.setIfInBounds_toArray, List.set_cons_zero, List.set_cons_succ]
      rfl
    refine pure_ (i := 5) (N := some 21) (v := undef) (a' := ?_) #[true, true, true, true, true, true, false, false, false, false, false, false, false] rfl rfl (by kernel_rfl) (fun _ _ _ h => h) (Or.inr ⟨by rfl, rfl⟩) ?_ ?_
    rotate_left
    · simp only [Act.put, List.setIfInBounds_toArray, List.set_cons_zero, List.set_cons_succ]
      rfl
    refine pure_ (i := 6) (N := some 22) (v := undef) (a' := ?_) #[true, true, true, true, true, true, true, false, false, false, false, false, false] rfl rfl (by kernel_rfl) (fun _ _ _ h => h) (Or.inr ⟨by rfl, rfl⟩) ?_ ?_
    rotate_left
    · simp only [Act.put, List.setIfInBounds_toArray, List.set_cons_zero, List.set_cons_succ]
      rfl
    refine pure_ (i := 7) (N := some 23) (v := undef) (a' := ?_) #[true, true, true, true, true, true, true, true, false, false, false, false, false] rfl rfl (by kernel_rfl) (fun _ _ _ h => h) (Or.inr ⟨by rfl, rfl⟩) ?_ ?_
    rotate_left
    · simp only [Act.put, List.setIfInBounds_toArray, List.set_cons_zero, List.set_cons_succ]
      rfl
    refine pure_ (i := 8) (N := some 24) (v := undef) (a' := ?_) #[true, true, true, true, true, true, true, true, true, false, false, false, false] rfl rfl (by kernel_rfl) (fun _ _ _ h => h) (Or.inr ⟨by rfl, rfl⟩) ?_ ?_
    rotate_left
    · simp only [Act.put, List.setIfInBounds_toArray, List.set_cons_zero, List.set_cons_succ]
      rfl
    refine pure_ (i := 9) (N := some 25) (v := undef) (a' := ?_) #[true, true, true, true, true, true, true, true, true, true, false, false, false] rfl rfl (by kernel_rfl) (fun _ _ _ h => h) (Or.inr ⟨by rfl, rfl⟩) ?_ ?_
    rotate_left
    · simp only [Act.put, List.setIfInBounds_toArray, List.set_cons_zero, List.set_cons_succ]
      rfl
    refine pure_ (i := 10) (N := some 26) (v := undef) (a' := ?_) #[true, true, true, true, true, true, true, true, true, true, true, false, false] rfl rfl (by kernel_rfl) (fun _ _ _ h => h) (Or.inr ⟨by rfl, rfl⟩) ?_ ?_
    rotate_left
    · simp only [Act.put, List.setIfInBounds_toArray, List.set_cons_zero, List.set_cons_succ]
      rfl
    refine pure_ (i := 11) (N := some 27) (v := undef) (a' := ?_) #[true, true, true, true, true, true, true, true, true, true, true, true, false] rfl rfl (by kernel_rfl) (fun _ _ _ h => h) (Or.inr ⟨by rfl, rfl⟩) ?_ ?_
    rotate_left
    · simp only [Act.put, List.setIfInBounds_toArray, List.set_cons_zero, List.set_cons_succ]
      rfl
    refine pure_ (i := 12) (N := some 28) (v := ?_) (a' := ?_) #[true, true, true, true, true, true, true, true, true, true, true, true, true] rfl rfl (by kernel_rfl) (fun _ _ _ h => h) (Or.inl ⟨by rfl, ?_⟩) ?_ ?_
    rotate_left
    · intro w'
      go_simp
      with_reducible rfl
    rotate_left
    · simp only [Act.put, List.setIfInBounds_toArray, List.set_cons_zero, List.set_cons_succ]
      rfl
    refine done_ (by kernel_rfl) ?_
    simp only [Exit.then]
    go_wp2_with fail
    go_at_call 11; refine (awake07_c _).mono ?_; rintro r w1 ⟨rfl, h1⟩
    go_wp2_with fail
    go_ret
    exact ⟨rfl, below_then HBW.out (below_undrew h1)⟩
  · have hi : ¬ ((40 : Int) < (l.length : Int)) := by omega
    have hl40 : l.length ≤ 40 := by omega
    have HRD := Lib.hid (fun w' (hb : Below W.heap.size W w') => HVW.out.below hb)
    by_cases h0 : check (l ++ [e]) = 0
    · have hck := fun u w hu => refCheck_c (l ++ [e]) u w hu
      rw [h0] at hck
      have HCK := Lib.hid hck
      have H0 := Lib.hid h0
      have hap := apart_of_check h0
      have hapl := apart_left hap
      have hcl : check l = 0 := check_sub h0 (fun x hx => List.mem_append_left _ hx) hapl (by omega)
      have hcg : check (least l ++ [e]) = 0 := check_sub h0 (fun x hx => by
        rcases List.mem_append.1 hx with h | h
        · exact List.mem_append_left _ (least_mem h)
        · exact List.mem_append_right _ h) (least_more hap) (by have := least_length l; simp; omega)
      have hgr := least_grows hap
      have hfl := least_length l
      have HAP := Lib.hid hapl
      have HCL := Lib.hid hcl
      obtain ⟨f, hf⟩ : ∃ f, least l = f := ⟨_, rfl⟩
      have HF := Lib.hid hf
      rw [hf] at hfl
      have HCG2 : Hid (check (f ++ [e]) = 0) := by rw [hf] at hcg; exact Lib.hid hcg
      have HGR2 : Hid (least (l ++ [e]) = least (f ++ [e])) := by rw [hf] at hgr; exact Lib.hid hgr
      clear hck h0 hap hapl hcl hcg hgr hf
      have hA1 := AppE.start W e
      refine start_ (n := 13) (S := fun w' => w'.cell? ⟨BX, 0, none⟩ = some (.int .i64 e.a) ∧ w'.cell? ⟨BX, 1, none⟩ = some (.int .i64 e.b) ∧ w'.cell? ⟨BX, 2, none⟩ = some (.int .i64 e.w)) (ds := [10]) #[false, false, false, false, false, false, false, false, false, false, false, false, false] (by kernel_rfl) rfl rfl ⟨E0, E1, E2⟩ (fun hHeld => ?_)
      refine pure_ (i := 0) (N := some 16) (v := ?_) (a' := ?_) #[true, false, false, false, false, false, false, false, false, false, false, false, false] rfl rfl (by kernel_rfl) (fun _ _ _ h => h) (Or.inl ⟨by rfl, ?_⟩) ?_ ?_
      rotate_left
      · intro w'
        go_simp
        with_reducible rfl
      rotate_left
      · simp only [Act.put, List.setIfInBounds_toArray, List.set_cons_zero, List.set_cons_succ]
        rfl
      refine pure_ (i := 1) (N := some 17) (v := ?_) (a' := ?_) #[true, true, false, false, false, false, false, false, false, false, false, false, false] rfl rfl (by kernel_rfl) (fun _ _ _ h => h) (Or.inl ⟨by rfl, ?_⟩) ?_ ?_
      rotate_left
      · intro w'
        go_simp
        with_reducible rfl
      rotate_left
      · simp only [Act.put, List.setIfInBounds_toArray, List.set_cons_zero, List.set_cons_succ]
        rfl
      refine pure_ (i := 2) (N := some 18) (v := ?_) (a' := ?_) #[true, true, true, false, false, false, false, false, false, false, false, false, false] rfl rfl (by kernel_rfl) (fun _ _ _ h => h) (Or.inl ⟨by rfl, ?_⟩) ?_ ?_
      rotate_left
      · intro w'
        go_simp
        with_reducible rfl
      rotate_left
      · simp only [Act.put, List.setIfInBounds_toArray, List.set_cons_zero, List.set_cons_succ]
        rfl
      refine pure_ (i := 3) (N := some 19) (v := ?_) (a' := ?_) #[true, true, true, true, false, false, false, false, false, false, false, false, false] rfl rfl (by kernel_rfl) (fun _ _ _ h => h) (Or.inl ⟨by rfl, ?_⟩) ?_ ?_
      rotate_left
      · intro w'
        go_simp
        with_reducible rfl
      rotate_left
      · simp only [Act.put, List.setIfInBounds_toArray, List.set_cons_zero, List.set_cons_succ]
        rfl
      refine pure_ (i := 5) (N := some 21) (v := ?_) (a' := ?_) #[true, true, true, true, false, true, false, false, false, false, false, false, false] rfl rfl (by kernel_rfl) (fun _ _ _ h => h) (Or.inl ⟨by rfl, ?_⟩) ?_ ?_
      rotate_left
      · intro w'
        go_simp
        with_reducible rfl
      rotate_left
      · simp only [Act.put, List.setIfInBounds_toArray, List.set_cons_zero, List.set_cons_succ]
        rfl
      refine take_ (i := 7) (N := some 23) (v := ?_) (a' := ?_) #[true, true, true, true, false, true, false, true, false, false, false, false, false] rfl rfl (by kernel_rfl) (fun _ _ _ h => h) (Or.inl ⟨by rfl, ?_⟩) hHeld ?_ ?_
      rotate_left
      · rintro w' ⟨s0, s1, s2⟩
        go_simp
        with_reducible rfl
      rotate_left
      · simp only [Act.put, List.setIfInBounds_toArray, List.set_cons_zero, List.set_cons_succ]
        rfl
      refine join_ (σ := Nat × Value × Nat) 4 #[true, true, true, true, true, true, true, true, true, false, false, false, false] (fun s => [(20, .slice (some ⟨s.1, 0, none⟩) 0 0), (22, s.2.1), (24, .slice (some ⟨s.2.2, 0, none⟩) 1 1)]) (fun s w' => AppE W w' W.heap.size s.2.1 l (some s.2.2) e) ?_ ?_
      rotate_left
      · intro hJ4_6_8
        refine join_ (σ := Nat × Value × Nat) 5 #[true, true, true, true, true, true, true, true, false, false, false, false, false] (fun s => [(20, .slice (some ⟨s.1, 0, none⟩) 0 0), (22, s.2.1)]) (fun s w' => AppE W w' W.heap.size s.2.1 l none e) ?_ ?_
        rotate_left
        · intro hJ4_6
          refine join_ (σ := Nat × Value × Nat) 5 #[true, true, true, true, true, true, false, true, true, false, false, false, false] (fun s => [(20, .slice (some ⟨s.1, 0, none⟩) 0 0), (24, .slice (some ⟨s.2.2, 0, none⟩) 1 1)]) (fun s w' => AppE W w' W.heap.size (.slice (some ⟨s.1, 0, none⟩) 0 0) [] (some s.2.2) e) ?_ ?_
          rotate_left
          · intro hJ4_8
            refine join_ (σ := Nat × Value × Nat) 6 #[true, true, true, true, true, true, false, true, false, false, false, false, false] (fun s => [(20, .slice (some ⟨s.1, 0, none⟩) 0 0)]) (fun s w' => AppE W w' W.heap.size (.slice (some ⟨s.1, 0, none⟩) 0 0) [] none e) ?_ ?_
            rotate_left
            · intro hJ4
              refine join_ (σ := Nat × Value × Nat) 6 #[true, true, true, true, false, true, false, true, true, false, false, false, false] (fun s => [(24, .slice (some ⟨s.2.2, 0, none⟩) 1 1)]) (fun s w' => AppE W w' W.heap.size (.slice none 0 0) [] (some s.2.2) e) ?_ ?_
              rotate_left
              · intro hJ8
                refine two_ (i := 4) (j := 8) (Ni := some 20) (Nj := some 24) #[true, true, true, true, true, true, false, true, false, false, false, false, false] #[true, true, true, true, false, true, false, true, true, false, false, false, false] rfl rfl rfl rfl (by kernel_rfl) (by decide) (by decide) (fun K hK => ?_) (fun K hK => ?_)
                · skip
                  refine value_ (w1 := ?_) (v := ?_) (by rfl) rfl ?_ ?_
                  rotate_left 2
                  · go_simp
                    constructor
                    · rfl
                    · rfl
                  have hA2 := hA1.base_
                  refine hK.out _ _ ⟨cell_of_below hA2.below E0, cell_of_below hA2.below E1, cell_of_below hA2.below E2⟩ (fun hHeld => ?_)
                  clear hK K
                  refine norm_ (a' := ?_) ?_ ?_
                  rotate_left
                  · show Act.put _ (some 20) _ = _
                    simp only [Act.put, List.setIfInBounds_toArray, List.set_cons_zero, List.set_cons_succ]
                    rfl
                  exact norm_ (by first | (simp only [putAll, Act.put, List.setIfInBounds_toArray, List.set_cons_zero, List.set_cons_succ]; done) | (simp only [putAll, Act.put, List.setIfInBounds_toArray, List.set_cons_zero, List.set_cons_succ]; rfl)) (hJ4 ⟨_, undef, 0⟩ _ hA2)
                · skip
                  refine value_ (w1 := ?_) (v := ?_) (by rfl) rfl ?_ ?_
                  rotate_left 2
                  · go_simp
                    constructor
                    · rfl
                    · rfl
                  have hA2 := hA1.elem
                  refine hK.out _ _ ⟨cell_of_below hA2.below E0, cell_of_below hA2.below E1, cell_of_below hA2.below E2⟩ (fun hHeld => ?_)
                  clear hK K
                  refine norm_ (a' := ?_) ?_ ?_
                  rotate_left
                  · show Act.put _ (some 24) _ = _
                    simp only [Act.put, List.setIfInBounds_toArray, List.set_cons_zero, List.set_cons_succ]
                    rfl
                  exact norm_ (by first | (simp only [putAll, Act.put, List.setIfInBounds_toArray, List.set_cons_zero, List.set_cons_succ]; done) | (simp only [putAll, Act.put, List.setIfInBounds_toArray, List.set_cons_zero, List.set_cons_succ]; rfl)) (hJ8 ⟨0, undef, _⟩ _ hA2)
              · skip
                rintro ⟨b1, v1, b2⟩ wn hA1
                dsimp only at hA1 ⊢
                have hHeld : wn.cell? ⟨BX, 0, none⟩ = some (.int .i64 e.a) ∧ wn.cell? ⟨BX, 1, none⟩ = some (.int .i64 e.b) ∧ wn.cell? ⟨BX, 2, none⟩ = some (.int .i64 e.w) := ⟨cell_of_below hA1.below E0, cell_of_below hA1.below E1, cell_of_below hA1.below E2⟩
                refine norm_ (a' := ?_) ?_ ?_
                rotate_left
                · simp only [putAll, Act.put, List.setIfInBounds_toArray, List.set_cons_zero, List.set_cons_succ]
                  rfl
                refine one_ (i := 4) (N := some 20) #[true, true, true, true, true, true, false, true, true, false, false, false, false] rfl rfl (by kernel_rfl) (by decide) (fun K hK => ?_)
                refine value_ (w1 := ?_) (v := ?_) (by rfl) rfl ?_ ?_
                rotate_left 2
                · go_simp
                  constructor
                  · rfl
                  · rfl
                have hA2 := hA1.base_
                refine hK.out _ _ ⟨cell_of_below hA2.below E0, cell_of_below hA2.below E1, cell_of_below hA2.below E2⟩ (fun hHeld => ?_)
                clear hK K
                refine norm_ (a' := ?_) ?_ ?_
                rotate_left
                · show Act.put _ (some 20) _ = _
                  simp only [Act.put, List.setIfInBounds_toArray, List.set_cons_zero, List.set_cons_succ]
                  rfl
                exact norm_ (by first | (simp only [putAll, Act.put, List.setIfInBounds_toArray, List.set_cons_zero, List.set_cons_succ]; done) | (simp only [putAll, Act.put, List.setIfInBounds_toArray, List.set_cons_zero, List.set_cons_succ]; rfl)) (hJ4_8 ⟨_, undef, b2⟩ _ hA2)
            · skip
              rintro ⟨b1, v1, b2⟩ wn hA1
              dsimp only at hA1 ⊢
              have hHeld : wn.cell? ⟨BX, 0, none⟩ = some (.int .i64 e.a) ∧ wn.cell? ⟨BX, 1, none⟩ = some (.int .i64 e.b) ∧ wn.cell? ⟨BX, 2, none⟩ = some (.int .i64 e.w) := ⟨cell_of_below hA1.below E0, cell_of_below hA1.below E1, cell_of_below hA1.below E2⟩
              refine norm_ (a' := ?_) ?_ ?_
              rotate_left
              · simp only [putAll, Act.put, List.setIfInBounds_toArray, List.set_cons_zero, List.set_cons_succ]
                rfl
              refine two_ (i := 6) (j := 8) (Ni := some 22) (Nj := some 24) #[true, true, true, true, true, true, true, true, false, false, false, false, false] #[true, true, true, true, true, true, false, true, true, false, false, false, false] rfl rfl rfl rfl (by kernel_rfl) (by decide) (by decide) (fun K hK => ?_) (fun K hK => ?_)
              · skip
                refine step_appendR encE_len encE_one (by rfl) _ _ 22 24 (.agg #[.int .i64 0, .int .i64 0, .int .i64 0]) 24 (by rfl) Try.underlying22 infoE rfl (by decide) (by decide) (v := _) (u := (.slice A0 l.length c0)) (l := []) (ys := l) hA1.own (HRD.out _ hA1.below) (by rfl) (by rfl) hA1.le (by first | omega | (simp <;> omega)) ?_
                intro va wa ho hg hat
                have hA2 := hA1.more ho hg hat
                rw [List.nil_append] at hA2
                refine hK.out _ _ ⟨cell_of_below hA2.below E0, cell_of_below hA2.below E1, cell_of_below hA2.below E2⟩ (fun hHeld => ?_)
                clear hK K
                refine norm_ (a' := ?_) ?_ ?_
                rotate_left
                · show Act.put _ (some 22) _ = _
                  simp only [Act.put, List.setIfInBounds_toArray, List.set_cons_zero, List.set_cons_succ]
                  rfl
                exact norm_ (by first | (simp only [putAll, Act.put, List.setIfInBounds_toArray, List.set_cons_zero, List.set_cons_succ]; done) | (simp only [putAll, Act.put, List.setIfInBounds_toArray, List.set_cons_zero, List.set_cons_succ]; rfl)) (hJ4_6 ⟨b1, _, 0⟩ _ hA2)
              · skip
                refine value_ (w1 := ?_) (v := ?_) (by rfl) rfl ?_ ?_
                rotate_left 2
                · go_simp
                  constructor
                  · rfl
                  · rfl
                have hA2 := hA1.elem
                refine hK.out _ _ ⟨cell_of_below hA2.below E0, cell_of_below hA2.below E1, cell_of_below hA2.below E2⟩ (fun hHeld => ?_)
                clear hK K
                refine norm_ (a' := ?_) ?_ ?_
                rotate_left
                · show Act.put _ (some 24) _ = _
                  simp only [Act.put, List.setIfInBounds_toArray, List.set_cons_zero, List.set_cons_succ]
                  rfl
                exact norm_ (by first | (simp only [putAll, Act.put, List.setIfInBounds_toArray, List.set_cons_zero, List.set_cons_succ]; done) | (simp only [putAll, Act.put, List.setIfInBounds_toArray, List.set_cons_zero, List.set_cons_succ]; rfl)) (hJ4_8 ⟨b1, undef, _⟩ _ hA2)
          · skip
            rintro ⟨b1, v1, b2⟩ wn hA1
            dsimp only at hA1 ⊢
            have hHeld : wn.cell? ⟨BX, 0, none⟩ = some (.int .i64 e.a) ∧ wn.cell? ⟨BX, 1, none⟩ = some (.int .i64 e.b) ∧ wn.cell? ⟨BX, 2, none⟩ = some (.int .i64 e.w) := ⟨cell_of_below hA1.below E0, cell_of_below hA1.below E1, cell_of_below hA1.below E2⟩
            refine norm_ (a' := ?_) ?_ ?_
            rotate_left
            · simp only [putAll, Act.put, List.setIfInBounds_toArray, List.set_cons_zero, List.set_cons_succ]
              rfl
            refine one_ (i := 6) (N := some 22) #[true, true, true, true, true, true, true, true, true, false, false, false, false] rfl rfl (by kernel_rfl) (by decide) (fun K hK => ?_)
            refine step_appendR encE_len encE_one (by rfl) _ _ 22 24 (.agg #[.int .i64 0, .int .i64 0, .int .i64 0]) 24 (by rfl) Try.underlying22 infoE rfl (by decide) (by decide) (v := _) (u := (.slice A0 l.length c0)) (l := []) (ys := l) hA1.own (HRD.out _ hA1.below) (by rfl) (by rfl) hA1.le (by first | omega | (simp <;> omega)) ?_
            intro va wa ho hg hat
            have hA2 := hA1.more ho hg hat
            rw [List.nil_append] at hA2
            refine hK.out _ _ ⟨cell_of_below hA2.below E0, cell_of_below hA2.below E1, cell_of_below hA2.below E2⟩ (fun hHeld => ?_)
            clear hK K
            refine norm_ (a' := ?_) ?_ ?_
            rotate_left
            · show Act.put _ (some 22) _ = _
              simp only [Act.put, List.setIfInBounds_toArray, List.set_cons_zero, List.set_cons_succ]
              rfl
            exact norm_ (by first | (simp only [putAll, Act.put, List.setIfInBounds_toArray, List.set_cons_zero, List.set_cons_succ]; done) | (simp only [putAll, Act.put, List.setIfInBounds_toArray, List.set_cons_zero, List.set_cons_succ]; rfl)) (hJ4_6_8 ⟨b1, _, b2⟩ _ hA2)
        · skip
          rintro ⟨b1, v1, b2⟩ wn hA1
          dsimp only at hA1 ⊢
          have hHeld : wn.cell? ⟨BX, 0, none⟩ = some (.int .i64 e.a) ∧ wn.cell? ⟨BX, 1, none⟩ = some (.int .i64 e.b) ∧ wn.cell? ⟨BX, 2, none⟩ = some (.int .i64 e.w) := ⟨cell_of_below hA1.below E0, cell_of_below hA1.below E1, cell_of_below hA1.below E2⟩
          refine norm_ (a' := ?_) ?_ ?_
          rotate_left
          · simp only [putAll, Act.put, List.setIfInBounds_toArray, List.set_cons_zero, List.set_cons_succ]
            rfl
          refine one_ (i := 8) (N := some 24) #[true, true, true, true, true, true, true, true, true, false, false, false, false] rfl rfl (by kernel_rfl) (by decide) (fun K hK => ?_)
          refine value_ (w1 := ?_) (v := ?_) (by rfl) rfl ?_ ?_
          rotate_left 2
          · go_simp
            constructor
            · rfl
            · rfl
          have hA2 := hA1.elem
          refine hK.out _ _ ⟨cell_of_below hA2.below E0, cell_of_below hA2.below E1, cell_of_below hA2.below E2⟩ (fun hHeld => ?_)
          clear hK K
          refine norm_ (a' := ?_) ?_ ?_
          rotate_left
          · show Act.put _ (some 24) _ = _
            simp only [Act.put, List.setIfInBounds_toArray, List.set_cons_zero, List.set_cons_succ]
            rfl
          exact norm_ (by first | (simp only [putAll, Act.put, List.setIfInBounds_toArray, List.set_cons_zero, List.set_cons_succ]; done) | (simp only [putAll, Act.put, List.setIfInBounds_toArray, List.set_cons_zero, List.set_cons_succ]; rfl)) (hJ4_6_8 ⟨b1, v1, _⟩ _ hA2)
      rintro ⟨b1, v1, b2⟩ wn hA1
      dsimp only at hA1 ⊢
      have hHeld : wn.cell? ⟨BX, 0, none⟩ = some (.int .i64 e.a) ∧ wn.cell? ⟨BX, 1, none⟩ = some (.int .i64 e.b) ∧ wn.cell? ⟨BX, 2, none⟩ = some (.int .i64 e.w) := ⟨cell_of_below hA1.below E0, cell_of_below hA1.below E1, cell_of_below hA1.below E2⟩
      refine norm_ (a' := ?_) ?_ ?_
      rotate_left
      · simp only [putAll, Act.put, List.setIfInBounds_toArray, List.set_cons_zero, List.set_cons_succ]
        rfl
      refine one_ (i := 9) (N := some 25) #[true, true, true, true, true, true, true, true, true, true, false, false, false] rfl rfl (by kernel_rfl) (by decide) (fun K hK => ?_)
      refine step_appendR encE_len encE_one (by rfl) _ _ 22 24 (.agg #[.int .i64 0, .int .i64 0, .int .i64 0]) 24 (by rfl) Try.underlying22 infoE rfl (by decide) (by decide) (v := v1) (u := (.slice (some ⟨b2, 0, none⟩) 1 1)) (l := l) (ys := [e]) hA1.own (hA1.rd1 b2 rfl) (by rfl) (by rfl) hA1.le (by first | omega | (simp <;> omega)) ?_
      intro va wa ho hg hat
      have hA2 := hA1.more ho hg hat
      refine hK.out _ _ ⟨cell_of_below hA2.below E0, cell_of_below hA2.below E1, cell_of_below hA2.below E2⟩ (fun hHeld => ?_)
      clear hK K
      refine norm_ (a' := ?_) ?_ ?_
      rotate_left
      · show Act.put _ (some 25) _ = _
        simp only [Act.put, List.setIfInBounds_toArray, List.set_cons_zero, List.set_cons_succ]
        rfl
      refine last_ (i := 10) (N := some 26) #[true, true, true, true, true, true, true, true, true, true, true, false, false] rfl rfl (by kernel_rfl) (by decide) (fun K hK => ?_)
      refine goes_ Try.func10 (by kernel_rfl) rfl #[va] (by rfl) rfl rfl (by simp only [List.map_toArray, List.map_cons, List.map_nil]; rfl) ?_
      with_reducible refine (HCK.out _ _ (Own.rd encE_len hA2.own)).mono ?_
      rintro r w1 ⟨rfl, hb1⟩
      refine ⟨_, rfl, ?_⟩
      refine hK.out _ _ ?_
      clear hK K
      refine norm_ (a' := ?_) ?_ ?_
      rotate_left
      · show Act.put _ (some 26) _ = _
        simp only [Act.put, List.setIfInBounds_toArray, List.set_cons_zero, List.set_cons_succ]
        rfl
      refine pure_ (i := 11) (N := some 27) (v := ?_) (a' := ?_) #[true, true, true, true, true, true, true, true, true, true, true, true, false] rfl rfl (by kernel_rfl) (fun _ _ _ h => h) (Or.inl ⟨by rfl, ?_⟩) ?_ ?_
      rotate_left
      · intro w'
        go_simp
        with_reducible rfl
      rotate_left
      · simp only [Act.put, List.setIfInBounds_toArray, List.set_cons_zero, List.set_cons_succ]
        rfl
      refine pure_ (i := 12) (N := some 28) (v := ?_) (a' := ?_) #[true, true, true, true, true, true, true, true, true, true, true, true, true] rfl rfl (by kernel_rfl) (fun _ _ _ h => h) (Or.inl ⟨by rfl, ?_⟩) ?_ ?_
      rotate_left
      · intro w'
        go_simp
        with_reducible rfl
      rotate_left
      · simp only [Act.put, List.setIfInBounds_toArray, List.set_cons_zero, List.set_cons_succ]
        rfl
      refine done_ (by kernel_rfl) ?_
      have HB1 := Lib.hid (below_then (hA2.below.mono (Nat.le_refl _)) hb1)
      clear hA1 hA2 hb1
      simp only [Exit.then]
      go_wp2_with fail
      go_at_call 12; refine (least_ok HCL.out _ _ (HVW.out.below HB1.out)).mono ?_; rintro r w2 ⟨vf, rfl, hrf, hb2⟩
      rw [HF.out] at hrf
      have HB2 := Lib.hid (below_then HB1.out hb2)
      have HRF := Lib.hid hrf
      obtain ⟨Af, cf, rfl, _, _, _⟩ := hrf
      have F0 := cell_of_below HB2.out E0
      have F1 := cell_of_below HB2.out E1
      have F2 := cell_of_below HB2.out E2
      have HVW2 := Lib.hid (HVW.out.below HB2.out)
      have HBW2 := Lib.hid (below_then HBW.out HB2.out)
      clear hb2 HB1 HB2 HVW HBW HRD HCK E0 E1 E2
      have E0 := F0
      have E1 := F1
      have E2 := F2
      clear F0 F1 F2
      have HRD := Lib.hid (fun w' (hb : Below w2.heap.size w2 w') => HVW2.out.below hb)
      have HRG := Lib.hid (fun w' (hb : Below w2.heap.size w2 w') => HRF.out.below hb)
      go_wp2_with fail
      have hA1 := AppE.start w2 e
      refine start_ (n := 12) (S := fun w' => w'.cell? ⟨BX, 0, none⟩ = some (.int .i64 e.a) ∧ w'.cell? ⟨BX, 1, none⟩ = some (.int .i64 e.b) ∧ w'.cell? ⟨BX, 2, none⟩ = some (.int .i64 e.w)) (ds := [6]) #[false, false, false, false, false, false, false, false, false, false, false, false] (by kernel_rfl) rfl rfl ⟨E0, E1, E2⟩ (fun hHeld => ?_)
      refine pure_ (i := 1) (N := some 37) (v := ?_) (a' := ?_) #[false, true, false, false, false, false, false, false, false, false, false, false] rfl rfl (by kernel_rfl) (fun _ _ _ h => h) (Or.inl ⟨by rfl, ?_⟩) ?_ ?_
      rotate_left
      · intro w'
        go_simp
        with_reducible rfl
      rotate_left
      · simp only [Act.put, List.setIfInBounds_toArray, List.set_cons_zero, List.set_cons_succ]
        rfl
      refine take_ (i := 3) (N := some 39) (v := ?_) (a' := ?_) #[false, true, false, true, false, false, false, false, false, false, false, false] rfl rfl (by kernel_rfl) (fun _ _ _ h => h) (Or.inl ⟨by rfl, ?_⟩) hHeld ?_ ?_
      rotate_left
      · rintro w' ⟨s0, s1, s2⟩
        go_simp
        with_reducible rfl
      rotate_left
      · simp only [Act.put, List.setIfInBounds_toArray, List.set_cons_zero, List.set_cons_succ]
        rfl
      refine join_ (σ := Nat × Value × Nat) 7 #[true, true, true, true, true, false, false, false, false, false, false, false] (fun s => [(36, .slice (some ⟨s.1, 0, none⟩) 0 0), (38, s.2.1), (40, .slice (some ⟨s.2.2, 0, none⟩) 1 1)]) (fun s w' => AppE w2 w' w2.heap.size s.2.1 l (some s.2.2) e) ?_ ?_
      rotate_left
      · intro hJ0_2_4
        refine join_ (σ := Nat × Value × Nat) 8 #[true, true, true, true, false, false, false, false, false, false, false, false] (fun s => [(36, .slice (some ⟨s.1, 0, none⟩) 0 0), (38, s.2.1)]) (fun s w' => AppE w2 w' w2.heap.size s.2.1 l none e) ?_ ?_
        rotate_left
        · intro hJ0_2
          refine join_ (σ := Nat × Value × Nat) 8 #[true, true, false, true, true, false, false, false, false, false, false, false] (fun s => [(36, .slice (some ⟨s.1, 0, none⟩) 0 0), (40, .slice (some ⟨s.2.2, 0, none⟩) 1 1)]) (fun s w' => AppE w2 w' w2.heap.size (.slice (some ⟨s.1, 0, none⟩) 0 0) [] (some s.2.2) e) ?_ ?_
          rotate_left
          · intro hJ0_4
            refine join_ (σ := Nat × Value × Nat) 9 #[true, true, false, true, false, false, false, false, false, false, false, false] (fun s => [(36, .slice (some ⟨s.1, 0, none⟩) 0 0)]) (fun s w' => AppE w2 w' w2.heap.size (.slice (some ⟨s.1, 0, none⟩) 0 0) [] none e) ?_ ?_
            rotate_left
            · intro hJ0
              refine join_ (σ := Nat × Value × Nat) 9 #[false, true, false, true, true, false, false, false, false, false, false, false] (fun s => [(40, .slice (some ⟨s.2.2, 0, none⟩) 1 1)]) (fun s w' => AppE w2 w' w2.heap.size (.slice none 0 0) [] (some s.2.2) e) ?_ ?_
              rotate_left
              · intro hJ4
                refine two_ (i := 0) (j := 4) (Ni := some 36) (Nj := some 40) #[true, true, false, true, false, false, false, false, false, false, false, false] #[false, true, false, true, true, false, false, false, false, false, false, false] rfl rfl rfl rfl (by kernel_rfl) (by decide) (by decide) (fun K hK => ?_) (fun K hK => ?_)
                · skip
                  refine value_ (w1 := ?_) (v := ?_) (by rfl) rfl ?_ ?_
                  rotate_left 2
                  · go_simp
                    constructor
                    · rfl
                    · rfl
                  have hA2 := hA1.base_
                  refine hK.out _ _ ⟨cell_of_below hA2.below E0, cell_of_below hA2.below E1, cell_of_below hA2.below E2⟩ (fun hHeld => ?_)
                  clear hK K
                  refine norm_ (a' := ?_) ?_ ?_
                  rotate_left
                  · show Act.put _ (some 36) _ = _
                    simp only [Act.put, List.setIfInBounds_toArray, List.set_cons_zero, List.set_cons_succ]
                    rfl
                  exact norm_ (by first | (simp only [putAll, Act.put, List.setIfInBounds_toArray, List.set_cons_zero, List.set_cons_succ]; done) | (simp only [putAll, Act.put, List.setIfInBounds_toArray, List.set_cons_zero, List.set_cons_succ]; rfl)) (hJ0 ⟨_, undef, 0⟩ _ hA2)
                · skip
                  refine value_ (w1 := ?_) (v := ?_) (by rfl) rfl ?_ ?_
                  rotate_left 2
                  · go_simp
                    constructor
                    · rfl
                    · rfl
                  have hA2 := hA1.elem
                  refine hK.out _ _ ⟨cell_of_below hA2.below E0, cell_of_below hA2.below E1, cell_of_below hA2.below E2⟩ (fun hHeld => ?_)
                  clear hK K
                  refine norm_ (a' := ?_) ?_ ?_
                  rotate_left
                  · show Act.put _ (some 40) _ = _
                    simp only [Act.put, List.setIfInBounds_toArray, List.set_cons_zero, List.set_cons_succ]
                    rfl
                  exact norm_ (by first | (simp only [putAll, Act.put, List.setIfInBounds_toArray, List.set_cons_zero, List.set_cons_succ]; done) | (simp only [putAll, Act.put, List.setIfInBounds_toArray, List.set_cons_zero, List.set_cons_succ]; rfl)) (hJ4 ⟨0, undef, _⟩ _ hA2)
              · skip
                rintro ⟨b1, v1, b2⟩ wn hA1
                dsimp only at hA1 ⊢
                have hHeld : wn.cell? ⟨BX, 0, none⟩ = some (.int .i64 e.a) ∧ wn.cell? ⟨BX, 1, none⟩ = some (.int .i64 e.b) ∧ wn.cell? ⟨BX, 2, none⟩ = some (.int .i64 e.w) := ⟨cell_of_below hA1.below E0, cell_of_below hA1.below E1, cell_of_below hA1.below E2⟩
                refine norm_ (a' := ?_) ?_ ?_
                rotate_left
                · simp only [putAll, Act.put, List.setIfInBounds_toArray, List.set_cons_zero, List.set_cons_succ]
                  rfl
                refine one_ (i := 0) (N := some 36) #[true, true, false, true, true, false, false, false, false, false, false, false] rfl rfl (by kernel_rfl) (by decide) (fun K hK => ?_)
                refine value_ (w1 := ?_) (v := ?_) (by rfl) rfl ?_ ?_
                rotate_left 2
                · go_simp
                  constructor
                  · rfl
                  · rfl
                have hA2 := hA1.base_
                refine hK.out _ _ ⟨cell_of_below hA2.below E0, cell_of_below hA2.below E1, cell_of_below hA2.below E2⟩ (fun hHeld => ?_)
                clear hK K
                refine norm_ (a' := ?_) ?_ ?_
                rotate_left
                · show Act.put _ (some 36) _ = _
                  simp only [Act.put, List.setIfInBounds_toArray, List.set_cons_zero, List.set_cons_succ]
                  rfl
                exact norm_ (by first | (simp only [putAll, Act.put, List.setIfInBounds_toArray, List.set_cons_zero, List.set_cons_succ]; done) | (simp only [putAll, Act.put, List.setIfInBounds_toArray, List.set_cons_zero, List.set_cons_succ]; rfl)) (hJ0_4 ⟨_, undef, b2⟩ _ hA2)
            · skip
              rintro ⟨b1, v1, b2⟩ wn hA1
              dsimp only at hA1 ⊢
              have hHeld : wn.cell? ⟨BX, 0, none⟩ = some (.int .i64 e.a) ∧ wn.cell? ⟨BX, 1, none⟩ = some (.int .i64 e.b) ∧ wn.cell? ⟨BX, 2, none⟩ = some (.int .i64 e.w) := ⟨cell_of_below hA1.below E0, cell_of_below hA1.below E1, cell_of_below hA1.below E2⟩
              refine norm_ (a' := ?_) ?_ ?_
              rotate_left
              · simp only [putAll, Act.put, List.setIfInBounds_toArray, List.set_cons_zero, List.set_cons_succ]
                rfl
              refine two_ (i := 2) (j := 4) (Ni := some 38) (Nj := some 40) #[true, true, true, true, false, false, false, false, false, false, false, false] #[true, true, false, true, true, false, false, false, false, false, false, false] rfl rfl rfl rfl (by kernel_rfl) (by decide) (by decide) (fun K hK => ?_) (fun K hK => ?_)
              · skip
                refine step_appendR encE_len encE_one (by rfl) _ _ 22 24 (.agg #[.int .i64 0, .int .i64 0, .int .i64 0]) 24 (by rfl) Try.underlying22 infoE rfl (by decide) (by decide) (v := _) (u := (.slice A0 l.length c0)) (l := []) (ys := l) hA1.own (HRD.out _ hA1.below) (by rfl) (by rfl) hA1.le (by first | omega | (simp <;> omega)) ?_
                intro va wa ho hg hat
                have hA2 := hA1.more ho hg hat
                rw [List.nil_append] at hA2
                refine hK.out _ _ ⟨cell_of_below hA2.below E0, cell_of_below hA2.below E1, cell_of_below hA2.below E2⟩ (fun hHeld => ?_)
                clear hK K
                refine norm_ (a' := ?_) ?_ ?_
                rotate_left
                · show Act.put _ (some 38) _ = _
                  simp only [Act.put, List.setIfInBounds_toArray, List.set_cons_zero, List.set_cons_succ]
                  rfl
                exact norm_ (by first | (simp only [putAll, Act.put, List.setIfInBounds_toArray, List.set_cons_zero, List.set_cons_succ]; done) | (simp only [putAll, Act.put, List.setIfInBounds_toArray, List.set_cons_zero, List.set_cons_succ]; rfl)) (hJ0_2 ⟨b1, _, 0⟩ _ hA2)
              · skip
                refine value_ (w1 := ?_) (v := ?_) (by rfl) rfl ?_ ?_
                rotate_left 2
                · go_simp
                  constructor
                  · rfl
                  · rfl
                have hA2 := hA1.elem
                refine hK.out _ _ ⟨cell_of_below hA2.below E0, cell_of_below hA2.below E1, cell_of_below hA2.below E2⟩ (fun hHeld => ?_)
                clear hK K
                refine norm_ (a' := ?_) ?_ ?_
                rotate_left
                · show Act.put _ (some 40) _ = _
                  simp only [Act.put, List.setIfInBounds_toArray, List.set_cons_zero, List.set_cons_succ]
                  rfl
                exact norm_ (by first | (simp only [putAll, Act.put, List.setIfInBounds_toArray, List.set_cons_zero, List.set_cons_succ]; done) | (simp only [putAll, Act.put, List.setIfInBounds_toArray, List.set_cons_zero, List.set_cons_succ]; rfl)) (hJ0_4 ⟨b1, undef, _⟩ _ hA2)
          · skip
            rintro ⟨b1, v1, b2⟩ wn hA1
            dsimp only at hA1 ⊢
            have hHeld : wn.cell? ⟨BX, 0, none⟩ = some (.int .i64 e.a) ∧ wn.cell? ⟨BX, 1, none⟩ = some (.int .i64 e.b) ∧ wn.cell? ⟨BX, 2, none⟩ = some (.int .i64 e.w) := ⟨cell_of_below hA1.below E0, cell_of_below hA1.below E1, cell_of_below hA1.below E2⟩
            refine norm_ (a' := ?_) ?_ ?_
            rotate_left
            · simp only [putAll, Act.put, List.setIfInBounds_toArray, List.set_cons_zero, List.set_cons_succ]
              rfl
            refine one_ (i := 2) (N := some 38) #[true, true, true, true, true, false, false, false, false, false, false, false] rfl rfl (by kernel_rfl) (by decide) (fun K hK => ?_)
            refine step_appendR encE_len encE_one (by rfl) _ _ 22 24 (.agg #[.int .i64 0, .int .i64 0, .int .i64 0]) 24 (by rfl) Try.underlying22 infoE rfl (by decide) (by decide) (v := _) (u := (.slice A0 l.length c0)) (l := []) (ys := l) hA1.own (HRD.out _ hA1.below) (by rfl) (by rfl) hA1.le (by first | omega | (simp <;> omega)) ?_
            intro va wa ho hg hat
            have hA2 := hA1.more ho hg hat
            rw [List.nil_append] at hA2
            refine hK.out _ _ ⟨cell_of_below hA2.below E0, cell_of_below hA2.below E1, cell_of_below hA2.below E2⟩ (fun hHeld => ?_)
            clear hK K
            refine norm_ (a' := ?_) ?_ ?_
            rotate_left
            · show Act.put _ (some 38) _ = _
              simp only [Act.put, List.setIfInBounds_toArray, List.set_cons_zero, List.set_cons_succ]
              rfl
            exact norm_ (by first | (simp only [putAll, Act.put, List.setIfInBounds_toArray, List.set_cons_zero, List.set_cons_succ]; done) | (simp only [putAll, Act.put, List.setIfInBounds_toArray, List.set_cons_zero, List.set_cons_succ]; rfl)) (hJ0_2_4 ⟨b1, _, b2⟩ _ hA2)
        · skip
          rintro ⟨b1, v1, b2⟩ wn hA1
          dsimp only at hA1 ⊢
          have hHeld : wn.cell? ⟨BX, 0, none⟩ = some (.int .i64 e.a) ∧ wn.cell? ⟨BX, 1, none⟩ = some (.int .i64 e.b) ∧ wn.cell? ⟨BX, 2, none⟩ = some (.int .i64 e.w) := ⟨cell_of_below hA1.below E0, cell_of_below hA1.below E1, cell_of_below hA1.below E2⟩
          refine norm_ (a' := ?_) ?_ ?_
          rotate_left
          · simp only [putAll, Act.put, List.setIfInBounds_toArray, List.set_cons_zero, List.set_cons_succ]
            rfl
          refine one_ (i := 4) (N := some 40) #[true, true, true, true, true, false, false, false, false, false, false, false] rfl rfl (by kernel_rfl) (by decide) (fun K hK => ?_)
          refine value_ (w1 := ?_) (v := ?_) (by rfl) rfl ?_ ?_
          rotate_left 2
          · go_simp
            constructor
            · rfl
            · rfl
          have hA2 := hA1.elem
          refine hK.out _ _ ⟨cell_of_below hA2.below E0, cell_of_below hA2.below E1, cell_of_below hA2.below E2⟩ (fun hHeld => ?_)
          clear hK K
          refine norm_ (a' := ?_) ?_ ?_
          rotate_left
          · show Act.put _ (some 40) _ = _
            simp only [Act.put, List.setIfInBounds_toArray, List.set_cons_zero, List.set_cons_succ]
            rfl
          exact norm_ (by first | (simp only [putAll, Act.put, List.setIfInBounds_toArray, List.set_cons_zero, List.set_cons_succ]; done) | (simp only [putAll, Act.put, List.setIfInBounds_toArray, List.set_cons_zero, List.set_cons_succ]; rfl)) (hJ0_2_4 ⟨b1, v1, _⟩ _ hA2)
      rintro ⟨b1, v1, b2⟩ wn hA1
      dsimp only at hA1 ⊢
      have hHeld : wn.cell? ⟨BX, 0, none⟩ = some (.int .i64 e.a) ∧ wn.cell? ⟨BX, 1, none⟩ = some (.int .i64 e.b) ∧ wn.cell? ⟨BX, 2, none⟩ = some (.int .i64 e.w) := ⟨cell_of_below hA1.below E0, cell_of_below hA1.below E1, cell_of_below hA1.below E2⟩
      refine norm_ (a' := ?_) ?_ ?_
      rotate_left
      · simp only [putAll, Act.put, List.setIfInBounds_toArray, List.set_cons_zero, List.set_cons_succ]
        rfl
      refine one_ (i := 5) (N := some 41) #[true, true, true, true, true, true, false, false, false, false, false, false] rfl rfl (by kernel_rfl) (by decide) (fun K hK => ?_)
      refine step_appendR encE_len encE_one (by rfl) _ _ 22 24 (.agg #[.int .i64 0, .int .i64 0, .int .i64 0]) 24 (by rfl) Try.underlying22 infoE rfl (by decide) (by decide) (v := v1) (u := (.slice (some ⟨b2, 0, none⟩) 1 1)) (l := l) (ys := [e]) hA1.own (hA1.rd1 b2 rfl) (by rfl) (by rfl) hA1.le (by first | omega | (simp <;> omega)) ?_
      intro va wa ho hg hat
      have hA2 := hA1.more ho hg hat
      refine hK.out _ _ ⟨cell_of_below hA2.below E0, cell_of_below hA2.below E1, cell_of_below hA2.below E2⟩ (fun hHeld => ?_)
      clear hK K
      refine norm_ (a' := ?_) ?_ ?_
      rotate_left
      · show Act.put _ (some 41) _ = _
        simp only [Act.put, List.setIfInBounds_toArray, List.set_cons_zero, List.set_cons_succ]
        rfl
      refine last_ (i := 6) (N := some 42) #[true, true, true, true, true, true, true, false, false, false, false, false] rfl rfl (by kernel_rfl) (by decide) (fun K hK => ?_)
      refine goes_ Try.func12 (by kernel_rfl) rfl #[va] (by rfl) rfl rfl (by simp only [List.map_toArray, List.map_cons, List.map_nil]; rfl) ?_
      with_reducible refine (least_ok H0.out _ _ (Own.rd encE_len hA2.own)).mono ?_
      rintro r w3 ⟨v3, rfl, hr3, hb3⟩
      refine ⟨_, rfl, ?_⟩
      refine hK.out _ _ ?_
      clear hK K
      refine norm_ (a' := ?_) ?_ ?_
      rotate_left
      · show Act.put _ (some 42) _ = _
        simp only [Act.put, List.setIfInBounds_toArray, List.set_cons_zero, List.set_cons_succ]
        rfl
      refine pure_ (i := 7) (N := some 35) (v := ?_) (a' := ?_) #[true, true, true, true, true, true, true, true, false, false, false, false] rfl rfl (by kernel_rfl) (fun _ _ _ h => h) (Or.inl ⟨by rfl, ?_⟩) ?_ ?_
      rotate_left
      · intro w'
        go_simp
        with_reducible rfl
      rotate_left
      · simp only [Act.put, List.setIfInBounds_toArray, List.set_cons_zero, List.set_cons_succ]
        rfl
      refine pure_ (i := 8) (N := some 43) (v := ?_) (a' := ?_) #[true, true, true, true, true, true, true, true, true, false, false, false] rfl rfl (by kernel_rfl) (fun _ _ _ h => h) (Or.inl ⟨by rfl, ?_⟩) ?_ ?_
      rotate_left
      · intro w'
        go_simp
        with_reducible rfl
      rotate_left
      · simp only [Act.put, List.setIfInBounds_toArray, List.set_cons_zero, List.set_cons_succ]
        rfl
      refine pure_ (i := 9) (N := some 44) (v := ?_) (a' := ?_) #[true, true, true, true, true, true, true, true, true, true, false, false] rfl rfl (by kernel_rfl) (fun _ _ _ h => h) (Or.inl ⟨by rfl, ?_⟩) ?_ ?_
      rotate_left
      · intro w'
        go_simp
        with_reducible rfl
      rotate_left
      · simp only [Act.put, List.setIfInBounds_toArray, List.set_cons_zero, List.set_cons_succ]
        rfl
      refine pure_ (i := 10) (N := some 7) (v := ?_) (a' := ?_) #[true, true, true, true, true, true, true, true, true, true, true, false] rfl rfl (by kernel_rfl) (fun _ _ _ h => h) (Or.inl ⟨by rfl, ?_⟩) ?_ ?_
      rotate_left
      · intro w'
        go_simp
        with_reducible rfl
      rotate_left
      · simp only [Act.put, List.setIfInBounds_toArray, List.set_cons_zero, List.set_cons_succ]
        rfl
      refine pure_ (i := 11) (N := some 8) (v := ?_) (a' := ?_) #[true, true, true, true, true, true, true, true, true, true, true, true] rfl rfl (by kernel_rfl) (fun _ _ _ h => h) (Or.inl ⟨by rfl, ?_⟩) ?_ ?_
      rotate_left
      · intro w'
        go_simp
        with_reducible rfl
      rotate_left
      · simp only [Act.put, List.setIfInBounds_toArray, List.set_cons_zero, List.set_cons_succ]
        rfl
      refine done_ (by kernel_rfl) ?_
      have HB3 := Lib.hid (below_then hA2.below hb3)
      have HR3 := Lib.hid hr3
      have G0 := cell_of_below HB3.out E0
      have G1 := cell_of_below HB3.out E1
      have G2 := cell_of_below HB3.out E2
      clear hA1 hA2 hb3 hr3 E0 E1 E2
      have E0 := G0
      have E1 := G1
      have E2 := G2
      clear G0 G1 G2
      have HRG3 := Lib.hid (fun w' (hb : Below w3.heap.size w3 w') => HRG.out w' (below_then HB3.out hb))
      simp only [Exit.then]
      go_wp2_with fail
      have hA1 := AppE.start w3 e
      refine start_ (n := 12) (S := fun w' => w'.cell? ⟨BX, 0, none⟩ = some (.int .i64 e.a) ∧ w'.cell? ⟨BX, 1, none⟩ = some (.int .i64 e.b) ∧ w'.cell? ⟨BX, 2, none⟩ = some (.int .i64 e.w)) (ds := [6]) #[false, false, false, false, false, false, false, false, false, false, false, false] (by kernel_rfl) rfl rfl ⟨E0, E1, E2⟩ (fun hHeld => ?_)
      refine pure_ (i := 1) (N := some 47) (v := ?_) (a' := ?_) #[false, true, false, false, false, false, false, false, false, false, false, false] rfl rfl (by kernel_rfl) (fun _ _ _ h => h) (Or.inl ⟨by rfl, ?_⟩) ?_ ?_
      rotate_left
      · intro w'
        go_simp
        with_reducible rfl
      rotate_left
      · simp only [Act.put, List.setIfInBounds_toArray, List.set_cons_zero, List.set_cons_succ]
        rfl
      refine take_ (i := 3) (N := some 49) (v := ?_) (a' := ?_) #[false, true, false, true, false, false, false, false, false, false, false, false] rfl rfl (by kernel_rfl) (fun _ _ _ h => h) (Or.inl ⟨by rfl, ?_⟩) hHeld ?_ ?_
      rotate_left
      · rintro w' ⟨s0, s1, s2⟩
        go_simp
        with_reducible rfl
      rotate_left
      · simp only [Act.put, List.setIfInBounds_toArray, List.set_cons_zero, List.set_cons_succ]
        rfl
      refine join_ (σ := Nat × Value × Nat) 7 #[true, true, true, true, true, false, false, false, false, false, false, false] (fun s => [(46, .slice (some ⟨s.1, 0, none⟩) 0 0), (48, s.2.1), (50, .slice (some ⟨s.2.2, 0, none⟩) 1 1)]) (fun s w' => AppE w3 w' w3.heap.size s.2.1 f (some s.2.2) e) ?_ ?_
      rotate_left
      · intro hJ0_2_4
        refine join_ (σ := Nat × Value × Nat) 8 #[true, true, true, true, false, false, false, false, false, false, false, false] (fun s => [(46, .slice (some ⟨s.1, 0, none⟩) 0 0), (48, s.2.1)]) (fun s w' => AppE w3 w' w3.heap.size s.2.1 f none e) ?_ ?_
        rotate_left
        · intro hJ0_2
          refine join_ (σ := Nat × Value × Nat) 8 #[true, true, false, true, true, false, false, false, false, false, false, false] (fun s => [(46, .slice (some ⟨s.1, 0, none⟩) 0 0), (50, .slice (some ⟨s.2.2, 0, none⟩) 1 1)]) (fun s w' => AppE w3 w' w3.heap.size (.slice (some ⟨s.1, 0, none⟩) 0 0) [] (some s.2.2) e) ?_ ?_
          rotate_left
          · intro hJ0_4
            refine join_ (σ := Nat × Value × Nat) 9 #[true, true, false, true, false, false, false, false, false, false, false, false] (fun s => [(46, .slice (some ⟨s.1, 0, none⟩) 0 0)]) (fun s w' => AppE w3 w' w3.heap.size (.slice (some ⟨s.1, 0, none⟩) 0 0) [] none e) ?_ ?_
            rotate_left
            · intro hJ0
              refine join_ (σ := Nat × Value × Nat) 9 #[false, true, false, true, true, false, false, false, false, false, false, false] (fun s => [(50, .slice (some ⟨s.2.2, 0, none⟩) 1 1)]) (fun s w' => AppE w3 w' w3.heap.size (.slice none 0 0) [] (some s.2.2) e) ?_ ?_
              rotate_left
              · intro hJ4
                refine two_ (i := 0) (j := 4) (Ni := some 46) (Nj := some 50) #[true, true, false, true, false, false, false, false, false, false, false, false] #[false, true, false, true, true, false, false, false, false, false, false, false] rfl rfl rfl rfl (by kernel_rfl) (by decide) (by decide) (fun K hK => ?_) (fun K hK => ?_)
                · skip
                  refine value_ (w1 := ?_) (v := ?_) (by rfl) rfl ?_ ?_
                  rotate_left 2
                  · go_simp
                    constructor
                    · rfl
                    · rfl
                  have hA2 := hA1.base_
                  refine hK.out _ _ ⟨cell_of_below hA2.below E0, cell_of_below hA2.below E1, cell_of_below hA2.below E2⟩ (fun hHeld => ?_)
                  clear hK K
                  refine norm_ (a' := ?_) ?_ ?_
                  rotate_left
                  · show Act.put _ (some 46) _ = _
                    simp only [Act.put, List.setIfInBounds_toArray, List.set_cons_zero, List.set_cons_succ]
                    rfl
                  exact norm_ (by first | (simp only [putAll, Act.put, List.setIfInBounds_toArray, List.set_cons_zero, List.set_cons_succ]; done) | (simp only [putAll, Act.put, List.setIfInBounds_toArray, List.set_cons_zero, List.set_cons_succ]; rfl)) (hJ0 ⟨_, undef, 0⟩ _ hA2)
                · skip
                  refine value_ (w1 := ?_) (v := ?_) (by rfl) rfl ?_ ?_
                  rotate_left 2
                  · go_simp
                    constructor
                    · rfl
                    · rfl
                  have hA2 := hA1.elem
                  refine hK.out _ _ ⟨cell_of_below hA2.below E0, cell_of_below hA2.below E1, cell_of_below hA2.below E2⟩ (fun hHeld => ?_)
                  clear hK K
                  refine norm_ (a' := ?_) ?_ ?_
                  rotate_left
                  · show Act.put _ (some 50) _ = _
                    simp only [Act.put, List.setIfInBounds_toArray, List.set_cons_zero, List.set_cons_succ]
                    rfl
                  exact norm_ (by first | (simp only [putAll, Act.put, List.setIfInBounds_toArray, List.set_cons_zero, List.set_cons_succ]; done) | (simp only [putAll, Act.put, List.setIfInBounds_toArray, List.set_cons_zero, List.set_cons_succ]; rfl)) (hJ4 ⟨0, undef, _⟩ _ hA2)
              · skip
                rintro ⟨b1, v1, b2⟩ wn hA1
                dsimp only at hA1 ⊢
                have hHeld : wn.cell? ⟨BX, 0, none⟩ = some (.int .i64 e.a) ∧ wn.cell? ⟨BX, 1, none⟩ = some (.int .i64 e.b) ∧ wn.cell? ⟨BX, 2, none⟩ = some (.int .i64 e.w) := ⟨cell_of_below hA1.below E0, cell_of_below hA1.below E1, cell_of_below hA1.below E2⟩
                refine norm_ (a' := ?_) ?_ ?_
                rotate_left
                · simp only [putAll, Act.put, List.setIfInBounds_toArray, List.set_cons_zero, List.set_cons_succ]
                  rfl
                refine one_ (i := 0) (N := some 46) #[true, true, false, true, true, false, false, false, false, false, false, false] rfl rfl (by kernel_rfl) (by decide) (fun K hK => ?_)
                refine value_ (w1 := ?_) (v := ?_) (by rfl) rfl ?_ ?_
                rotate_left 2
                · go_simp
                  constructor
                  · rfl
                  · rfl
                have hA2 := hA1.base_
                refine hK.out _ _ ⟨cell_of_below hA2.below E0, cell_of_below hA2.below E1, cell_of_below hA2.below E2⟩ (fun hHeld => ?_)
                clear hK K
                refine norm_ (a' := ?_) ?_ ?_
                rotate_left
                · show Act.put _ (some 46) _ = _
                  simp only [Act.put, List.setIfInBounds_toArray, List.set_cons_zero, List.set_cons_succ]
                  rfl
                exact norm_ (by first | (simp only [putAll, Act.put, List.setIfInBounds_toArray, List.set_cons_zero, List.set_cons_succ]; done) | (simp only [putAll, Act.put, List.setIfInBounds_toArray, List.set_cons_zero, List.set_cons_succ]; rfl)) (hJ0_4 ⟨_, undef, b2⟩ _ hA2)
            · skip
              rintro ⟨b1, v1, b2⟩ wn hA1
              dsimp only at hA1 ⊢
              have hHeld : wn.cell? ⟨BX, 0, none⟩ = some (.int .i64 e.a) ∧ wn.cell? ⟨BX, 1, none⟩ = some (.int .i64 e.b) ∧ wn.cell? ⟨BX, 2, none⟩ = some (.int .i64 e.w) := ⟨cell_of_below hA1.below E0, cell_of_below hA1.below E1, cell_of_below hA1.below E2⟩
              refine norm_ (a' := ?_) ?_ ?_
              rotate_left
              · simp only [putAll, Act.put, List.setIfInBounds_toArray, List.set_cons_zero, List.set_cons_succ]
                rfl
              refine two_ (i := 2) (j := 4) (Ni := some 48) (Nj := some 50) #[true, true, true, true, false, false, false, false, false, false, false, false] #[true, true, false, true, true, false, false, false, false, false, false, false] rfl rfl rfl rfl (by kernel_rfl) (by decide) (by decide) (fun K hK => ?_) (fun K hK => ?_)
              · skip
                refine step_appendR encE_len encE_one (by rfl) _ _ 22 24 (.agg #[.int .i64 0, .int .i64 0, .int .i64 0]) 24 (by rfl) Try.underlying22 infoE rfl (by decide) (by decide) (v := _) (u := (.slice Af f.length cf)) (l := []) (ys := f) hA1.own (HRG3.out _ hA1.below) (by rfl) (by rfl) hA1.le (by first | omega | (simp <;> omega)) ?_
                intro va wa ho hg hat
                have hA2 := hA1.more ho hg hat
                rw [List.nil_append] at hA2
                refine hK.out _ _ ⟨cell_of_below hA2.below E0, cell_of_below hA2.below E1, cell_of_below hA2.below E2⟩ (fun hHeld => ?_)
                clear hK K
                refine norm_ (a' := ?_) ?_ ?_
                rotate_left
                · show Act.put _ (some 48) _ = _
                  simp only [Act.put, List.setIfInBounds_toArray, List.set_cons_zero, List.set_cons_succ]
                  rfl
                exact norm_ (by first | (simp only [putAll, Act.put, List.setIfInBounds_toArray, List.set_cons_zero, List.set_cons_succ]; done) | (simp only [putAll, Act.put, List.setIfInBounds_toArray, List.set_cons_zero, List.set_cons_succ]; rfl)) (hJ0_2 ⟨b1, _, 0⟩ _ hA2)
              · skip
                refine value_ (w1 := ?_) (v := ?_) (by rfl) rfl ?_ ?_
                rotate_left 2
                · go_simp
                  constructor
                  · rfl
                  · rfl
                have hA2 := hA1.elem
                refine hK.out _ _ ⟨cell_of_below hA2.below E0, cell_of_below hA2.below E1, cell_of_below hA2.below E2⟩ (fun hHeld => ?_)
                clear hK K
                refine norm_ (a' := ?_) ?_ ?_
                rotate_left
                · show Act.put _ (some 50) _ = _
                  simp only [Act.put, List.setIfInBounds_toArray, List.set_cons_zero, List.set_cons_succ]
                  rfl
                exact norm_ (by first | (simp only [putAll, Act.put, List.setIfInBounds_toArray, List.set_cons_zero, List.set_cons_succ]; done) | (simp only [putAll, Act.put, List.setIfInBounds_toArray, List.set_cons_zero, List.set_cons_succ]; rfl)) (hJ0_4 ⟨b1, undef, _⟩ _ hA2)
          · skip
            rintro ⟨b1, v1, b2⟩ wn hA1
            dsimp only at hA1 ⊢
            have hHeld : wn.cell? ⟨BX, 0, none⟩ = some (.int .i64 e.a) ∧ wn.cell? ⟨BX, 1, none⟩ = some (.int .i64 e.b) ∧ wn.cell? ⟨BX, 2, none⟩ = some (.int .i64 e.w) := ⟨cell_of_below hA1.below E0, cell_of_below hA1.below E1, cell_of_below hA1.below E2⟩
            refine norm_ (a' := ?_) ?_ ?_
            rotate_left
            · simp only [putAll, Act.put, List.setIfInBounds_toArray, List.set_cons_zero, List.set_cons_succ]
              rfl
            refine one_ (i := 2) (N := some 48) #[true, true, true, true, true, false, false, false, false, false, false, false] rfl rfl (by kernel_rfl) (by decide) (fun K hK => ?_)
            refine step_appendR encE_len encE_one (by rfl) _ _ 22 24 (.agg #[.int .i64 0, .int .i64 0, .int .i64 0]) 24 (by rfl) Try.underlying22 infoE rfl (by decide) (by decide) (v := _) (u := (.slice Af f.length cf)) (l := []) (ys := f) hA1.own (HRG3.out _ hA1.below) (by rfl) (by rfl) hA1.le (by first | omega | (simp <;> omega)) ?_
            intro va wa ho hg hat
            have hA2 := hA1.more ho hg hat
            rw [List.nil_append] at hA2
            refine hK.out _ _ ⟨cell_of_below hA2.below E0, cell_of_below hA2.below E1, cell_of_below hA2.below E2⟩ (fun hHeld => ?_)
            clear hK K
            refine norm_ (a' := ?_) ?_ ?_
            rotate_left
            · show Act.put _ (some 48) _ = _
              simp only [Act.put, List.setIfInBounds_toArray, List.set_cons_zero, List.set_cons_succ]
              rfl
            exact norm_ (by first | (simp only [putAll, Act.put, List.setIfInBounds_toArray, List.set_cons_zero, List.set_cons_succ]; done) | (simp only [putAll, Act.put, List.setIfInBounds_toArray, List.set_cons_zero, List.set_cons_succ]; rfl)) (hJ0_2_4 ⟨b1, _, b2⟩ _ hA2)
        · skip
          rintro ⟨b1, v1, b2⟩ wn hA1
          dsimp only at hA1 ⊢
          have hHeld : wn.cell? ⟨BX, 0, none⟩ = some (.int .i64 e.a) ∧ wn.cell? ⟨BX, 1, none⟩ = some (.int .i64 e.b) ∧ wn.cell? ⟨BX, 2, none⟩ = some (.int .i64 e.w) := ⟨cell_of_below hA1.below E0, cell_of_below hA1.below E1, cell_of_below hA1.below E2⟩
          refine norm_ (a' := ?_) ?_ ?_
          rotate_left
          · simp only [putAll, Act.put, List.setIfInBounds_toArray, List.set_cons_zero, List.set_cons_succ]
            rfl
          refine one_ (i := 4) (N := some 50) #[true, true, true, true, true, false, false, false, false, false, false, false] rfl rfl (by kernel_rfl) (by decide) (fun K hK => ?_)
          refine value_ (w1 := ?_) (v := ?_) (by rfl) rfl ?_ ?_
          rotate_left 2
          · go_simp
            constructor
            · rfl
            · rfl
          have hA2 := hA1.elem
          refine hK.out _ _ ⟨cell_of_below hA2.below E0, cell_of_below hA2.below E1, cell_of_below hA2.below E2⟩ (fun hHeld => ?_)
          clear hK K
          refine norm_ (a' := ?_) ?_ ?_
          rotate_left
          · show Act.put _ (some 50) _ = _
            simp only [Act.put, List.setIfInBounds_toArray, List.set_cons_zero, List.set_cons_succ]
            rfl
          exact norm_ (by first | (simp only [putAll, Act.put, List.setIfInBounds_toArray, List.set_cons_zero, List.set_cons_succ]; done) | (simp only [putAll, Act.put, List.setIfInBounds_toArray, List.set_cons_zero, List.set_cons_succ]; rfl)) (hJ0_2_4 ⟨b1, v1, _⟩ _ hA2)
      rintro ⟨b1, v1, b2⟩ wn hA1
      dsimp only at hA1 ⊢
      have hHeld : wn.cell? ⟨BX, 0, none⟩ = some (.int .i64 e.a) ∧ wn.cell? ⟨BX, 1, none⟩ = some (.int .i64 e.b) ∧ wn.cell? ⟨BX, 2, none⟩ = some (.int .i64 e.w) := ⟨cell_of_below hA1.below E0, cell_of_below hA1.below E1, cell_of_below hA1.below E2⟩
      refine norm_ (a' := ?_) ?_ ?_
      rotate_left
      · simp only [putAll, Act.put, List.setIfInBounds_toArray, List.set_cons_zero, List.set_cons_succ]
        rfl
      refine one_ (i := 5) (N := some 51) #[true, true, true, true, true, true, false, false, false, false, false, false] rfl rfl (by kernel_rfl) (by decide) (fun K hK => ?_)
      refine step_appendR encE_len encE_one (by rfl) _ _ 22 24 (.agg #[.int .i64 0, .int .i64 0, .int .i64 0]) 24 (by rfl) Try.underlying22 infoE rfl (by decide) (by decide) (v := v1) (u := (.slice (some ⟨b2, 0, none⟩) 1 1)) (l := f) (ys := [e]) hA1.own (hA1.rd1 b2 rfl) (by rfl) (by rfl) hA1.le (by first | omega | (simp <;> omega)) ?_
      intro va wa ho hg hat
      have hA2 := hA1.more ho hg hat
      refine hK.out _ _ ⟨cell_of_below hA2.below E0, cell_of_below hA2.below E1, cell_of_below hA2.below E2⟩ (fun hHeld => ?_)
      clear hK K
      refine norm_ (a' := ?_) ?_ ?_
      rotate_left
      · show Act.put _ (some 51) _ = _
        simp only [Act.put, List.setIfInBounds_toArray, List.set_cons_zero, List.set_cons_succ]
        rfl
      refine last_ (i := 6) (N := some 52) #[true, true, true, true, true, true, true, false, false, false, false, false] rfl rfl (by kernel_rfl) (by decide) (fun K hK => ?_)
      refine goes_ Try.func12 (by kernel_rfl) rfl #[va] (by rfl) rfl rfl (by simp only [List.map_toArray, List.map_cons, List.map_nil]; rfl) ?_
      with_reducible refine (least_ok HCG2.out _ _ (Own.rd encE_len hA2.own)).mono ?_
      rintro r w4 ⟨v4, rfl, hr4, hb4⟩
      refine ⟨_, rfl, ?_⟩
      refine hK.out _ _ ?_
      clear hK K
      refine norm_ (a' := ?_) ?_ ?_
      rotate_left
      · show Act.put _ (some 52) _ = _
        simp only [Act.put, List.setIfInBounds_toArray, List.set_cons_zero, List.set_cons_succ]
        rfl
      refine pure_ (i := 7) (N := some 45) (v := ?_) (a' := ?_) #[true, true, true, true, true, true, true, true, false, false, false, false] rfl rfl (by kernel_rfl) (fun _ _ _ h => h) (Or.inl ⟨by rfl, ?_⟩) ?_ ?_
      rotate_left
      · intro w'
        go_simp
        with_reducible rfl
      rotate_left
      · simp only [Act.put, List.setIfInBounds_toArray, List.set_cons_zero, List.set_cons_succ]
        rfl
      refine pure_ (i := 8) (N := some 53) (v := ?_) (a' := ?_) #[true, true, true, true, true, true, true, true, true, false, false, false] rfl rfl (by kernel_rfl) (fun _ _ _ h => h) (Or.inl ⟨by rfl, ?_⟩) ?_ ?_
      rotate_left
      · intro w'
        go_simp
        with_reducible rfl
      rotate_left
      · simp only [Act.put, List.setIfInBounds_toArray, List.set_cons_zero, List.set_cons_succ]
        rfl
      refine pure_ (i := 9) (N := some 54) (v := ?_) (a' := ?_) #[true, true, true, true, true, true, true, true, true, true, false, false] rfl rfl (by kernel_rfl) (fun _ _ _ h => h) (Or.inl ⟨by rfl, ?_⟩) ?_ ?_
      rotate_left
      · intro w'
        go_simp
        with_reducible rfl
      rotate_left
      · simp only [Act.put, List.setIfInBounds_toArray, List.set_cons_zero, List.set_cons_succ]
        rfl
      refine pure_ (i := 10) (N := some 9) (v := ?_) (a' := ?_) #[true, true, true, true, true, true, true, true, true, true, true, false] rfl rfl (by kernel_rfl) (fun _ _ _ h => h) (Or.inl ⟨by rfl, ?_⟩) ?_ ?_
      rotate_left
      · intro w'
        go_simp
        with_reducible rfl
      rotate_left
      · simp only [Act.put, List.setIfInBounds_toArray, List.set_cons_zero, List.set_cons_succ]
        rfl
      refine pure_ (i := 11) (N := some 10) (v := ?_) (a' := ?_) #[true, true, true, true, true, true, true, true, true, true, true, true] rfl rfl (by kernel_rfl) (fun _ _ _ h => h) (Or.inl ⟨by rfl, ?_⟩) ?_ ?_
      rotate_left
      · intro w'
        go_simp
        with_reducible rfl
      rotate_left
      · simp only [Act.put, List.setIfInBounds_toArray, List.set_cons_zero, List.set_cons_succ]
        rfl
      refine done_ (by kernel_rfl) ?_
      have HB4 := Lib.hid (below_then hA2.below hb4)
      have hr3b := HR3.out.below HB4.out
      rw [HGR2.out] at hr3b
      have hs4 := refSame_c (least (f ++ [e])) (least (f ++ [e])) _ _ _ hr3b hr4
      rw [decide_eq_true rfl] at hs4
      have HS4 := Lib.hid hs4
      clear hA1 hA2 hb4 hr4 hs4 hr3b E0 E1 E2
      simp only [Exit.then]
      go_wp2_with fail
      go_at_call 13; refine HS4.out.mono ?_; rintro r w5 ⟨rfl, hd5⟩
      have HB5 := Lib.hid (below_then HBW2.out (below_then HB3.out (below_then HB4.out hd5.below)))
      have HV5 := Lib.hid (HV.out.below HB5.out)
      have HF5 := Lib.hid (HRF.out.below (below_then HB3.out (below_then HB4.out hd5.below)))
      clear hd5 HS4 HB4 HB3 HRG3 HRG HRD HR3 HRF HVW2 HBW2
      go_wp2_with fail
      go_loopw [11] (fun s11 wr => ∃ i : Nat, i ≤ l.length ∧ s11 = .int .i64 i ∧ Below w5.heap.size w5 wr) (fun s11 _ => l.length - (intOf s11).toNat)
      case atStart => exact ⟨0, by omega, rfl, Below.refl _ _⟩
      case round =>
        obtain ⟨i, hi, rfl, hb⟩ := hrel
        have HB := Lib.hid hb
        clear hb
        by_cases hlt : i < l.length
        · have hi0 : (i : Int) < (l.length : Int) := by omega
          obtain ⟨x, hx⟩ : ∃ x, l[i] = x := ⟨_, rfl⟩
          have HX := Lib.hid hx
          clear hx
          go_wp2_with fail
          go_loopw [12, 13] (fun s12 s13 wi => ∃ k : Nat, k ≤ f.length ∧ s12 = .bool (among x (f.take k)) ∧ s13 = .int .i64 k ∧ Below w5.heap.size w5 wi) (fun _ s13 _ => f.length - (intOf s13).toNat)
          case atStart => exact ⟨0, by omega, rfl, rfl, HB.out⟩
          case round =>
            clear HB
            obtain ⟨k, hk, rfl, rfl, hb⟩ := hrel
            by_cases hkl : k < f.length
            · obtain ⟨A1, c1, e1, _, _, h3⟩ := HV5.out.below hb
              obtain ⟨b0, o0, rfl, _, g0⟩ := h3 (by intro h; subst h; simp at hlt)
              simp only [Value.slice.injEq, true_and] at e1
              obtain ⟨rfl, rfl⟩ := e1
              obtain ⟨x0, x1, x2⟩ := cells_E g0 i hlt
              rw [HX.out] at x0 x1 x2
              obtain ⟨A2, c2, e2, _, _, h4⟩ := HF5.out.below hb
              obtain ⟨b1, o1, rfl, _, g1⟩ := h4 (by intro h; subst h; simp at hkl)
              simp only [Value.slice.injEq, true_and] at e2
              obtain ⟨rfl, rfl⟩ := e2
              obtain ⟨y0, y1, y2⟩ := cells_E g1 k hkl
              clear g0 g1 h3 h4
              have hk0 : (k : Int) < (f.length : Int) := by omega
              have hsn := among_snoc x (f.take k) f[k]
              rw [← take_succ_at hkl] at hsn
              have hsm := sameE_iff f[k] x
              obtain ⟨q, hq⟩ : ∃ q, decide (f[k] = x) = q := ⟨_, rfl⟩
              rw [hq] at hsn hsm
              obtain ⟨r, hr⟩ : ∃ r, among x (f.take k) = r := ⟨_, rfl⟩
              rw [hr] at hsn
              rw [hr]
              have HSN := Lib.hid hsn
              have HB := Lib.hid hb
              clear hsn hb hr hq
              cases r
              · go_wp2_with fail
                go_quiet (fail)
                go_wp2_with fail
                go_roundw
                case rel => exact ⟨k + 1, by omega, by rw [HSN.out]; rfl, by go_num, below_drewN HB.out _⟩
                case measure => (simp [intOf]) <;> omega
              · go_wp2_with fail
                go_quiet (fail)
                go_wp2_with fail
                go_roundw
                case rel => exact ⟨k + 1, by omega, by rw [HSN.out]; rfl, by go_num, below_drewN HB.out _⟩
                case measure => (simp [intOf]) <;> omega
            · have hK : k = f.length := by omega
              subst hK
              rw [List.take_length]
              have hrl := HV5.out.below hb
              have hrf := HF5.out.below hb
              have hb0 : ∃ b0 o0, A0 = some ⟨b0, o0, none⟩ := by
                obtain ⟨A1, c1, e1, _, _, h3⟩ := hrl
                obtain ⟨b0, o0, rfl, _, _⟩ := h3 (by intro h; subst h; simp at hlt)
                simp only [Value.slice.injEq, true_and] at e1
                exact ⟨b0, o0, e1.1⟩
              obtain ⟨b0, o0, rfl⟩ := hb0
              have ht1 := hrl.take (m := i) (by omega)
              have ht2 := Rd.dropIf hrl (m := i + 1) (by omega)
              have hcc : check (l.take i ++ l.drop (i + 1)) = 0 := check_sub HCL.out (fun y hy => by
                rcases List.mem_append.1 hy with h | h
                · exact List.mem_of_mem_take h
                · exact List.mem_of_mem_drop h) (apart_cut HAP.out i) (by simp; omega)
              have HT1 := Lib.hid (fun w' (hq : Below wr.heap.size wr w') => ht1.below hq)
              have HT2 := Lib.hid (fun w' (hq : Below wr.heap.size wr w') => ht2.below hq)
              have HT3 := Lib.hid (fun w' (hq : Below wr.heap.size wr w') => hrf.below hq)
              have HCC := Lib.hid hcc
              have HB := Lib.hid hb
              obtain ⟨r, hr⟩ : ∃ r, among x f = r := ⟨_, rfl⟩
              have HR := Lib.hid hr
              rw [hr]
              have i1 : (0 : Int) ≤ (i : Int) := by omega
              have i2 : (i : Int) ≤ (c0 : Int) := by omega
              have i3 : (0 : Int) ≤ (i : Int) + 1 := by omega
              have i4 : (i : Int) + 1 ≤ (l.length : Int) := by omega
              have i5 : (l.length : Int) ≤ (c0 : Int) := by omega
              have i6 : IntKind.i64.wrap ((i : Int) + 1) = (i : Int) + 1 := by rw [IntKind.wrap_i64]; omega
              have i7 : ((i : Int) + 1).toNat = i + 1 := by omega
              have i8 : (l.take i).length ≤ 40 := by rw [List.length_take]; omega
              have i9 : (l.drop (i + 1)).length ≤ 40 := by rw [List.length_drop]; omega
              clear hrl hrf ht1 ht2 hcc hb hr
              go_wp2_with fail
              have hA1 := AppE.start wr e
              refine start_ (n := 16) (S := fun w' => True) (ds := [10]) #[false, false, false, false, false, false, false, false, false, false, false, false, false, false, false, false] (by kernel_rfl) rfl rfl trivial (fun hHeld => ?_)
              refine pure_ (i := 1) (N := some 97) (v := ?_) (a' := ?_) #[false, true, false, false, false, false, false, false, false, false, false, false, false, false, false, false] rfl rfl (by kernel_rfl) (fun _ _ _ h => h) (Or.inl ⟨by rfl, ?_⟩) ?_ ?_
              rotate_left
              · intro w'
                go_simp
                with_reducible rfl
              rotate_left
              · simp only [Act.put, List.setIfInBounds_toArray, List.set_cons_zero, List.set_cons_succ]
                rfl
              refine pure_ (i := 2) (N := some 98) (v := ?_) (a' := ?_) #[false, true, true, false, false, false, false, false, false, false, false, false, false, false, false, false] rfl rfl (by kernel_rfl) (fun _ _ _ h => h) (Or.inl ⟨by rfl, ?_⟩) ?_ ?_
              rotate_left
              · intro w'
                go_simp
                with_reducible rfl
              rotate_left
              · simp only [Act.put, List.setIfInBounds_toArray, List.set_cons_zero, List.set_cons_succ]
                rfl
              refine pure_ (i := 3) (N := some 99) (v := ?_) (a' := ?_) #[false, true, true, true, false, false, false, false, false, false, false, false, false, false, false, false] rfl rfl (by kernel_rfl) (fun _ _ _ h => h) (Or.inl ⟨by rfl, ?_⟩) ?_ ?_
              rotate_left
              · intro w'
                go_simp
                with_reducible rfl
              rotate_left
              · simp only [Act.put, List.setIfInBounds_toArray, List.set_cons_zero, List.set_cons_succ]
                rfl
              refine pure_ (i := 5) (N := some 101) (v := ?_) (a' := ?_) #[false, true, true, true, false, true, false, false, false, false, false, false, false, false, false, false] rfl rfl (by kernel_rfl) (fun _ _ _ h => h) (Or.inl ⟨by rfl, ?_⟩) ?_ ?_
              rotate_left
              · intro w'
                go_simp
                with_reducible rfl
              rotate_left
              · simp only [Act.put, List.setIfInBounds_toArray, List.set_cons_zero, List.set_cons_succ]
                rfl
              refine pure_ (i := 6) (N := some 102) (v := ?_) (a' := ?_) #[false, true, true, true, false, true, true, false, false, false, false, false, false, false, false, false] rfl rfl (by kernel_rfl) (fun _ _ _ h => h) (Or.inl ⟨by rfl, ?_⟩) ?_ ?_
              rotate_left
              · intro w'
                go_simp
                with_reducible rfl
              rotate_left
              · simp only [Act.put, List.setIfInBounds_toArray, List.set_cons_zero, List.set_cons_succ]
                rfl
              refine pure_ (i := 7) (N := some 103) (v := ?_) (a' := ?_) #[false, true, true, true, false, true, true, true, false, false, false, false, false, false, false, false] rfl rfl (by kernel_rfl) (fun _ _ _ h => h) (Or.inl ⟨by rfl, ?_⟩) ?_ ?_
              rotate_left
              · intro w'
                go_simp
                with_reducible rfl
              rotate_left
              · simp only [Act.put, List.setIfInBounds_toArray, List.set_cons_zero, List.set_cons_succ]
                rfl
              refine pure_ (i := 8) (N := some 104) (v := ?_) (a' := ?_) #[false, true, true, true, false, true, true, true, true, false, false, false, false, false, false, false] rfl rfl (by kernel_rfl) (fun _ _ _ h => h) (Or.inl ⟨by rfl, ?_⟩) ?_ ?_
              rotate_left
              · intro w'
                go_simp
                with_reducible rfl
              rotate_left
              · simp only [Act.put, List.setIfInBounds_toArray, List.set_cons_zero, List.set_cons_succ]
                rfl
              refine one_ (i := 0) (N := some 96) #[true, true, true, true, false, true, true, true, true, false, false, false, false, false, false, false] rfl rfl (by kernel_rfl) (by decide) (fun K hK => ?_)
              refine value_ (w1 := ?_) (v := ?_) (by rfl) rfl ?_ ?_
              rotate_left 2
              · go_simp
                constructor
                · rfl
                · rfl
              have hA2 := hA1.base_
              refine hK.out _ _ trivial (fun hHeld => ?_)
              clear hK K
              refine norm_ (a' := ?_) ?_ ?_
              rotate_left
              · show Act.put _ (some 96) _ = _
                simp only [Act.put, List.setIfInBounds_toArray, List.set_cons_zero, List.set_cons_succ]
                rfl
              refine one_ (i := 4) (N := some 100) #[true, true, true, true, true, true, true, true, true, false, false, false, false, false, false, false] rfl rfl (by kernel_rfl) (by decide) (fun K hK => ?_)
              refine step_appendR encE_len encE_one (by rfl) _ _ 22 24 (.agg #[.int .i64 0, .int .i64 0, .int .i64 0]) 24 (by rfl) Try.underlying22 infoE rfl (by decide) (by decide) (v := _) (u := (.slice (some ⟨b0, o0, none⟩) i c0)) (l := []) (ys := (l.take i)) hA2.own (HT1.out _ hA2.below) (by rfl) (by rfl) hA2.le (by first | omega | (simp <;> omega)) ?_
              intro va wa ho hg hat
              have hA3 := hA2.more ho hg hat
              rw [List.nil_append] at hA3
              refine hK.out _ _ trivial (fun hHeld => ?_)
              clear hK K
              refine norm_ (a' := ?_) ?_ ?_
              rotate_left
              · show Act.put _ (some 100) _ = _
                simp only [Act.put, List.setIfInBounds_toArray, List.set_cons_zero, List.set_cons_succ]
                rfl
              refine one_ (i := 9) (N := some 105) #[true, true, true, true, true, true, true, true, true, true, false, false, false, false, false, false] rfl rfl (by kernel_rfl) (by decide) (fun K hK => ?_)
              refine step_appendR encE_len encE_one (by rfl) _ _ 22 24 (.agg #[.int .i64 0, .int .i64 0, .int .i64 0]) 24 (by rfl) Try.underlying22 infoE rfl (by decide) (by decide) (v := va) (u := (.slice (if c0 = i + 1 then some ⟨b0, o0, none⟩ else some ⟨b0, o0 + (i + 1) * 3, none⟩) (l.length - (i + 1)) (c0 - (i + 1)))) (l := (l.take i)) (ys := (l.drop (i + 1))) hA3.own (HT2.out _ hA3.below) (by rfl) (by rfl) hA3.le (by first | omega | (simp <;> omega)) ?_
              intro vb wb ho4 hg4 hat4
              have hA4 := hA3.more ho4 hg4 hat4
              refine hK.out _ _ trivial (fun hHeld => ?_)
              clear hK K
              refine norm_ (a' := ?_) ?_ ?_
              rotate_left
              · show Act.put _ (some 105) _ = _
                simp only [Act.put, List.setIfInBounds_toArray, List.set_cons_zero, List.set_cons_succ]
                rfl
              refine last_ (i := 10) (N := some 106) #[true, true, true, true, true, true, true, true, true, true, true, false, false, false, false, false] rfl rfl (by kernel_rfl) (by decide) (fun K hK => ?_)
              refine goes_ Try.func12 (by kernel_rfl) rfl #[vb] (by rfl) rfl rfl (by simp only [List.map_toArray, List.map_cons, List.map_nil]; rfl) ?_
              with_reducible refine (least_ok HCC.out _ _ (Own.rd encE_len hA4.own)).mono ?_
              rintro q w6 ⟨v6, rfl, hr6, hb6⟩
              refine ⟨_, rfl, ?_⟩
              refine hK.out _ _ ?_
              clear hK K
              refine norm_ (a' := ?_) ?_ ?_
              rotate_left
              · show Act.put _ (some 106) _ = _
                simp only [Act.put, List.setIfInBounds_toArray, List.set_cons_zero, List.set_cons_succ]
                rfl
              refine pure_ (i := 11) (N := some 95) (v := ?_) (a' := ?_) #[true, true, true, true, true, true, true, true, true, true, true, true, false, false, false, false] rfl rfl (by kernel_rfl) (fun _ _ _ h => h) (Or.inl ⟨by rfl, ?_⟩) ?_ ?_
              rotate_left
              · intro w'
                go_simp
                with_reducible rfl
              rotate_left
              · simp only [Act.put, List.setIfInBounds_toArray, List.set_cons_zero, List.set_cons_succ]
                rfl
              refine pure_ (i := 12) (N := some 107) (v := ?_) (a' := ?_) #[true, true, true, true, true, true, true, true, true, true, true, true, true, false, false, false] rfl rfl (by kernel_rfl) (fun _ _ _ h => h) (Or.inl ⟨by rfl, ?_⟩) ?_ ?_
              rotate_left
              · intro w'
                go_simp
                with_reducible rfl
              rotate_left
              · simp only [Act.put, List.setIfInBounds_toArray, List.set_cons_zero, List.set_cons_succ]
                rfl
              refine pure_ (i := 13) (N := some 108) (v := ?_) (a' := ?_) #[true, true, true, true, true, true, true, true, true, true, true, true, true, true, false, false] rfl rfl (by kernel_rfl) (fun _ _ _ h => h) (Or.inl ⟨by rfl, ?_⟩) ?_ ?_
              rotate_left
              · intro w'
                go_simp
                with_reducible rfl
              rotate_left
              · simp only [Act.put, List.setIfInBounds_toArray, List.set_cons_zero, List.set_cons_succ]
                rfl
              refine pure_ (i := 14) (N := some 14) (v := ?_) (a' := ?_) #[true, true, true, true, true, true, true, true, true, true, true, true, true, true, true, false] rfl rfl (by kernel_rfl) (fun _ _ _ h => h) (Or.inl ⟨by rfl, ?_⟩) ?_ ?_
              rotate_left
              · intro w'
                go_simp
                with_reducible rfl
              rotate_left
              · simp only [Act.put, List.setIfInBounds_toArray, List.set_cons_zero, List.set_cons_succ]
                rfl
              refine pure_ (i := 15) (N := some 15) (v := ?_) (a' := ?_) #[true, true, true, true, true, true, true, true, true, true, true, true, true, true, true, true] rfl rfl (by kernel_rfl) (fun _ _ _ h => h) (Or.inl ⟨by rfl, ?_⟩) ?_ ?_
              rotate_left
              · intro w'
                go_simp
                with_reducible rfl
              rotate_left
              · simp only [Act.put, List.setIfInBounds_toArray, List.set_cons_zero, List.set_cons_succ]
                rfl
              refine done_ (by kernel_rfl) ?_
              have HB6 := Lib.hid (below_then hA4.below hb6)
              have HR6 := Lib.hid hr6
              clear hA1 hA2 hA3 hA4 hb6 hr6
              simp only [Exit.then]
              generalize (if c0 = i + 1 then (some ⟨b0, o0, none⟩ : Option Addr) else some ⟨b0, o0 + (i + 1) * 3, none⟩) = AU
              cases r
              · have hnot : l[i] ∉ least l := by
                  rw [HX.out, HF.out, ← among_iff, HR.out]; simp
                have hlc := least_cut HAP.out hlt hnot
                have hr6b := HR6.out
                rw [hlc, HF.out] at hr6b
                have hs6 := refSame_c f f _ _ _ hr6b (HT3.out _ HB6.out)
                rw [decide_eq_true rfl] at hs6
                have HS6 := Lib.hid hs6
                clear hnot hlc hr6b hs6
                go_wp2_with fail
                go_at_call 13; refine HS6.out.mono ?_; rintro q w7 ⟨rfl, hd7⟩
                have HB7 := Lib.hid (below_then HB.out (below_then HB6.out hd7.below))
                clear hd7
                go_wp2_with fail
                go_roundw
                case rel => exact ⟨i + 1, by omega, by go_num, HB7.out⟩
                case measure => (simp [intOf]) <;> omega
              · have HB7 := Lib.hid (below_then HB.out HB6.out)
                go_wp2_with fail
                go_roundw
                case rel => exact ⟨i + 1, by omega, by go_num, HB7.out⟩
                case measure => (simp [intOf]) <;> omega
        · go_wp2_with fail
          go_at_call 11; refine (awake07_c _).mono ?_; rintro r w6 ⟨rfl, h6⟩
          go_wp2_with fail
          go_ret
          exact ⟨rfl, below_then HB5.out (below_then HB.out h6)⟩
    · have hck := fun u w hu => refCheck_c (l ++ [e]) u w hu
      have hne : (check (l ++ [e]) != 0) = true := by simpa using h0
      obtain ⟨c, hc⟩ : ∃ c, check (l ++ [e]) = c := ⟨_, rfl⟩
      rw [hc] at hck hne
      have HCK := Lib.hid hck
      clear hck h0 hc
      have hA1 := AppE.start W e
      refine start_ (n := 13) (S := fun w' => w'.cell? ⟨BX, 0, none⟩ = some (.int .i64 e.a) ∧ w'.cell? ⟨BX, 1, none⟩ = some (.int .i64 e.b) ∧ w'.cell? ⟨BX, 2, none⟩ = some (.int .i64 e.w)) (ds := [10]) #[false, false, false, false, false, false, false, false, false, false, false, false, false] (by kernel_rfl) rfl rfl ⟨E0, E1, E2⟩ (fun hHeld => ?_)
      refine pure_ (i := 0) (N := some 16) (v := ?_) (a' := ?_) #[true, false, false, false, false, false, false, false, false, false, false, false, false] rfl rfl (by kernel_rfl) (fun _ _ _ h => h) (Or.inl ⟨by rfl, ?_⟩) ?_ ?_
      rotate_left
      · intro w'
        go_simp
        with_reducible rfl
      rotate_left
      · simp only [Act.put, List.setIfInBounds_toArray, List.set_cons_zero, List.set_cons_succ]
        rfl
      refine pure_ (i := 1) (N := some 17) (v := ?_) (a' := ?_) #[true, true, false, false, false, false, false, false, false, false, false, false, false] rfl rfl (by kernel_rfl) (fun _ _ _ h => h) (Or.inl ⟨by rfl, ?_⟩) ?_ ?_
      rotate_left
      · intro w'
        go_simp
        with_reducible rfl
      rotate_left
      · simp only [Act.put, List.setIfInBounds_toArray, List.set_cons_zero, List.set_cons_succ]
        rfl
      refine pure_ (i := 2) (N := some 18) (v := ?_) (a' := ?_) #[true, true, true, false, false, false, false, false, false, false, false, false, false] rfl rfl (by kernel_rfl) (fun _ _ _ h => h) (Or.inl ⟨by rfl, ?_⟩) ?_ ?_
      rotate_left
      · intro w'
        go_simp
        with_reducible rfl
      rotate_left
      · simp only [Act.put, List.setIfInBounds_toArray, List.set_cons_zero, List.set_cons_succ]
        rfl
      refine pure_ (i := 3) (N := some 19) (v := ?_) (a' := ?_) #[true, true, true, true, false, false, false, false, false, false, false, false, false] rfl rfl (by kernel_rfl) (fun _ _ _ h => h) (Or.inl ⟨by rfl, ?_⟩) ?_ ?_
      rotate_left
      · intro w'
        go_simp
        with_reducible rfl
      rotate_left
      · simp only [Act.put, List.setIfInBounds_toArray, List.set_cons_zero, List.set_cons_succ]
        rfl
      refine pure_ (i := 5) (N := some 21) (v := ?_) (a' := ?_) #[true, true, true, true, false, true, false, false, false, false, false, false, false] rfl rfl (by kernel_rfl) (fun _ _ _ h => h) (Or.inl ⟨by rfl, ?_⟩) ?_ ?_
      rotate_left
      · intro w'
        go_simp
        with_reducible rfl
      rotate_left
      · simp only [Act.put, List.setIfInBounds_toArray, List.set_cons_zero, List.set_cons_succ]
        rfl
      refine take_ (i := 7) (N := some 23) (v := ?_) (a' := ?_) #[true, true, true, true, false, true, false, true, false, false, false, false, false] rfl rfl (by kernel_rfl) (fun _ _ _ h => h) (Or.inl ⟨by rfl, ?_⟩) hHeld ?_ ?_
      rotate_left
      · rintro w' ⟨s0, s1, s2⟩
        go_simp
        with_reducible rfl
      rotate_left
      · simp only [Act.put, List.setIfInBounds_toArray, List.set_cons_zero, List.set_cons_succ]
        rfl
      refine join_ (σ := Nat × Value × Nat) 4 #[true, true, true, true, true, true, true, true, true, false, false, false, false] (fun s => [(20, .slice (some ⟨s.1, 0, none⟩) 0 0), (22, s.2.1), (24, .slice (some ⟨s.2.2, 0, none⟩) 1 1)]) (fun s w' => AppE W w' W.heap.size s.2.1 l (some s.2.2) e) ?_ ?_
      rotate_left
      · intro hJ4_6_8
        refine join_ (σ := Nat × Value × Nat) 5 #[true, true, true, true, true, true, true, true, false, false, false, false, false] (fun s => [(20, .slice (some ⟨s.1, 0, none⟩) 0 0), (22, s.2.1)]) (fun s w' => AppE W w' W.heap.size s.2.1 l none e) ?_ ?_
        rotate_left
        · intro hJ4_6
          refine join_ (σ := Nat × Value × Nat) 5 #[true, true, true, true, true, true, false, true, true, false, false, false, false] (fun s => [(20, .slice (some ⟨s.1, 0, none⟩) 0 0), (24, .slice (some ⟨s.2.2, 0, none⟩) 1 1)]) (fun s w' => AppE W w' W.heap.size (.slice (some ⟨s.1, 0, none⟩) 0 0) [] (some s.2.2) e) ?_ ?_
          rotate_left
          · intro hJ4_8
            refine join_ (σ := Nat × Value × Nat) 6 #[true, true, true, true, true, true, false, true, false, false, false, false, false] (fun s => [(20, .slice (some ⟨s.1, 0, none⟩) 0 0)]) (fun s w' => AppE W w' W.heap.size (.slice (some ⟨s.1, 0, none⟩) 0 0) [] none e) ?_ ?_
            rotate_left
            · intro hJ4
              refine join_ (σ := Nat × Value × Nat) 6 #[true, true, true, true, false, true, false, true, true, false, false, false, false] (fun s => [(24, .slice (some ⟨s.2.2, 0, none⟩) 1 1)]) (fun s w' => AppE W w' W.heap.size (.slice none 0 0) [] (some s.2.2) e) ?_ ?_
              rotate_left
              · intro hJ8
                refine two_ (i := 4) (j := 8) (Ni := some 20) (Nj := some 24) #[true, true, true, true, true, true, false, true, false, false, false, false, false] #[true, true, true, true, false, true, false, true, true, false, false, false, false] rfl rfl rfl rfl (by kernel_rfl) (by decide) (by decide) (fun K hK => ?_) (fun K hK => ?_)
                · skip
                  refine value_ (w1 := ?_) (v := ?_) (by rfl) rfl ?_ ?_
                  rotate_left 2
                  · go_simp
                    constructor
                    · rfl
                    · rfl
                  have hA2 := hA1.base_
                  refine hK.out _ _ ⟨cell_of_below hA2.below E0, cell_of_below hA2.below E1, cell_of_below hA2.below E2⟩ (fun hHeld => ?_)
                  clear hK K
                  refine norm_ (a' := ?_) ?_ ?_
                  rotate_left
                  · show Act.put _ (some 20) _ = _
                    simp only [Act.put, List.setIfInBounds_toArray, List.set_cons_zero, List.set_cons_succ]
                    rfl
                  exact norm_ (by first | (simp only [putAll, Act.put, List.setIfInBounds_toArray, List.set_cons_zero, List.set_cons_succ]; done) | (simp only [putAll, Act.put, List.setIfInBounds_toArray, List.set_cons_zero, List.set_cons_succ]; rfl)) (hJ4 ⟨_, undef, 0⟩ _ hA2)
                · skip
                  refine value_ (w1 := ?_) (v := ?_) (by rfl) rfl ?_ ?_
                  rotate_left 2
                  · go_simp
                    constructor
                    · rfl
                    · rfl
                  have hA2 := hA1.elem
                  refine hK.out _ _ ⟨cell_of_below hA2.below E0, cell_of_below hA2.below E1, cell_of_below hA2.below E2⟩ (fun hHeld => ?_)
                  clear hK K
                  refine norm_ (a' := ?_) ?_ ?_
                  rotate_left
                  · show Act.put _ (some 24) _ = _
                    simp only [Act.put, List.setIfInBounds_toArray, List.set_cons_zero, List.set_cons_succ]
                    rfl
                  exact norm_ (by first | (simp only [putAll, Act.put, List.setIfInBounds_toArray, List.set_cons_zero, List.set_cons_succ]; done) | (simp only [putAll, Act.put, List.setIfInBounds_toArray, List.set_cons_zero, List.set_cons_succ]; rfl)) (hJ8 ⟨0, undef, _⟩ _ hA2)
              · skip
                rintro ⟨b1, v1, b2⟩ wn hA1
                dsimp only at hA1 ⊢
                have hHeld : wn.cell? ⟨BX, 0, none⟩ = some (.int .i64 e.a) ∧ wn.cell? ⟨BX, 1, none⟩ = some (.int .i64 e.b) ∧ wn.cell? ⟨BX, 2, none⟩ = some (.int .i64 e.w) := ⟨cell_of_below hA1.below E0, cell_of_below hA1.below E1, cell_of_below hA1.below E2⟩
                refine norm_ (a' := ?_) ?_ ?_
                rotate_left
                · simp only [putAll, Act.put, List.setIfInBounds_toArray, List.set_cons_zero, List.set_cons_succ]
                  rfl
                refine one_ (i := 4) (N := some 20) #[true, true, true, true, true, true, false, true, true, false, false, false, false] rfl rfl (by kernel_rfl) (by decide) (fun K hK => ?_)
                refine value_ (w1 := ?_) (v := ?_) (by rfl) rfl ?_ ?_
                rotate_left 2
                · go_simp
                  constructor
                  · rfl
                  · rfl
                have hA2 := hA1.base_
                refine hK.out _ _ ⟨cell_of_below hA2.below E0, cell_of_below hA2.below E1, cell_of_below hA2.below E2⟩ (fun hHeld => ?_)
                clear hK K
                refine norm_ (a' := ?_) ?_ ?_
                rotate_left
                · show Act.put _ (some 20) _ = _
                  simp only [Act.put, List.setIfInBounds_toArray, List.set_cons_zero, List.set_cons_succ]
                  rfl
                exact norm_ (by first | (simp only [putAll, Act.put, List.setIfInBounds_toArray, List.set_cons_zero, List.set_cons_succ]; done) | (simp only [putAll, Act.put, List.setIfInBounds_toArray, List.set_cons_zero, List.set_cons_succ]; rfl)) (hJ4_8 ⟨_, undef, b2⟩ _ hA2)
            · skip
              rintro ⟨b1, v1, b2⟩ wn hA1
              dsimp only at hA1 ⊢
              have hHeld : wn.cell? ⟨BX, 0, none⟩ = some (.int .i64 e.a) ∧ wn.cell? ⟨BX, 1, none⟩ = some (.int .i64 e.b) ∧ wn.cell? ⟨BX, 2, none⟩ = some (.int .i64 e.w) := ⟨cell_of_below hA1.below E0, cell_of_below hA1.below E1, cell_of_below hA1.below E2⟩
              refine norm_ (a' := ?_) ?_ ?_
              rotate_left
              · simp only [putAll, Act.put, List.setIfInBounds_toArray, List.set_cons_zero, List.set_cons_succ]
                rfl
              refine two_ (i := 6) (j := 8) (Ni := some 22) (Nj := some 24) #[true, true, true, true, true, true, true, true, false, false, false, false, false] #[true, true, true, true, true, true, false, true, true, false, false, false, false] rfl rfl rfl rfl (by kernel_rfl) (by decide) (by decide) (fun K hK => ?_) (fun K hK => ?_)
              · skip
                refine step_appendR encE_len encE_one (by rfl) _ _ 22 24 (.agg #[.int .i64 0, .int .i64 0, .int .i64 0]) 24 (by rfl) Try.underlying22 infoE rfl (by decide) (by decide) (v := _) (u := (.slice A0 l.length c0)) (l := []) (ys := l) hA1.own (HRD.out _ hA1.below) (by rfl) (by rfl) hA1.le (by first | omega | (simp <;> omega)) ?_
                intro va wa ho hg hat
                have hA2 := hA1.more ho hg hat
                rw [List.nil_append] at hA2
                refine hK.out _ _ ⟨cell_of_below hA2.below E0, cell_of_below hA2.below E1, cell_of_below hA2.below E2⟩ (fun hHeld => ?_)
                clear hK K
                refine norm_ (a' := ?_) ?_ ?_
                rotate_left
                · show Act.put _ (some 22) _ = _
                  simp only [Act.put, List.setIfInBounds_toArray, List.set_cons_zero, List.set_cons_succ]
                  rfl
                exact norm_ (by first | (simp only [putAll, Act.put, List.setIfInBounds_toArray, List.set_cons_zero, List.set_cons_succ]; done) | (simp only [putAll, Act.put, List.setIfInBounds_toArray, List.set_cons_zero, List.set_cons_succ]; rfl)) (hJ4_6 ⟨b1, _, 0⟩ _ hA2)
              · skip
                refine value_ (w1 := ?_) (v := ?_) (by rfl) rfl ?_ ?_
                rotate_left 2
                · go_simp
                  constructor
                  · rfl
                  · rfl
                have hA2 := hA1.elem
                refine hK.out _ _ ⟨cell_of_below hA2.below E0, cell_of_below hA2.below E1, cell_of_below hA2.below E2⟩ (fun hHeld => ?_)
                clear hK K
                refine norm_ (a' := ?_) ?_ ?_
                rotate_left
                · show Act.put _ (some 24) _ = _
                  simp only [Act.put, List.setIfInBounds_toArray, List.set_cons_zero, List.set_cons_succ]
                  rfl
                exact norm_ (by first | (simp only [putAll, Act.put, List.setIfInBounds_toArray, List.set_cons_zero, List.set_cons_succ]; done) | (simp only [putAll, Act.put, List.setIfInBounds_toArray, List.set_cons_zero, List.set_cons_succ]; rfl)) (hJ4_8 ⟨b1, undef, _⟩ _ hA2)
          · skip
            rintro ⟨b1, v1, b2⟩ wn hA1
            dsimp only at hA1 ⊢
            have hHeld : wn.cell? ⟨BX, 0, none⟩ = some (.int .i64 e.a) ∧ wn.cell? ⟨BX, 1, none⟩ = some (.int .i64 e.b) ∧ wn.cell? ⟨BX, 2, none⟩ = some (.int .i64 e.w) := ⟨cell_of_below hA1.below E0, cell_of_below hA1.below E1, cell_of_below hA1.below E2⟩
            refine norm_ (a' := ?_) ?_ ?_
            rotate_left
            · simp only [putAll, Act.put, List.setIfInBounds_toArray, List.set_cons_zero, List.set_cons_succ]
              rfl
            refine one_ (i := 6) (N := some 22) #[true, true, true, true, true, true, true, true, true, false, false, false, false] rfl rfl (by kernel_rfl) (by decide) (fun K hK => ?_)
            refine step_appendR encE_len encE_one (by rfl) _ _ 22 24 (.agg #[.int .i64 0, .int .i64 0, .int .i64 0]) 24 (by rfl) Try.underlying22 infoE rfl (by decide) (by decide) (v := _) (u := (.slice A0 l.length c0)) (l := []) (ys := l) hA1.own (HRD.out _ hA1.below) (by rfl) (by rfl) hA1.le (by first | omega | (simp <;> omega)) ?_
            intro va wa ho hg hat
            have hA2 := hA1.more ho hg hat
            rw [List.nil_append] at hA2
            refine hK.out _ _ ⟨cell_of_below hA2.below E0, cell_of_below hA2.below E1, cell_of_below hA2.below E2⟩ (fun hHeld => ?_)
            clear hK K
            refine norm_ (a' := ?_) ?_ ?_
            rotate_left
            · show Act.put _ (some 22) _ = _
              simp only [Act.put, List.setIfInBounds_toArray, List.set_cons_zero, List.set_cons_succ]
              rfl
            exact norm_ (by first | (simp only [putAll, Act.put, List.setIfInBounds_toArray, List.set_cons_zero, List.set_cons_succ]; done) | (simp only [putAll, Act.put, List.setIfInBounds_toArray, List.set_cons_zero, List.set_cons_succ]; rfl)) (hJ4_6_8 ⟨b1, _, b2⟩ _ hA2)
        · skip
          rintro ⟨b1, v1, b2⟩ wn hA1
          dsimp only at hA1 ⊢
          have hHeld : wn.cell? ⟨BX, 0, none⟩ = some (.int .i64 e.a) ∧ wn.cell? ⟨BX, 1, none⟩ = some (.int .i64 e.b) ∧ wn.cell? ⟨BX, 2, none⟩ = some (.int .i64 e.w) := ⟨cell_of_below hA1.below E0, cell_of_below hA1.below E1, cell_of_below hA1.below E2⟩
          refine norm_ (a' := ?_) ?_ ?_
          rotate_left
          · simp only [putAll, Act.put, List.setIfInBounds_toArray, List.set_cons_zero, List.set_cons_succ]
            rfl
          refine one_ (i := 8) (N := some 24) #[true, true, true, true, true, true, true, true, true, false, false, false, false] rfl rfl (by kernel_rfl) (by decide) (fun K hK => ?_)
          refine value_ (w1 := ?_) (v := ?_) (by rfl) rfl ?_ ?_
          rotate_left 2
          · go_simp
            constructor
            · rfl
            · rfl
          have hA2 := hA1.elem
          refine hK.out _ _ ⟨cell_of_below hA2.below E0, cell_of_below hA2.below E1, cell_of_below hA2.below E2⟩ (fun hHeld => ?_)
          clear hK K
          refine norm_ (a' := ?_) ?_ ?_
          rotate_left
          · show Act.put _ (some 24) _ = _
            simp only [Act.put, List.setIfInBounds_toArray, List.set_cons_zero, List.set_cons_succ]
            rfl
          exact norm_ (by first | (simp only [putAll, Act.put, List.setIfInBounds_toArray, List.set_cons_zero, List.set_cons_succ]; done) | (simp only [putAll, Act.put, List.setIfInBounds_toArray, List.set_cons_zero, List.set_cons_succ]; rfl)) (hJ4_6_8 ⟨b1, v1, _⟩ _ hA2)
      rintro ⟨b1, v1, b2⟩ wn hA1
      dsimp only at hA1 ⊢
      have hHeld : wn.cell? ⟨BX, 0, none⟩ = some (.int .i64 e.a) ∧ wn.cell? ⟨BX, 1, none⟩ = some (.int .i64 e.b) ∧ wn.cell? ⟨BX, 2, none⟩ = some (.int .i64 e.w) := ⟨cell_of_below hA1.below E0, cell_of_below hA1.below E1, cell_of_below hA1.below E2⟩
      refine norm_ (a' := ?_) ?_ ?_
      rotate_left
      · simp only [putAll, Act.put, List.setIfInBounds_toArray, List.set_cons_zero, List.set_cons_succ]
        rfl
      refine one_ (i := 9) (N := some 25) #[true, true, true, true, true, true, true, true, true, true, false, false, false] rfl rfl (by kernel_rfl) (by decide) (fun K hK => ?_)
      refine step_appendR encE_len encE_one (by rfl) _ _ 22 24 (.agg #[.int .i64 0, .int .i64 0, .int .i64 0]) 24 (by rfl) Try.underlying22 infoE rfl (by decide) (by decide) (v := v1) (u := (.slice (some ⟨b2, 0, none⟩) 1 1)) (l := l) (ys := [e]) hA1.own (hA1.rd1 b2 rfl) (by rfl) (by rfl) hA1.le (by first | omega | (simp <;> omega)) ?_
      intro va wa ho hg hat
      have hA2 := hA1.more ho hg hat
      refine hK.out _ _ ⟨cell_of_below hA2.below E0, cell_of_below hA2.below E1, cell_of_below hA2.below E2⟩ (fun hHeld => ?_)
      clear hK K
      refine norm_ (a' := ?_) ?_ ?_
      rotate_left
      · show Act.put _ (some 25) _ = _
        simp only [Act.put, List.setIfInBounds_toArray, List.set_cons_zero, List.set_cons_succ]
        rfl
      refine last_ (i := 10) (N := some 26) #[true, true, true, true, true, true, true, true, true, true, true, false, false] rfl rfl (by kernel_rfl) (by decide) (fun K hK => ?_)
      refine goes_ Try.func10 (by kernel_rfl) rfl #[va] (by rfl) rfl rfl (by simp only [List.map_toArray, List.map_cons, List.map_nil]; rfl) ?_
      with_reducible refine (HCK.out _ _ (Own.rd encE_len hA2.own)).mono ?_
      rintro r w1 ⟨rfl, hb1⟩
      refine ⟨_, rfl, ?_⟩
      refine hK.out _ _ ?_
      clear hK K
      refine norm_ (a' := ?_) ?_ ?_
      rotate_left
      · show Act.put _ (some 26) _ = _
        simp only [Act.put, List.setIfInBounds_toArray, List.set_cons_zero, List.set_cons_succ]
        rfl
      refine pure_ (i := 11) (N := some 27) (v := ?_) (a' := ?_) #[true, true, true, true, true, true, true, true, true, true, true, true, false] rfl rfl (by kernel_rfl) (fun _ _ _ h => h) (Or.inl ⟨by rfl, ?_⟩) ?_ ?_
      rotate_left
      · intro w'
        go_simp
        with_reducible rfl
      rotate_left
      · simp only [Act.put, List.setIfInBounds_toArray, List.set_cons_zero, List.set_cons_succ]
        rfl
      refine pure_ (i := 12) (N := some 28) (v := ?_) (a' := ?_) #[true, true, true, true, true, true, true, true, true, true, true, true, true] rfl rfl (by kernel_rfl) (fun _ _ _ h => h) (Or.inl ⟨by rfl, ?_⟩) ?_ ?_
      rotate_left
      · intro w'
        go_simp
        with_reducible rfl
      rotate_left
      · simp only [Act.put, List.setIfInBounds_toArray, List.set_cons_zero, List.set_cons_succ]
        rfl
      refine done_ (by kernel_rfl) ?_
      have HB1 := Lib.hid (below_then hA2.below hb1)
      clear hA1 hA2 hb1
      simp only [Exit.then]
      go_wp2_with fail
      go_at_call 11; refine (awake07_c _).mono ?_; rintro r w2 ⟨rfl, h2⟩
      go_wp2_with fail
      go_ret
      exact ⟨rfl, below_then HBW.out (below_then HB1.out h2)⟩

end Go.Proofs.Ytandminldgiheaa
