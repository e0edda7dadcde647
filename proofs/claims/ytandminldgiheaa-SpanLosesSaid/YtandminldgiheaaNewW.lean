/- Walk: 65 numbers, each alone. -/
import Derived.Test.YtandminldgiheaaNewB
import Derived.Test.YtandminldgiheaaJoinW
import Derived.Test.YtandminldgiheaaNodesW
import Derived.Test.YtandminldgiheaaWLast
namespace Go.Proofs.Ytandminldgiheaa
open Go.RowKit Go.Proofs.YtandminldgiheaaW.PrintLast

def nums (k : Nat) : List Int := (List.range k).map Int.ofNat
theorem nums_length (k : Nat) : (nums k).length = k := by simp [nums]
theorem nums_succ (k : Nat) : nums (k + 1) = nums k ++ [(k : Int)] := by simp [nums, List.range_succ]
theorem ones_succ (k : Nat) : List.replicate (k + 1) (1 : Int) = List.replicate k 1 ++ [1] := by rw [List.replicate_succ']

set_option maxRecDepth 100000 in
set_option maxHeartbeats 4000000 in
theorem joinNew_c (w0 : World) : Calls Try.prog 78 #[.int .i64 64] w0 fun e w' => ∃ J cu cs cl U S L, e = .returned (.tuple #[.pointer (some ⟨J, 0, none⟩), .int .i64 0]) ∧
    Mid w0 w' w0.heap.size w0.heap.size J #[.slice (some ⟨U, 0, none⟩) 65 cu, .slice (some ⟨S, 0, none⟩) 65 cs, .slice (some ⟨L, 0, none⟩) 65 cl, .int .i64 64]
      (t3 (.slice (some ⟨U, 0, none⟩) 65 cu) (.slice (some ⟨S, 0, none⟩) 65 cs) (.slice (some ⟨L, 0, none⟩) 65 cl)) (t3 (nums 65) (List.replicate 65 1) (nums 65)) (t3 none none none) (t3 0 0 0) := by
  go_enter Try.func78, Try.ntmps78
  go_wp2_with fail
  go_loopw [17] (fun s17 wr => ∃ (k : Nat) (v0 v1 v2 : Value), k ≤ 65 ∧ s17 = .int .i64 k ∧ Mid w0 wr w0.heap.size w0.heap.size w0.heap.size #[v0, v1, v2, .int .i64 64] (t3 v0 v1 v2) (t3 (nums k) (List.replicate k 1) (nums k)) (t3 none none none) (t3 0 0 0)) (fun s17 _ => 65 - (intOf s17).toNat)
  case atStart => exact ⟨0, _, _, _, by omega, rfl, Mid.fresh w0 _ _⟩
  case round =>
    obtain ⟨k, v0, v1, v2, hk, rfl, hm⟩ := hrel
    have HM := Lib.hid hm
    clear hm
    by_cases hlt : k < 65
    · have hi0 : (k : Int) < 65 := by omega
      go_wp2_with fail
      obtain ⟨L0, hL0⟩ : ∃ L, nums k = L := ⟨_, rfl⟩
      obtain ⟨L1, hL1⟩ : ∃ L, List.replicate k (1 : Int) = L := ⟨_, rfl⟩
      obtain ⟨L2, hL2⟩ : ∃ L, nums k = L := ⟨_, rfl⟩
      obtain ⟨J, hJ⟩ : ∃ J, w0.heap.size = J := ⟨_, rfl⟩
      have hM1 : Mid w0 wr.drew J J J #[v0, v1, v2, .int .i64 64] (t3 v0 v1 v2) (t3 L0 L1 L2) (t3 none none none) (t3 (k : Int) 1 (k : Int)) := by
        have := (HM.out.none_ (t3 (k : Int) 1 (k : Int))).drew
        rw [hJ] at this
        rw [← hL0, ← hL1, ← hL2] 
        exact this
      have hl0 : L0.length = k := by rw [← hL0, nums_length]
      have hl1 : L1.length = k := by rw [← hL1, List.length_replicate]
      have hl2 : L2.length = k := by rw [← hL2, nums_length]
      rw [hJ]
      refine start_ (n := 32) (S := fun w' => w'.cell? ⟨J, 0, none⟩ = some v0 ∧ w'.cell? ⟨J, 1, none⟩ = some v1 ∧ w'.cell? ⟨J, 2, none⟩ = some v2) (ds := [25, 28, 31]) #[false, false, false, false, false, false, false, false, false, false, false, false, false, false, false, false, false, false, false, false, false, false, false, false, false, false, false, false, false, false, false, false] (by kernel_rfl) rfl rfl ⟨hM1.cell 0, hM1.cell 1, hM1.cell 2⟩ (fun hHeld => ?_)
      refine pure_ (i := 0) (N := some 20) (v := ?_) (a' := ?_) #[true, false, false, false, false, false, false, false, false, false, false, false, false, false, false, false, false, false, false, false, false, false, false, false, false, false, false, false, false, false, false, false] rfl rfl (by kernel_rfl) (fun _ _ _ h => h) (Or.inl ⟨by rfl, ?_⟩) ?_ ?_
      rotate_left
      · intro w'
        go_simp
        with_reducible rfl
      rotate_left
      · simp only [Act.put, List.setIfInBounds_toArray, List.set_cons_zero, List.set_cons_succ]
        rfl
      refine pure_ (i := 1) (N := some 21) (v := ?_) (a' := ?_) #[true, true, false, false, false, false, false, false, false, false, false, false, false, false, false, false, false, false, false, false, false, false, false, false, false, false, false, false, false, false, false, false] rfl rfl (by kernel_rfl) (fun _ _ _ h => h) (Or.inl ⟨by rfl, ?_⟩) ?_ ?_
      rotate_left
      · intro w'
        go_simp
        with_reducible rfl
      rotate_left
      · simp only [Act.put, List.setIfInBounds_toArray, List.set_cons_zero, List.set_cons_succ]
        rfl
      refine pure_ (i := 2) (N := some 22) (v := ?_) (a' := ?_) #[true, true, true, false, false, false, false, false, false, false, false, false, false, false, false, false, false, false, false, false, false, false, false, false, false, false, false, false, false, false, false, false] rfl rfl (by kernel_rfl) (fun _ _ _ h => h) (Or.inl ⟨by rfl, ?_⟩) ?_ ?_
      rotate_left
      · intro w'
        go_simp
        with_reducible rfl
      rotate_left
      · simp only [Act.put, List.setIfInBounds_toArray, List.set_cons_zero, List.set_cons_succ]
        rfl
      refine pure_ (i := 3) (N := some 23) (v := ?_) (a' := ?_) #[true, true, true, true, false, false, false, false, false, false, false, false, false, false, false, false, false, false, false, false, false, false, false, false, false, false, false, false, false, false, false, false] rfl rfl (by kernel_rfl) (fun _ _ _ h => h) (Or.inl ⟨by rfl, ?_⟩) ?_ ?_
      rotate_left
      · intro w'
        go_simp
        with_reducible rfl
      rotate_left
      · simp only [Act.put, List.setIfInBounds_toArray, List.set_cons_zero, List.set_cons_succ]
        rfl
      refine pure_ (i := 4) (N := some 24) (v := ?_) (a' := ?_) #[true, true, true, true, true, false, false, false, false, false, false, false, false, false, false, false, false, false, false, false, false, false, false, false, false, false, false, false, false, false, false, false] rfl rfl (by kernel_rfl) (fun _ _ _ h => h) (Or.inl ⟨by rfl, ?_⟩) ?_ ?_
      rotate_left
      · intro w'
        go_simp
        with_reducible rfl
      rotate_left
      · simp only [Act.put, List.setIfInBounds_toArray, List.set_cons_zero, List.set_cons_succ]
        rfl
      refine pure_ (i := 5) (N := some 25) (v := ?_) (a' := ?_) #[true, true, true, true, true, true, false, false, false, false, false, false, false, false, false, false, false, false, false, false, false, false, false, false, false, false, false, false, false, false, false, false] rfl rfl (by kernel_rfl) (fun _ _ _ h => h) (Or.inl ⟨by rfl, ?_⟩) ?_ ?_
      rotate_left
      · intro w'
        go_simp
        with_reducible rfl
      rotate_left
      · simp only [Act.put, List.setIfInBounds_toArray, List.set_cons_zero, List.set_cons_succ]
        rfl
      refine pure_ (i := 7) (N := some 27) (v := ?_) (a' := ?_) #[true, true, true, true, true, true, false, true, false, false, false, false, false, false, false, false, false, false, false, false, false, false, false, false, false, false, false, false, false, false, false, false] rfl rfl (by kernel_rfl) (fun _ _ _ h => h) (Or.inl ⟨by rfl, ?_⟩) ?_ ?_
      rotate_left
      · intro w'
        go_simp
        with_reducible rfl
      rotate_left
      · simp only [Act.put, List.setIfInBounds_toArray, List.set_cons_zero, List.set_cons_succ]
        rfl
      refine pure_ (i := 10) (N := some 30) (v := ?_) (a' := ?_) #[true, true, true, true, true, true, false, true, false, false, true, false, false, false, false, false, false, false, false, false, false, false, false, false, false, false, false, false, false, false, false, false] rfl rfl (by kernel_rfl) (fun _ _ _ h => h) (Or.inl ⟨by rfl, ?_⟩) ?_ ?_
      rotate_left
      · intro w'
        go_simp
        with_reducible rfl
      rotate_left
      · simp only [Act.put, List.setIfInBounds_toArray, List.set_cons_zero, List.set_cons_succ]
        rfl
      refine pure_ (i := 11) (N := some 31) (v := ?_) (a' := ?_) #[true, true, true, true, true, true, false, true, false, false, true, true, false, false, false, false, false, false, false, false, false, false, false, false, false, false, false, false, false, false, false, false] rfl rfl (by kernel_rfl) (fun _ _ _ h => h) (Or.inl ⟨by rfl, ?_⟩) ?_ ?_
      rotate_left
      · intro w'
        go_simp
        with_reducible rfl
      rotate_left
      · simp only [Act.put, List.setIfInBounds_toArray, List.set_cons_zero, List.set_cons_succ]
        rfl
      refine pure_ (i := 12) (N := some 32) (v := ?_) (a' := ?_) #[true, true, true, true, true, true, false, true, false, false, true, true, true, false, false, false, false, false, false, false, false, false, false, false, false, false, false, false, false, false, false, false] rfl rfl (by kernel_rfl) (fun _ _ _ h => h) (Or.inl ⟨by rfl, ?_⟩) ?_ ?_
      rotate_left
      · intro w'
        go_simp
        with_reducible rfl
      rotate_left
      · simp only [Act.put, List.setIfInBounds_toArray, List.set_cons_zero, List.set_cons_succ]
        rfl
      refine pure_ (i := 16) (N := some 36) (v := ?_) (a' := ?_) #[true, true, true, true, true, true, false, true, false, false, true, true, true, false, false, false, true, false, false, false, false, false, false, false, false, false, false, false, false, false, false, false] rfl rfl (by kernel_rfl) (fun _ _ _ h => h) (Or.inl ⟨by rfl, ?_⟩) ?_ ?_
      rotate_left
      · intro w'
        go_simp
        with_reducible rfl
      rotate_left
      · simp only [Act.put, List.setIfInBounds_toArray, List.set_cons_zero, List.set_cons_succ]
        rfl
      refine pure_ (i := 17) (N := some 37) (v := ?_) (a' := ?_) #[true, true, true, true, true, true, false, true, false, false, true, true, true, false, false, false, true, true, false, false, false, false, false, false, false, false, false, false, false, false, false, false] rfl rfl (by kernel_rfl) (fun _ _ _ h => h) (Or.inl ⟨by rfl, ?_⟩) ?_ ?_
      rotate_left
      · intro w'
        go_simp
        with_reducible rfl
      rotate_left
      · simp only [Act.put, List.setIfInBounds_toArray, List.set_cons_zero, List.set_cons_succ]
        rfl
      refine pure_ (i := 18) (N := some 38) (v := ?_) (a' := ?_) #[true, true, true, true, true, true, false, true, false, false, true, true, true, false, false, false, true, true, true, false, false, false, false, false, false, false, false, false, false, false, false, false] rfl rfl (by kernel_rfl) (fun _ _ _ h => h) (Or.inl ⟨by rfl, ?_⟩) ?_ ?_
      rotate_left
      · intro w'
        go_simp
        with_reducible rfl
      rotate_left
      · simp only [Act.put, List.setIfInBounds_toArray, List.set_cons_zero, List.set_cons_succ]
        rfl
      refine pure_ (i := 20) (N := some 40) (v := ?_) (a' := ?_) #[true, true, true, true, true, true, false, true, false, false, true, true, true, false, false, false, true, true, true, false, true, false, false, false, false, false, false, false, false, false, false, false] rfl rfl (by kernel_rfl) (fun _ _ _ h => h) (Or.inl ⟨by rfl, ?_⟩) ?_ ?_
      rotate_left
      · intro w'
        go_simp
        with_reducible rfl
      rotate_left
      · simp only [Act.put, List.setIfInBounds_toArray, List.set_cons_zero, List.set_cons_succ]
        rfl
      refine take_ (i := 6) (N := some 26) (v := ?_) (a' := ?_) #[true, true, true, true, true, true, true, true, false, false, true, true, true, false, false, false, true, true, true, false, true, false, false, false, false, false, false, false, false, false, false, false] rfl rfl (by kernel_rfl) (fun _ _ _ h => h) (Or.inl ⟨by rfl, ?_⟩) hHeld ?_ ?_
      rotate_left
      · rintro w' ⟨s0, s1, s2⟩
        go_simp
        with_reducible rfl
      rotate_left
      · simp only [Act.put, List.setIfInBounds_toArray, List.set_cons_zero, List.set_cons_succ]
        rfl
      refine take_ (i := 13) (N := some 33) (v := ?_) (a' := ?_) #[true, true, true, true, true, true, true, true, false, false, true, true, true, true, false, false, true, true, true, false, true, false, false, false, false, false, false, false, false, false, false, false] rfl rfl (by kernel_rfl) (fun _ _ _ h => h) (Or.inl ⟨by rfl, ?_⟩) hHeld ?_ ?_
      rotate_left
      · rintro w' ⟨s0, s1, s2⟩
        go_simp
        with_reducible rfl
      rotate_left
      · simp only [Act.put, List.setIfInBounds_toArray, List.set_cons_zero, List.set_cons_succ]
        rfl
      refine take_ (i := 19) (N := some 39) (v := ?_) (a' := ?_) #[true, true, true, true, true, true, true, true, false, false, true, true, true, true, false, false, true, true, true, true, true, false, false, false, false, false, false, false, false, false, false, false] rfl rfl (by kernel_rfl) (fun _ _ _ h => h) (Or.inl ⟨by rfl, ?_⟩) hHeld ?_ ?_
      rotate_left
      · rintro w' ⟨s0, s1, s2⟩
        go_simp
        with_reducible rfl
      rotate_left
      · simp only [Act.put, List.setIfInBounds_toArray, List.set_cons_zero, List.set_cons_succ]
        rfl
      refine join_ (σ := Nat × Nat × Nat × Nat × Nat × Nat × Nat × Nat × Nat) 10 #[true, true, true, true, true, true, true, true, true, true, true, true, true, true, true, true, true, true, true, true, true, true, false, false, false, false, false, false, false, false, false, false] (fun s => [(28, .slice (some ⟨s.1, 0, none⟩) 1 1), (29, (.slice (some ⟨s.2.2.2.1, 0, none⟩) (L0.length + 1) s.2.2.2.2.1)), (34, .slice (some ⟨s.2.1, 0, none⟩) 1 1), (35, (.slice (some ⟨s.2.2.2.2.2.1, 0, none⟩) (L1.length + 1) s.2.2.2.2.2.2.1)), (41, .slice (some ⟨s.2.2.1, 0, none⟩) 1 1)]) (fun s w' => Mid w0 w' J J J #[v0, v1, v2, .int .i64 64] (t3 (.slice (some ⟨s.2.2.2.1, 0, none⟩) (L0.length + 1) s.2.2.2.2.1) (.slice (some ⟨s.2.2.2.2.2.1, 0, none⟩) (L1.length + 1) s.2.2.2.2.2.2.1) v2) (t3 (L0 ++ [(k : Int)]) (L1 ++ [1]) L2) (t3 none none (some s.2.2.1)) (t3 (k : Int) 1 (k : Int))) ?_ ?_
      rotate_left
      · intro hJ8_9_14_15_21
        refine join_ (σ := Nat × Nat × Nat × Nat × Nat × Nat × Nat × Nat × Nat) 11 #[true, true, true, true, true, true, true, true, true, true, true, true, true, true, true, true, true, true, true, true, true, false, false, false, false, false, false, false, false, false, false, false] (fun s => [(28, .slice (some ⟨s.1, 0, none⟩) 1 1), (29, (.slice (some ⟨s.2.2.2.1, 0, none⟩) (L0.length + 1) s.2.2.2.2.1)), (34, .slice (some ⟨s.2.1, 0, none⟩) 1 1), (35, (.slice (some ⟨s.2.2.2.2.2.1, 0, none⟩) (L1.length + 1) s.2.2.2.2.2.2.1))]) (fun s w' => Mid w0 w' J J J #[v0, v1, v2, .int .i64 64] (t3 (.slice (some ⟨s.2.2.2.1, 0, none⟩) (L0.length + 1) s.2.2.2.2.1) (.slice (some ⟨s.2.2.2.2.2.1, 0, none⟩) (L1.length + 1) s.2.2.2.2.2.2.1) v2) (t3 (L0 ++ [(k : Int)]) (L1 ++ [1]) L2) (t3 none none none) (t3 (k : Int) 1 (k : Int))) ?_ ?_
        rotate_left
        · intro hJ8_9_14_15
          refine join_ (σ := Nat × Nat × Nat × Nat × Nat × Nat × Nat × Nat × Nat) 11 #[true, true, true, true, true, true, true, true, true, true, true, true, true, true, true, false, true, true, true, true, true, true, false, false, false, false, false, false, false, false, false, false] (fun s => [(28, .slice (some ⟨s.1, 0, none⟩) 1 1), (29, (.slice (some ⟨s.2.2.2.1, 0, none⟩) (L0.length + 1) s.2.2.2.2.1)), (34, .slice (some ⟨s.2.1, 0, none⟩) 1 1), (41, .slice (some ⟨s.2.2.1, 0, none⟩) 1 1)]) (fun s w' => Mid w0 w' J J J #[v0, v1, v2, .int .i64 64] (t3 (.slice (some ⟨s.2.2.2.1, 0, none⟩) (L0.length + 1) s.2.2.2.2.1) v1 v2) (t3 (L0 ++ [(k : Int)]) L1 L2) (t3 none (some s.2.1) (some s.2.2.1)) (t3 (k : Int) 1 (k : Int))) ?_ ?_
          rotate_left
          · intro hJ8_9_14_21
            refine join_ (σ := Nat × Nat × Nat × Nat × Nat × Nat × Nat × Nat × Nat) 12 #[true, true, true, true, true, true, true, true, true, true, true, true, true, true, true, false, true, true, true, true, true, false, false, false, false, false, false, false, false, false, false, false] (fun s => [(28, .slice (some ⟨s.1, 0, none⟩) 1 1), (29, (.slice (some ⟨s.2.2.2.1, 0, none⟩) (L0.length + 1) s.2.2.2.2.1)), (34, .slice (some ⟨s.2.1, 0, none⟩) 1 1)]) (fun s w' => Mid w0 w' J J J #[v0, v1, v2, .int .i64 64] (t3 (.slice (some ⟨s.2.2.2.1, 0, none⟩) (L0.length + 1) s.2.2.2.2.1) v1 v2) (t3 (L0 ++ [(k : Int)]) L1 L2) (t3 none (some s.2.1) none) (t3 (k : Int) 1 (k : Int))) ?_ ?_
            rotate_left
            · intro hJ8_9_14
              refine join_ (σ := Nat × Nat × Nat × Nat × Nat × Nat × Nat × Nat × Nat) 12 #[true, true, true, true, true, true, true, true, true, true, true, true, true, true, false, false, true, true, true, true, true, true, false, false, false, false, false, false, false, false, false, false] (fun s => [(28, .slice (some ⟨s.1, 0, none⟩) 1 1), (29, (.slice (some ⟨s.2.2.2.1, 0, none⟩) (L0.length + 1) s.2.2.2.2.1)), (41, .slice (some ⟨s.2.2.1, 0, none⟩) 1 1)]) (fun s w' => Mid w0 w' J J J #[v0, v1, v2, .int .i64 64] (t3 (.slice (some ⟨s.2.2.2.1, 0, none⟩) (L0.length + 1) s.2.2.2.2.1) v1 v2) (t3 (L0 ++ [(k : Int)]) L1 L2) (t3 none none (some s.2.2.1)) (t3 (k : Int) 1 (k : Int))) ?_ ?_
              rotate_left
              · intro hJ8_9_21
                refine join_ (σ := Nat × Nat × Nat × Nat × Nat × Nat × Nat × Nat × Nat) 12 #[true, true, true, true, true, true, true, true, true, false, true, true, true, true, true, false, true, true, true, true, true, true, false, false, false, false, false, false, false, false, false, false] (fun s => [(28, .slice (some ⟨s.1, 0, none⟩) 1 1), (34, .slice (some ⟨s.2.1, 0, none⟩) 1 1), (41, .slice (some ⟨s.2.2.1, 0, none⟩) 1 1)]) (fun s w' => Mid w0 w' J J J #[v0, v1, v2, .int .i64 64] (t3 v0 v1 v2) (t3 L0 L1 L2) (t3 (some s.1) (some s.2.1) (some s.2.2.1)) (t3 (k : Int) 1 (k : Int))) ?_ ?_
                rotate_left
                · intro hJ8_14_21
                  refine join_ (σ := Nat × Nat × Nat × Nat × Nat × Nat × Nat × Nat × Nat) 13 #[true, true, true, true, true, true, true, true, true, true, true, true, true, true, false, false, true, true, true, true, true, false, false, false, false, false, false, false, false, false, false, false] (fun s => [(28, .slice (some ⟨s.1, 0, none⟩) 1 1), (29, (.slice (some ⟨s.2.2.2.1, 0, none⟩) (L0.length + 1) s.2.2.2.2.1))]) (fun s w' => Mid w0 w' J J J #[v0, v1, v2, .int .i64 64] (t3 (.slice (some ⟨s.2.2.2.1, 0, none⟩) (L0.length + 1) s.2.2.2.2.1) v1 v2) (t3 (L0 ++ [(k : Int)]) L1 L2) (t3 none none none) (t3 (k : Int) 1 (k : Int))) ?_ ?_
                  rotate_left
                  · intro hJ8_9
                    refine join_ (σ := Nat × Nat × Nat × Nat × Nat × Nat × Nat × Nat × Nat) 13 #[true, true, true, true, true, true, true, true, true, false, true, true, true, true, true, false, true, true, true, true, true, false, false, false, false, false, false, false, false, false, false, false] (fun s => [(28, .slice (some ⟨s.1, 0, none⟩) 1 1), (34, .slice (some ⟨s.2.1, 0, none⟩) 1 1)]) (fun s w' => Mid w0 w' J J J #[v0, v1, v2, .int .i64 64] (t3 v0 v1 v2) (t3 L0 L1 L2) (t3 (some s.1) (some s.2.1) none) (t3 (k : Int) 1 (k : Int))) ?_ ?_
                    rotate_left
                    · intro hJ8_14
                      refine join_ (σ := Nat × Nat × Nat × Nat × Nat × Nat × Nat × Nat × Nat) 13 #[true, true, true, true, true, true, true, true, true, false, true, true, true, true, false, false, true, true, true, true, true, true, false, false, false, false, false, false, false, false, false, false] (fun s => [(28, .slice (some ⟨s.1, 0, none⟩) 1 1), (41, .slice (some ⟨s.2.2.1, 0, none⟩) 1 1)]) (fun s w' => Mid w0 w' J J J #[v0, v1, v2, .int .i64 64] (t3 v0 v1 v2) (t3 L0 L1 L2) (t3 (some s.1) none (some s.2.2.1)) (t3 (k : Int) 1 (k : Int))) ?_ ?_
                      rotate_left
                      · intro hJ8_21
                        refine join_ (σ := Nat × Nat × Nat × Nat × Nat × Nat × Nat × Nat × Nat) 13 #[true, true, true, true, true, true, true, true, false, false, true, true, true, true, true, false, true, true, true, true, true, true, false, false, false, false, false, false, false, false, false, false] (fun s => [(34, .slice (some ⟨s.2.1, 0, none⟩) 1 1), (41, .slice (some ⟨s.2.2.1, 0, none⟩) 1 1)]) (fun s w' => Mid w0 w' J J J #[v0, v1, v2, .int .i64 64] (t3 v0 v1 v2) (t3 L0 L1 L2) (t3 none (some s.2.1) (some s.2.2.1)) (t3 (k : Int) 1 (k : Int))) ?_ ?_
                        rotate_left
                        · intro hJ14_21
                          refine join_ (σ := Nat × Nat × Nat × Nat × Nat × Nat × Nat × Nat × Nat) 14 #[true, true, true, true, true, true, true, true, true, false, true, true, true, true, false, false, true, true, true, true, true, false, false, false, false, false, false, false, false, false, false, false] (fun s => [(28, .slice (some ⟨s.1, 0, none⟩) 1 1)]) (fun s w' => Mid w0 w' J J J #[v0, v1, v2, .int .i64 64] (t3 v0 v1 v2) (t3 L0 L1 L2) (t3 (some s.1) none none) (t3 (k : Int) 1 (k : Int))) ?_ ?_
                          rotate_left
                          · intro hJ8
                            refine join_ (σ := Nat × Nat × Nat × Nat × Nat × Nat × Nat × Nat × Nat) 14 #[true, true, true, true, true, true, true, true, false, false, true, true, true, true, true, false, true, true, true, true, true, false, false, false, false, false, false, false, false, false, false, false] (fun s => [(34, .slice (some ⟨s.2.1, 0, none⟩) 1 1)]) (fun s w' => Mid w0 w' J J J #[v0, v1, v2, .int .i64 64] (t3 v0 v1 v2) (t3 L0 L1 L2) (t3 none (some s.2.1) none) (t3 (k : Int) 1 (k : Int))) ?_ ?_
                            rotate_left
                            · intro hJ14
                              refine join_ (σ := Nat × Nat × Nat × Nat × Nat × Nat × Nat × Nat × Nat) 14 #[true, true, true, true, true, true, true, true, false, false, true, true, true, true, false, false, true, true, true, true, true, true, false, false, false, false, false, false, false, false, false, false] (fun s => [(41, .slice (some ⟨s.2.2.1, 0, none⟩) 1 1)]) (fun s w' => Mid w0 w' J J J #[v0, v1, v2, .int .i64 64] (t3 v0 v1 v2) (t3 L0 L1 L2) (t3 none none (some s.2.2.1)) (t3 (k : Int) 1 (k : Int))) ?_ ?_
                              rotate_left
                              · intro hJ21
                                refine three_ (i := 8) (j := 14) (k := 21) (Ni := some 28) (Nj := some 34) (Nk := some 41) #[true, true, true, true, true, true, true, true, true, false, true, true, true, true, false, false, true, true, true, true, true, false, false, false, false, false, false, false, false, false, false, false] #[true, true, true, true, true, true, true, true, false, false, true, true, true, true, true, false, true, true, true, true, true, false, false, false, false, false, false, false, false, false, false, false] #[true, true, true, true, true, true, true, true, false, false, true, true, true, true, false, false, true, true, true, true, true, true, false, false, false, false, false, false, false, false, false, false] rfl rfl rfl rfl rfl rfl (by kernel_rfl) (by decide) (by decide) (by decide) (fun K hK => ?_) (fun K hK => ?_) (fun K hK => ?_)
                                · skip
                                  refine value_ (w1 := ?_) (v := ?_) (by rfl) rfl ?_ ?_
                                  rotate_left 2
                                  · go_simp
                                    constructor
                                    · rfl
                                    · rfl
                                  have hM2 := hM1.build 0
                                  rw [up3_0] at hM2
                                  refine hK.out _ _ ⟨hM2.cell 0, hM2.cell 1, hM2.cell 2⟩ (fun hHeld => ?_)
                                  clear hK K
                                  refine norm_ (a' := ?_) ?_ ?_
                                  rotate_left
                                  · show Act.put _ (some 28) _ = _
                                    simp only [Act.put, List.setIfInBounds_toArray, List.set_cons_zero, List.set_cons_succ]
                                    rfl
                                  exact norm_ (by first | (simp only [putAll, Act.put, List.setIfInBounds_toArray, List.set_cons_zero, List.set_cons_succ]; done) | (simp only [putAll, Act.put, List.setIfInBounds_toArray, List.set_cons_zero, List.set_cons_succ]; rfl)) (hJ8 ⟨_, 0, 0, 0, 0, 0, 0, 0, 0⟩ _ hM2)
                                · skip
                                  refine value_ (w1 := ?_) (v := ?_) (by rfl) rfl ?_ ?_
                                  rotate_left 2
                                  · go_simp
                                    constructor
                                    · rfl
                                    · rfl
                                  have hM2 := hM1.build 1
                                  rw [up3_1] at hM2
                                  refine hK.out _ _ ⟨hM2.cell 0, hM2.cell 1, hM2.cell 2⟩ (fun hHeld => ?_)
                                  clear hK K
                                  refine norm_ (a' := ?_) ?_ ?_
                                  rotate_left
                                  · show Act.put _ (some 34) _ = _
                                    simp only [Act.put, List.setIfInBounds_toArray, List.set_cons_zero, List.set_cons_succ]
                                    rfl
                                  exact norm_ (by first | (simp only [putAll, Act.put, List.setIfInBounds_toArray, List.set_cons_zero, List.set_cons_succ]; done) | (simp only [putAll, Act.put, List.setIfInBounds_toArray, List.set_cons_zero, List.set_cons_succ]; rfl)) (hJ14 ⟨0, _, 0, 0, 0, 0, 0, 0, 0⟩ _ hM2)
                                · skip
                                  refine value_ (w1 := ?_) (v := ?_) (by rfl) rfl ?_ ?_
                                  rotate_left 2
                                  · go_simp
                                    constructor
                                    · rfl
                                    · rfl
                                  have hM2 := hM1.build 2
                                  rw [up3_2] at hM2
                                  refine hK.out _ _ ⟨hM2.cell 0, hM2.cell 1, hM2.cell 2⟩ (fun hHeld => ?_)
                                  clear hK K
                                  refine norm_ (a' := ?_) ?_ ?_
                                  rotate_left
                                  · show Act.put _ (some 41) _ = _
                                    simp only [Act.put, List.setIfInBounds_toArray, List.set_cons_zero, List.set_cons_succ]
                                    rfl
                                  exact norm_ (by first | (simp only [putAll, Act.put, List.setIfInBounds_toArray, List.set_cons_zero, List.set_cons_succ]; done) | (simp only [putAll, Act.put, List.setIfInBounds_toArray, List.set_cons_zero, List.set_cons_succ]; rfl)) (hJ21 ⟨0, 0, _, 0, 0, 0, 0, 0, 0⟩ _ hM2)
                              · skip
                                rintro ⟨b0, b1, b2, g0, k0, g1, k1, g2, k2⟩ w1 hM1
                                dsimp only at hM1 ⊢
                                have hHeld : w1.cell? ⟨J, 0, none⟩ = some v0 ∧ w1.cell? ⟨J, 1, none⟩ = some v1 ∧ w1.cell? ⟨J, 2, none⟩ = some v2 := ⟨hM1.cell 0, hM1.cell 1, hM1.cell 2⟩
                                refine norm_ (a' := ?_) ?_ ?_
                                rotate_left
                                · simp only [putAll, Act.put, List.setIfInBounds_toArray, List.set_cons_zero, List.set_cons_succ]
                                  rfl
                                refine two_ (i := 8) (j := 14) (Ni := some 28) (Nj := some 34) #[true, true, true, true, true, true, true, true, true, false, true, true, true, true, false, false, true, true, true, true, true, true, false, false, false, false, false, false, false, false, false, false] #[true, true, true, true, true, true, true, true, false, false, true, true, true, true, true, false, true, true, true, true, true, true, false, false, false, false, false, false, false, false, false, false] rfl rfl rfl rfl (by kernel_rfl) (by decide) (by decide) (fun K hK => ?_) (fun K hK => ?_)
                                · skip
                                  refine value_ (w1 := ?_) (v := ?_) (by rfl) rfl ?_ ?_
                                  rotate_left 2
                                  · go_simp
                                    constructor
                                    · rfl
                                    · rfl
                                  have hM2 := hM1.build 0
                                  rw [up3_0] at hM2
                                  refine hK.out _ _ ⟨hM2.cell 0, hM2.cell 1, hM2.cell 2⟩ (fun hHeld => ?_)
                                  clear hK K
                                  refine norm_ (a' := ?_) ?_ ?_
                                  rotate_left
                                  · show Act.put _ (some 28) _ = _
                                    simp only [Act.put, List.setIfInBounds_toArray, List.set_cons_zero, List.set_cons_succ]
                                    rfl
                                  exact norm_ (by first | (simp only [putAll, Act.put, List.setIfInBounds_toArray, List.set_cons_zero, List.set_cons_succ]; done) | (simp only [putAll, Act.put, List.setIfInBounds_toArray, List.set_cons_zero, List.set_cons_succ]; rfl)) (hJ8_21 ⟨_, 0, b2, 0, 0, 0, 0, 0, 0⟩ _ hM2)
                                · skip
                                  refine value_ (w1 := ?_) (v := ?_) (by rfl) rfl ?_ ?_
                                  rotate_left 2
                                  · go_simp
                                    constructor
                                    · rfl
                                    · rfl
                                  have hM2 := hM1.build 1
                                  rw [up3_1] at hM2
                                  refine hK.out _ _ ⟨hM2.cell 0, hM2.cell 1, hM2.cell 2⟩ (fun hHeld => ?_)
                                  clear hK K
                                  refine norm_ (a' := ?_) ?_ ?_
                                  rotate_left
                                  · show Act.put _ (some 34) _ = _
                                    simp only [Act.put, List.setIfInBounds_toArray, List.set_cons_zero, List.set_cons_succ]
                                    rfl
                                  exact norm_ (by first | (simp only [putAll, Act.put, List.setIfInBounds_toArray, List.set_cons_zero, List.set_cons_succ]; done) | (simp only [putAll, Act.put, List.setIfInBounds_toArray, List.set_cons_zero, List.set_cons_succ]; rfl)) (hJ14_21 ⟨0, _, b2, 0, 0, 0, 0, 0, 0⟩ _ hM2)
                            · skip
                              rintro ⟨b0, b1, b2, g0, k0, g1, k1, g2, k2⟩ w1 hM1
                              dsimp only at hM1 ⊢
                              have hHeld : w1.cell? ⟨J, 0, none⟩ = some v0 ∧ w1.cell? ⟨J, 1, none⟩ = some v1 ∧ w1.cell? ⟨J, 2, none⟩ = some v2 := ⟨hM1.cell 0, hM1.cell 1, hM1.cell 2⟩
                              refine norm_ (a' := ?_) ?_ ?_
                              rotate_left
                              · simp only [putAll, Act.put, List.setIfInBounds_toArray, List.set_cons_zero, List.set_cons_succ]
                                rfl
                              refine two_ (i := 8) (j := 21) (Ni := some 28) (Nj := some 41) #[true, true, true, true, true, true, true, true, true, false, true, true, true, true, true, false, true, true, true, true, true, false, false, false, false, false, false, false, false, false, false, false] #[true, true, true, true, true, true, true, true, false, false, true, true, true, true, true, false, true, true, true, true, true, true, false, false, false, false, false, false, false, false, false, false] rfl rfl rfl rfl (by kernel_rfl) (by decide) (by decide) (fun K hK => ?_) (fun K hK => ?_)
                              · skip
                                refine value_ (w1 := ?_) (v := ?_) (by rfl) rfl ?_ ?_
                                rotate_left 2
                                · go_simp
                                  constructor
                                  · rfl
                                  · rfl
                                have hM2 := hM1.build 0
                                rw [up3_0] at hM2
                                refine hK.out _ _ ⟨hM2.cell 0, hM2.cell 1, hM2.cell 2⟩ (fun hHeld => ?_)
                                clear hK K
                                refine norm_ (a' := ?_) ?_ ?_
                                rotate_left
                                · show Act.put _ (some 28) _ = _
                                  simp only [Act.put, List.setIfInBounds_toArray, List.set_cons_zero, List.set_cons_succ]
                                  rfl
                                exact norm_ (by first | (simp only [putAll, Act.put, List.setIfInBounds_toArray, List.set_cons_zero, List.set_cons_succ]; done) | (simp only [putAll, Act.put, List.setIfInBounds_toArray, List.set_cons_zero, List.set_cons_succ]; rfl)) (hJ8_14 ⟨_, b1, 0, 0, 0, 0, 0, 0, 0⟩ _ hM2)
                              · skip
                                refine value_ (w1 := ?_) (v := ?_) (by rfl) rfl ?_ ?_
                                rotate_left 2
                                · go_simp
                                  constructor
                                  · rfl
                                  · rfl
                                have hM2 := hM1.build 2
                                rw [up3_2] at hM2
                                refine hK.out _ _ ⟨hM2.cell 0, hM2.cell 1, hM2.cell 2⟩ (fun hHeld => ?_)
                                clear hK K
                                refine norm_ (a' := ?_) ?_ ?_
                                rotate_left
                                · show Act.put _ (some 41) _ = _
                                  simp only [Act.put, List.setIfInBounds_toArray, List.set_cons_zero, List.set_cons_succ]
                                  rfl
                                exact norm_ (by first | (simp only [putAll, Act.put, List.setIfInBounds_toArray, List.set_cons_zero, List.set_cons_succ]; done) | (simp only [putAll, Act.put, List.setIfInBounds_toArray, List.set_cons_zero, List.set_cons_succ]; rfl)) (hJ14_21 ⟨0, b1, _, 0, 0, 0, 0, 0, 0⟩ _ hM2)
                          · skip
                            rintro ⟨b0, b1, b2, g0, k0, g1, k1, g2, k2⟩ w1 hM1
                            dsimp only at hM1 ⊢
                            have hHeld : w1.cell? ⟨J, 0, none⟩ = some v0 ∧ w1.cell? ⟨J, 1, none⟩ = some v1 ∧ w1.cell? ⟨J, 2, none⟩ = some v2 := ⟨hM1.cell 0, hM1.cell 1, hM1.cell 2⟩
                            refine norm_ (a' := ?_) ?_ ?_
                            rotate_left
                            · simp only [putAll, Act.put, List.setIfInBounds_toArray, List.set_cons_zero, List.set_cons_succ]
                              rfl
                            refine three_ (i := 9) (j := 14) (k := 21) (Ni := some 29) (Nj := some 34) (Nk := some 41) #[true, true, true, true, true, true, true, true, true, true, true, true, true, true, false, false, true, true, true, true, true, false, false, false, false, false, false, false, false, false, false, false] #[true, true, true, true, true, true, true, true, true, false, true, true, true, true, true, false, true, true, true, true, true, false, false, false, false, false, false, false, false, false, false, false] #[true, true, true, true, true, true, true, true, true, false, true, true, true, true, false, false, true, true, true, true, true, true, false, false, false, false, false, false, false, false, false, false] rfl rfl rfl rfl rfl rfl (by kernel_rfl) (by decide) (by decide) (by decide) (fun K hK => ?_) (fun K hK => ?_) (fun K hK => ?_)
                            · skip
                              refine step_append1 encI_len encI_one (by rfl) _ _ 39 3 (.int .i64 0) 8 (by rfl) Try.underlying39 infoI rfl (by decide) (v := v0) (l := L0) (y := (k : Int)) (hM1.own 0) (hM1.pend 0 b0 rfl).1 rfl (by rfl) (by rfl) (by have := hM1.jlt; have := hM1.jb; omega) (by omega) (by omega) ?_
                              intro g cap w2 ho hg hat _
                              have hM2 := hM1.grow 0 ho hg hat
                              rw [up3_0, up3_0, up3_0] at hM2
                              refine hK.out _ _ ⟨hM2.cell 0, hM2.cell 1, hM2.cell 2⟩ (fun hHeld => ?_)
                              clear hK K
                              refine norm_ (a' := ?_) ?_ ?_
                              rotate_left
                              · show Act.put _ (some 29) _ = _
                                simp only [Act.put, List.setIfInBounds_toArray, List.set_cons_zero, List.set_cons_succ]
                                rfl
                              exact norm_ (by first | (simp only [putAll, Act.put, List.setIfInBounds_toArray, List.set_cons_zero, List.set_cons_succ]; done) | (simp only [putAll, Act.put, List.setIfInBounds_toArray, List.set_cons_zero, List.set_cons_succ]; rfl)) (hJ8_9 ⟨b0, 0, 0, _, _, 0, 0, 0, 0⟩ _ hM2)
                            · skip
                              refine value_ (w1 := ?_) (v := ?_) (by rfl) rfl ?_ ?_
                              rotate_left 2
                              · go_simp
                                constructor
                                · rfl
                                · rfl
                              have hM2 := hM1.build 1
                              rw [up3_1] at hM2
                              refine hK.out _ _ ⟨hM2.cell 0, hM2.cell 1, hM2.cell 2⟩ (fun hHeld => ?_)
                              clear hK K
                              refine norm_ (a' := ?_) ?_ ?_
                              rotate_left
                              · show Act.put _ (some 34) _ = _
                                simp only [Act.put, List.setIfInBounds_toArray, List.set_cons_zero, List.set_cons_succ]
                                rfl
                              exact norm_ (by first | (simp only [putAll, Act.put, List.setIfInBounds_toArray, List.set_cons_zero, List.set_cons_succ]; done) | (simp only [putAll, Act.put, List.setIfInBounds_toArray, List.set_cons_zero, List.set_cons_succ]; rfl)) (hJ8_14 ⟨b0, _, 0, 0, 0, 0, 0, 0, 0⟩ _ hM2)
                            · skip
                              refine value_ (w1 := ?_) (v := ?_) (by rfl) rfl ?_ ?_
                              rotate_left 2
                              · go_simp
                                constructor
                                · rfl
                                · rfl
                              have hM2 := hM1.build 2
                              rw [up3_2] at hM2
                              refine hK.out _ _ ⟨hM2.cell 0, hM2.cell 1, hM2.cell 2⟩ (fun hHeld => ?_)
                              clear hK K
                              refine norm_ (a' := ?_) ?_ ?_
                              rotate_left
                              · show Act.put _ (some 41) _ = _
                                simp only [Act.put, List.setIfInBounds_toArray, List.set_cons_zero, List.set_cons_succ]
                                rfl
                              exact norm_ (by first | (simp only [putAll, Act.put, List.setIfInBounds_toArray, List.set_cons_zero, List.set_cons_succ]; done) | (simp only [putAll, Act.put, List.setIfInBounds_toArray, List.set_cons_zero, List.set_cons_succ]; rfl)) (hJ8_21 ⟨b0, 0, _, 0, 0, 0, 0, 0, 0⟩ _ hM2)
                        · skip
                          rintro ⟨b0, b1, b2, g0, k0, g1, k1, g2, k2⟩ w1 hM1
                          dsimp only at hM1 ⊢
                          have hHeld : w1.cell? ⟨J, 0, none⟩ = some v0 ∧ w1.cell? ⟨J, 1, none⟩ = some v1 ∧ w1.cell? ⟨J, 2, none⟩ = some v2 := ⟨hM1.cell 0, hM1.cell 1, hM1.cell 2⟩
                          refine norm_ (a' := ?_) ?_ ?_
                          rotate_left
                          · simp only [putAll, Act.put, List.setIfInBounds_toArray, List.set_cons_zero, List.set_cons_succ]
                            rfl
                          refine one_ (i := 8) (N := some 28) #[true, true, true, true, true, true, true, true, true, false, true, true, true, true, true, false, true, true, true, true, true, true, false, false, false, false, false, false, false, false, false, false] rfl rfl (by kernel_rfl) (by decide) (fun K hK => ?_)
                          refine value_ (w1 := ?_) (v := ?_) (by rfl) rfl ?_ ?_
                          rotate_left 2
                          · go_simp
                            constructor
                            · rfl
                            · rfl
                          have hM2 := hM1.build 0
                          rw [up3_0] at hM2
                          refine hK.out _ _ ⟨hM2.cell 0, hM2.cell 1, hM2.cell 2⟩ (fun hHeld => ?_)
                          clear hK K
                          refine norm_ (a' := ?_) ?_ ?_
                          rotate_left
                          · show Act.put _ (some 28) _ = _
                            simp only [Act.put, List.setIfInBounds_toArray, List.set_cons_zero, List.set_cons_succ]
                            rfl
                          exact norm_ (by first | (simp only [putAll, Act.put, List.setIfInBounds_toArray, List.set_cons_zero, List.set_cons_succ]; done) | (simp only [putAll, Act.put, List.setIfInBounds_toArray, List.set_cons_zero, List.set_cons_succ]; rfl)) (hJ8_14_21 ⟨_, b1, b2, 0, 0, 0, 0, 0, 0⟩ _ hM2)
                      · skip
                        rintro ⟨b0, b1, b2, g0, k0, g1, k1, g2, k2⟩ w1 hM1
                        dsimp only at hM1 ⊢
                        have hHeld : w1.cell? ⟨J, 0, none⟩ = some v0 ∧ w1.cell? ⟨J, 1, none⟩ = some v1 ∧ w1.cell? ⟨J, 2, none⟩ = some v2 := ⟨hM1.cell 0, hM1.cell 1, hM1.cell 2⟩
                        refine norm_ (a' := ?_) ?_ ?_
                        rotate_left
                        · simp only [putAll, Act.put, List.setIfInBounds_toArray, List.set_cons_zero, List.set_cons_succ]
                          rfl
                        refine two_ (i := 9) (j := 14) (Ni := some 29) (Nj := some 34) #[true, true, true, true, true, true, true, true, true, true, true, true, true, true, false, false, true, true, true, true, true, true, false, false, false, false, false, false, false, false, false, false] #[true, true, true, true, true, true, true, true, true, false, true, true, true, true, true, false, true, true, true, true, true, true, false, false, false, false, false, false, false, false, false, false] rfl rfl rfl rfl (by kernel_rfl) (by decide) (by decide) (fun K hK => ?_) (fun K hK => ?_)
                        · skip
                          refine step_append1 encI_len encI_one (by rfl) _ _ 39 3 (.int .i64 0) 8 (by rfl) Try.underlying39 infoI rfl (by decide) (v := v0) (l := L0) (y := (k : Int)) (hM1.own 0) (hM1.pend 0 b0 rfl).1 rfl (by rfl) (by rfl) (by have := hM1.jlt; have := hM1.jb; omega) (by omega) (by omega) ?_
                          intro g cap w2 ho hg hat _
                          have hM2 := hM1.grow 0 ho hg hat
                          rw [up3_0, up3_0, up3_0] at hM2
                          refine hK.out _ _ ⟨hM2.cell 0, hM2.cell 1, hM2.cell 2⟩ (fun hHeld => ?_)
                          clear hK K
                          refine norm_ (a' := ?_) ?_ ?_
                          rotate_left
                          · show Act.put _ (some 29) _ = _
                            simp only [Act.put, List.setIfInBounds_toArray, List.set_cons_zero, List.set_cons_succ]
                            rfl
                          exact norm_ (by first | (simp only [putAll, Act.put, List.setIfInBounds_toArray, List.set_cons_zero, List.set_cons_succ]; done) | (simp only [putAll, Act.put, List.setIfInBounds_toArray, List.set_cons_zero, List.set_cons_succ]; rfl)) (hJ8_9_21 ⟨b0, 0, b2, _, _, 0, 0, 0, 0⟩ _ hM2)
                        · skip
                          refine value_ (w1 := ?_) (v := ?_) (by rfl) rfl ?_ ?_
                          rotate_left 2
                          · go_simp
                            constructor
                            · rfl
                            · rfl
                          have hM2 := hM1.build 1
                          rw [up3_1] at hM2
                          refine hK.out _ _ ⟨hM2.cell 0, hM2.cell 1, hM2.cell 2⟩ (fun hHeld => ?_)
                          clear hK K
                          refine norm_ (a' := ?_) ?_ ?_
                          rotate_left
                          · show Act.put _ (some 34) _ = _
                            simp only [Act.put, List.setIfInBounds_toArray, List.set_cons_zero, List.set_cons_succ]
                            rfl
                          exact norm_ (by first | (simp only [putAll, Act.put, List.setIfInBounds_toArray, List.set_cons_zero, List.set_cons_succ]; done) | (simp only [putAll, Act.put, List.setIfInBounds_toArray, List.set_cons_zero, List.set_cons_succ]; rfl)) (hJ8_14_21 ⟨b0, _, b2, 0, 0, 0, 0, 0, 0⟩ _ hM2)
                    · skip
                      rintro ⟨b0, b1, b2, g0, k0, g1, k1, g2, k2⟩ w1 hM1
                      dsimp only at hM1 ⊢
                      have hHeld : w1.cell? ⟨J, 0, none⟩ = some v0 ∧ w1.cell? ⟨J, 1, none⟩ = some v1 ∧ w1.cell? ⟨J, 2, none⟩ = some v2 := ⟨hM1.cell 0, hM1.cell 1, hM1.cell 2⟩
                      refine norm_ (a' := ?_) ?_ ?_
                      rotate_left
                      · simp only [putAll, Act.put, List.setIfInBounds_toArray, List.set_cons_zero, List.set_cons_succ]
                        rfl
                      refine two_ (i := 9) (j := 21) (Ni := some 29) (Nj := some 41) #[true, true, true, true, true, true, true, true, true, true, true, true, true, true, true, false, true, true, true, true, true, false, false, false, false, false, false, false, false, false, false, false] #[true, true, true, true, true, true, true, true, true, false, true, true, true, true, true, false, true, true, true, true, true, true, false, false, false, false, false, false, false, false, false, false] rfl rfl rfl rfl (by kernel_rfl) (by decide) (by decide) (fun K hK => ?_) (fun K hK => ?_)
                      · skip
                        refine step_append1 encI_len encI_one (by rfl) _ _ 39 3 (.int .i64 0) 8 (by rfl) Try.underlying39 infoI rfl (by decide) (v := v0) (l := L0) (y := (k : Int)) (hM1.own 0) (hM1.pend 0 b0 rfl).1 rfl (by rfl) (by rfl) (by have := hM1.jlt; have := hM1.jb; omega) (by omega) (by omega) ?_
                        intro g cap w2 ho hg hat _
                        have hM2 := hM1.grow 0 ho hg hat
                        rw [up3_0, up3_0, up3_0] at hM2
                        refine hK.out _ _ ⟨hM2.cell 0, hM2.cell 1, hM2.cell 2⟩ (fun hHeld => ?_)
                        clear hK K
                        refine norm_ (a' := ?_) ?_ ?_
                        rotate_left
                        · show Act.put _ (some 29) _ = _
                          simp only [Act.put, List.setIfInBounds_toArray, List.set_cons_zero, List.set_cons_succ]
                          rfl
                        exact norm_ (by first | (simp only [putAll, Act.put, List.setIfInBounds_toArray, List.set_cons_zero, List.set_cons_succ]; done) | (simp only [putAll, Act.put, List.setIfInBounds_toArray, List.set_cons_zero, List.set_cons_succ]; rfl)) (hJ8_9_14 ⟨b0, b1, 0, _, _, 0, 0, 0, 0⟩ _ hM2)
                      · skip
                        refine value_ (w1 := ?_) (v := ?_) (by rfl) rfl ?_ ?_
                        rotate_left 2
                        · go_simp
                          constructor
                          · rfl
                          · rfl
                        have hM2 := hM1.build 2
                        rw [up3_2] at hM2
                        refine hK.out _ _ ⟨hM2.cell 0, hM2.cell 1, hM2.cell 2⟩ (fun hHeld => ?_)
                        clear hK K
                        refine norm_ (a' := ?_) ?_ ?_
                        rotate_left
                        · show Act.put _ (some 41) _ = _
                          simp only [Act.put, List.setIfInBounds_toArray, List.set_cons_zero, List.set_cons_succ]
                          rfl
                        exact norm_ (by first | (simp only [putAll, Act.put, List.setIfInBounds_toArray, List.set_cons_zero, List.set_cons_succ]; done) | (simp only [putAll, Act.put, List.setIfInBounds_toArray, List.set_cons_zero, List.set_cons_succ]; rfl)) (hJ8_14_21 ⟨b0, b1, _, 0, 0, 0, 0, 0, 0⟩ _ hM2)
                  · skip
                    rintro ⟨b0, b1, b2, g0, k0, g1, k1, g2, k2⟩ w1 hM1
                    dsimp only at hM1 ⊢
                    have hHeld : w1.cell? ⟨J, 0, none⟩ = some v0 ∧ w1.cell? ⟨J, 1, none⟩ = some v1 ∧ w1.cell? ⟨J, 2, none⟩ = some v2 := ⟨hM1.cell 0, hM1.cell 1, hM1.cell 2⟩
                    refine norm_ (a' := ?_) ?_ ?_
                    rotate_left
                    · simp only [putAll, Act.put, List.setIfInBounds_toArray, List.set_cons_zero, List.set_cons_succ]
                      rfl
                    refine two_ (i := 14) (j := 21) (Ni := some 34) (Nj := some 41) #[true, true, true, true, true, true, true, true, true, true, true, true, true, true, true, false, true, true, true, true, true, false, false, false, false, false, false, false, false, false, false, false] #[true, true, true, true, true, true, true, true, true, true, true, true, true, true, false, false, true, true, true, true, true, true, false, false, false, false, false, false, false, false, false, false] rfl rfl rfl rfl (by kernel_rfl) (by decide) (by decide) (fun K hK => ?_) (fun K hK => ?_)
                    · skip
                      refine value_ (w1 := ?_) (v := ?_) (by rfl) rfl ?_ ?_
                      rotate_left 2
                      · go_simp
                        constructor
                        · rfl
                        · rfl
                      have hM2 := hM1.build 1
                      rw [up3_1] at hM2
                      refine hK.out _ _ ⟨hM2.cell 0, hM2.cell 1, hM2.cell 2⟩ (fun hHeld => ?_)
                      clear hK K
                      refine norm_ (a' := ?_) ?_ ?_
                      rotate_left
                      · show Act.put _ (some 34) _ = _
                        simp only [Act.put, List.setIfInBounds_toArray, List.set_cons_zero, List.set_cons_succ]
                        rfl
                      exact norm_ (by first | (simp only [putAll, Act.put, List.setIfInBounds_toArray, List.set_cons_zero, List.set_cons_succ]; done) | (simp only [putAll, Act.put, List.setIfInBounds_toArray, List.set_cons_zero, List.set_cons_succ]; rfl)) (hJ8_9_14 ⟨b0, _, 0, g0, k0, 0, 0, 0, 0⟩ _ hM2)
                    · skip
                      refine value_ (w1 := ?_) (v := ?_) (by rfl) rfl ?_ ?_
                      rotate_left 2
                      · go_simp
                        constructor
                        · rfl
                        · rfl
                      have hM2 := hM1.build 2
                      rw [up3_2] at hM2
                      refine hK.out _ _ ⟨hM2.cell 0, hM2.cell 1, hM2.cell 2⟩ (fun hHeld => ?_)
                      clear hK K
                      refine norm_ (a' := ?_) ?_ ?_
                      rotate_left
                      · show Act.put _ (some 41) _ = _
                        simp only [Act.put, List.setIfInBounds_toArray, List.set_cons_zero, List.set_cons_succ]
                        rfl
                      exact norm_ (by first | (simp only [putAll, Act.put, List.setIfInBounds_toArray, List.set_cons_zero, List.set_cons_succ]; done) | (simp only [putAll, Act.put, List.setIfInBounds_toArray, List.set_cons_zero, List.set_cons_succ]; rfl)) (hJ8_9_21 ⟨b0, 0, _, g0, k0, 0, 0, 0, 0⟩ _ hM2)
                · skip
                  rintro ⟨b0, b1, b2, g0, k0, g1, k1, g2, k2⟩ w1 hM1
                  dsimp only at hM1 ⊢
                  have hHeld : w1.cell? ⟨J, 0, none⟩ = some v0 ∧ w1.cell? ⟨J, 1, none⟩ = some v1 ∧ w1.cell? ⟨J, 2, none⟩ = some v2 := ⟨hM1.cell 0, hM1.cell 1, hM1.cell 2⟩
                  refine norm_ (a' := ?_) ?_ ?_
                  rotate_left
                  · simp only [putAll, Act.put, List.setIfInBounds_toArray, List.set_cons_zero, List.set_cons_succ]
                    rfl
                  refine one_ (i := 9) (N := some 29) #[true, true, true, true, true, true, true, true, true, true, true, true, true, true, true, false, true, true, true, true, true, true, false, false, false, false, false, false, false, false, false, false] rfl rfl (by kernel_rfl) (by decide) (fun K hK => ?_)
                  refine step_append1 encI_len encI_one (by rfl) _ _ 39 3 (.int .i64 0) 8 (by rfl) Try.underlying39 infoI rfl (by decide) (v := v0) (l := L0) (y := (k : Int)) (hM1.own 0) (hM1.pend 0 b0 rfl).1 rfl (by rfl) (by rfl) (by have := hM1.jlt; have := hM1.jb; omega) (by omega) (by omega) ?_
                  intro g cap w2 ho hg hat _
                  have hM2 := hM1.grow 0 ho hg hat
                  rw [up3_0, up3_0, up3_0] at hM2
                  refine hK.out _ _ ⟨hM2.cell 0, hM2.cell 1, hM2.cell 2⟩ (fun hHeld => ?_)
                  clear hK K
                  refine norm_ (a' := ?_) ?_ ?_
                  rotate_left
                  · show Act.put _ (some 29) _ = _
                    simp only [Act.put, List.setIfInBounds_toArray, List.set_cons_zero, List.set_cons_succ]
                    rfl
                  exact norm_ (by first | (simp only [putAll, Act.put, List.setIfInBounds_toArray, List.set_cons_zero, List.set_cons_succ]; done) | (simp only [putAll, Act.put, List.setIfInBounds_toArray, List.set_cons_zero, List.set_cons_succ]; rfl)) (hJ8_9_14_21 ⟨b0, b1, b2, _, _, 0, 0, 0, 0⟩ _ hM2)
              · skip
                rintro ⟨b0, b1, b2, g0, k0, g1, k1, g2, k2⟩ w1 hM1
                dsimp only at hM1 ⊢
                have hHeld : w1.cell? ⟨J, 0, none⟩ = some v0 ∧ w1.cell? ⟨J, 1, none⟩ = some v1 ∧ w1.cell? ⟨J, 2, none⟩ = some v2 := ⟨hM1.cell 0, hM1.cell 1, hM1.cell 2⟩
                refine norm_ (a' := ?_) ?_ ?_
                rotate_left
                · simp only [putAll, Act.put, List.setIfInBounds_toArray, List.set_cons_zero, List.set_cons_succ]
                  rfl
                refine one_ (i := 14) (N := some 34) #[true, true, true, true, true, true, true, true, true, true, true, true, true, true, true, false, true, true, true, true, true, true, false, false, false, false, false, false, false, false, false, false] rfl rfl (by kernel_rfl) (by decide) (fun K hK => ?_)
                refine value_ (w1 := ?_) (v := ?_) (by rfl) rfl ?_ ?_
                rotate_left 2
                · go_simp
                  constructor
                  · rfl
                  · rfl
                have hM2 := hM1.build 1
                rw [up3_1] at hM2
                refine hK.out _ _ ⟨hM2.cell 0, hM2.cell 1, hM2.cell 2⟩ (fun hHeld => ?_)
                clear hK K
                refine norm_ (a' := ?_) ?_ ?_
                rotate_left
                · show Act.put _ (some 34) _ = _
                  simp only [Act.put, List.setIfInBounds_toArray, List.set_cons_zero, List.set_cons_succ]
                  rfl
                exact norm_ (by first | (simp only [putAll, Act.put, List.setIfInBounds_toArray, List.set_cons_zero, List.set_cons_succ]; done) | (simp only [putAll, Act.put, List.setIfInBounds_toArray, List.set_cons_zero, List.set_cons_succ]; rfl)) (hJ8_9_14_21 ⟨b0, _, b2, g0, k0, 0, 0, 0, 0⟩ _ hM2)
            · skip
              rintro ⟨b0, b1, b2, g0, k0, g1, k1, g2, k2⟩ w1 hM1
              dsimp only at hM1 ⊢
              have hHeld : w1.cell? ⟨J, 0, none⟩ = some v0 ∧ w1.cell? ⟨J, 1, none⟩ = some v1 ∧ w1.cell? ⟨J, 2, none⟩ = some v2 := ⟨hM1.cell 0, hM1.cell 1, hM1.cell 2⟩
              refine norm_ (a' := ?_) ?_ ?_
              rotate_left
              · simp only [putAll, Act.put, List.setIfInBounds_toArray, List.set_cons_zero, List.set_cons_succ]
                rfl
              refine two_ (i := 15) (j := 21) (Ni := some 35) (Nj := some 41) #[true, true, true, true, true, true, true, true, true, true, true, true, true, true, true, true, true, true, true, true, true, false, false, false, false, false, false, false, false, false, false, false] #[true, true, true, true, true, true, true, true, true, true, true, true, true, true, true, false, true, true, true, true, true, true, false, false, false, false, false, false, false, false, false, false] rfl rfl rfl rfl (by kernel_rfl) (by decide) (by decide) (fun K hK => ?_) (fun K hK => ?_)
              · skip
                refine step_append1 encI_len encI_one (by rfl) _ _ 39 3 (.int .i64 0) 8 (by rfl) Try.underlying39 infoI rfl (by decide) (v := v1) (l := L1) (y := 1) (hM1.own 1) (hM1.pend 1 b1 rfl).1 rfl (by rfl) (by rfl) (by have := hM1.jlt; have := hM1.jb; omega) (by omega) (by omega) ?_
                intro g cap w2 ho hg hat _
                have hM2 := hM1.grow 1 ho hg hat
                rw [up3_1, up3_1, up3_1] at hM2
                refine hK.out _ _ ⟨hM2.cell 0, hM2.cell 1, hM2.cell 2⟩ (fun hHeld => ?_)
                clear hK K
                refine norm_ (a' := ?_) ?_ ?_
                rotate_left
                · show Act.put _ (some 35) _ = _
                  simp only [Act.put, List.setIfInBounds_toArray, List.set_cons_zero, List.set_cons_succ]
                  rfl
                exact norm_ (by first | (simp only [putAll, Act.put, List.setIfInBounds_toArray, List.set_cons_zero, List.set_cons_succ]; done) | (simp only [putAll, Act.put, List.setIfInBounds_toArray, List.set_cons_zero, List.set_cons_succ]; rfl)) (hJ8_9_14_15 ⟨b0, b1, 0, g0, k0, _, _, 0, 0⟩ _ hM2)
              · skip
                refine value_ (w1 := ?_) (v := ?_) (by rfl) rfl ?_ ?_
                rotate_left 2
                · go_simp
                  constructor
                  · rfl
                  · rfl
                have hM2 := hM1.build 2
                rw [up3_2] at hM2
                refine hK.out _ _ ⟨hM2.cell 0, hM2.cell 1, hM2.cell 2⟩ (fun hHeld => ?_)
                clear hK K
                refine norm_ (a' := ?_) ?_ ?_
                rotate_left
                · show Act.put _ (some 41) _ = _
                  simp only [Act.put, List.setIfInBounds_toArray, List.set_cons_zero, List.set_cons_succ]
                  rfl
                exact norm_ (by first | (simp only [putAll, Act.put, List.setIfInBounds_toArray, List.set_cons_zero, List.set_cons_succ]; done) | (simp only [putAll, Act.put, List.setIfInBounds_toArray, List.set_cons_zero, List.set_cons_succ]; rfl)) (hJ8_9_14_21 ⟨b0, b1, _, g0, k0, 0, 0, 0, 0⟩ _ hM2)
          · skip
            rintro ⟨b0, b1, b2, g0, k0, g1, k1, g2, k2⟩ w1 hM1
            dsimp only at hM1 ⊢
            have hHeld : w1.cell? ⟨J, 0, none⟩ = some v0 ∧ w1.cell? ⟨J, 1, none⟩ = some v1 ∧ w1.cell? ⟨J, 2, none⟩ = some v2 := ⟨hM1.cell 0, hM1.cell 1, hM1.cell 2⟩
            refine norm_ (a' := ?_) ?_ ?_
            rotate_left
            · simp only [putAll, Act.put, List.setIfInBounds_toArray, List.set_cons_zero, List.set_cons_succ]
              rfl
            refine one_ (i := 15) (N := some 35) #[true, true, true, true, true, true, true, true, true, true, true, true, true, true, true, true, true, true, true, true, true, true, false, false, false, false, false, false, false, false, false, false] rfl rfl (by kernel_rfl) (by decide) (fun K hK => ?_)
            refine step_append1 encI_len encI_one (by rfl) _ _ 39 3 (.int .i64 0) 8 (by rfl) Try.underlying39 infoI rfl (by decide) (v := v1) (l := L1) (y := 1) (hM1.own 1) (hM1.pend 1 b1 rfl).1 rfl (by rfl) (by rfl) (by have := hM1.jlt; have := hM1.jb; omega) (by omega) (by omega) ?_
            intro g cap w2 ho hg hat _
            have hM2 := hM1.grow 1 ho hg hat
            rw [up3_1, up3_1, up3_1] at hM2
            refine hK.out _ _ ⟨hM2.cell 0, hM2.cell 1, hM2.cell 2⟩ (fun hHeld => ?_)
            clear hK K
            refine norm_ (a' := ?_) ?_ ?_
            rotate_left
            · show Act.put _ (some 35) _ = _
              simp only [Act.put, List.setIfInBounds_toArray, List.set_cons_zero, List.set_cons_succ]
              rfl
            exact norm_ (by first | (simp only [putAll, Act.put, List.setIfInBounds_toArray, List.set_cons_zero, List.set_cons_succ]; done) | (simp only [putAll, Act.put, List.setIfInBounds_toArray, List.set_cons_zero, List.set_cons_succ]; rfl)) (hJ8_9_14_15_21 ⟨b0, b1, b2, g0, k0, _, _, 0, 0⟩ _ hM2)
        · skip
          rintro ⟨b0, b1, b2, g0, k0, g1, k1, g2, k2⟩ w1 hM1
          dsimp only at hM1 ⊢
          have hHeld : w1.cell? ⟨J, 0, none⟩ = some v0 ∧ w1.cell? ⟨J, 1, none⟩ = some v1 ∧ w1.cell? ⟨J, 2, none⟩ = some v2 := ⟨hM1.cell 0, hM1.cell 1, hM1.cell 2⟩
          refine norm_ (a' := ?_) ?_ ?_
          rotate_left
          · simp only [putAll, Act.put, List.setIfInBounds_toArray, List.set_cons_zero, List.set_cons_succ]
            rfl
          refine one_ (i := 21) (N := some 41) #[true, true, true, true, true, true, true, true, true, true, true, true, true, true, true, true, true, true, true, true, true, true, false, false, false, false, false, false, false, false, false, false] rfl rfl (by kernel_rfl) (by decide) (fun K hK => ?_)
          refine value_ (w1 := ?_) (v := ?_) (by rfl) rfl ?_ ?_
          rotate_left 2
          · go_simp
            constructor
            · rfl
            · rfl
          have hM2 := hM1.build 2
          rw [up3_2] at hM2
          refine hK.out _ _ ⟨hM2.cell 0, hM2.cell 1, hM2.cell 2⟩ (fun hHeld => ?_)
          clear hK K
          refine norm_ (a' := ?_) ?_ ?_
          rotate_left
          · show Act.put _ (some 41) _ = _
            simp only [Act.put, List.setIfInBounds_toArray, List.set_cons_zero, List.set_cons_succ]
            rfl
          exact norm_ (by first | (simp only [putAll, Act.put, List.setIfInBounds_toArray, List.set_cons_zero, List.set_cons_succ]; done) | (simp only [putAll, Act.put, List.setIfInBounds_toArray, List.set_cons_zero, List.set_cons_succ]; rfl)) (hJ8_9_14_15_21 ⟨b0, b1, _, g0, k0, g1, k1, 0, 0⟩ _ hM2)
      rintro ⟨b0, b1, b2, g0, k0, g1, k1, g2, k2⟩ w1 hM1
      dsimp only at hM1 ⊢
      have hHeld : w1.cell? ⟨J, 0, none⟩ = some v0 ∧ w1.cell? ⟨J, 1, none⟩ = some v1 ∧ w1.cell? ⟨J, 2, none⟩ = some v2 := ⟨hM1.cell 0, hM1.cell 1, hM1.cell 2⟩
      refine norm_ (a' := ?_) ?_ ?_
      rotate_left
      · simp only [putAll, Act.put, List.setIfInBounds_toArray, List.set_cons_zero, List.set_cons_succ]
        rfl
      refine one_ (i := 22) (N := some 42) #[true, true, true, true, true, true, true, true, true, true, true, true, true, true, true, true, true, true, true, true, true, true, true, false, false, false, false, false, false, false, false, false] rfl rfl (by kernel_rfl) (by decide) (fun K hK => ?_)
      refine step_append1 encI_len encI_one (by rfl) _ _ 39 3 (.int .i64 0) 8 (by rfl) Try.underlying39 infoI rfl (by decide) (v := v2) (l := L2) (y := (k : Int)) (hM1.own 2) (hM1.pend 2 b2 rfl).1 rfl (by rfl) (by rfl) (by have := hM1.jlt; have := hM1.jb; omega) (by omega) (by omega) ?_
      intro g cap w2 ho hg hat _
      have hM2 := hM1.grow 2 ho hg hat
      rw [up3_2, up3_2, up3_2] at hM2
      have hjf := hM2.frozen
      refine hK.out _ _ ⟨hM2.cell 0, hM2.cell 1, hM2.cell 2⟩ (fun hHeld => ?_)
      clear hK K
      refine norm_ (a' := ?_) ?_ ?_
      rotate_left
      · show Act.put _ (some 42) _ = _
        simp only [Act.put, List.setIfInBounds_toArray, List.set_cons_zero, List.set_cons_succ]
        rfl
      refine pure_ (i := 23) (N := some 43) (v := ?_) (a' := ?_) #[true, true, true, true, true, true, true, true, true, true, true, true, true, true, true, true, true, true, true, true, true, true, true, true, false, false, false, false, false, false, false, false] rfl rfl (by kernel_rfl) (fun _ _ _ h => h) (Or.inl ⟨by rfl, ?_⟩) ?_ ?_
      rotate_left
      · intro w'
        go_simp
        with_reducible rfl
      rotate_left
      · simp only [Act.put, List.setIfInBounds_toArray, List.set_cons_zero, List.set_cons_succ]
        rfl
      refine pure_ (i := 24) (N := some 44) (v := ?_) (a' := ?_) #[true, true, true, true, true, true, true, true, true, true, true, true, true, true, true, true, true, true, true, true, true, true, true, true, true, false, false, false, false, false, false, false] rfl rfl (by kernel_rfl) (fun _ _ _ h => h) (Or.inl ⟨by rfl, ?_⟩) ?_ ?_
      rotate_left
      · intro w'
        go_simp
        with_reducible rfl
      rotate_left
      · simp only [Act.put, List.setIfInBounds_toArray, List.set_cons_zero, List.set_cons_succ]
        rfl
      refine last_ (i := 25) (N := none) #[true, true, true, true, true, true, true, true, true, true, true, true, true, true, true, true, true, true, true, true, true, true, true, true, true, true, false, false, false, false, false, false] rfl rfl (by kernel_rfl) (by decide) (fun K hK => ?_)
      refine skip_ (w1 := ?_) (by rfl) rfl ?_ ?_
      rotate_left
      · go_simp
        rfl
      refine hK.out _ _ ?_
      clear hK K
      refine pure_ (i := 26) (N := some 45) (v := ?_) (a' := ?_) #[true, true, true, true, true, true, true, true, true, true, true, true, true, true, true, true, true, true, true, true, true, true, true, true, true, true, true, false, false, false, false, false] rfl rfl (by kernel_rfl) (fun _ _ _ h => h) (Or.inl ⟨by rfl, ?_⟩) ?_ ?_
      rotate_left
      · intro w'
        go_simp
        with_reducible rfl
      rotate_left
      · simp only [Act.put, List.setIfInBounds_toArray, List.set_cons_zero, List.set_cons_succ]
        rfl
      refine pure_ (i := 27) (N := some 46) (v := ?_) (a' := ?_) #[true, true, true, true, true, true, true, true, true, true, true, true, true, true, true, true, true, true, true, true, true, true, true, true, true, true, true, true, false, false, false, false] rfl rfl (by kernel_rfl) (fun _ _ _ h => h) (Or.inl ⟨by rfl, ?_⟩) ?_ ?_
      rotate_left
      · intro w'
        go_simp
        with_reducible rfl
      rotate_left
      · simp only [Act.put, List.setIfInBounds_toArray, List.set_cons_zero, List.set_cons_succ]
        rfl
      refine last_ (i := 28) (N := none) #[true, true, true, true, true, true, true, true, true, true, true, true, true, true, true, true, true, true, true, true, true, true, true, true, true, true, true, true, true, false, false, false] rfl rfl (by kernel_rfl) (by decide) (fun K hK => ?_)
      refine skip_ (w1 := ?_) (by rfl) rfl ?_ ?_
      rotate_left
      · go_simp
        rfl
      refine hK.out _ _ ?_
      clear hK K
      refine pure_ (i := 29) (N := some 47) (v := ?_) (a' := ?_) #[true, true, true, true, true, true, true, true, true, true, true, true, true, true, true, true, true, true, true, true, true, true, true, true, true, true, true, true, true, true, false, false] rfl rfl (by kernel_rfl) (fun _ _ _ h => h) (Or.inl ⟨by rfl, ?_⟩) ?_ ?_
      rotate_left
      · intro w'
        go_simp
        with_reducible rfl
      rotate_left
      · simp only [Act.put, List.setIfInBounds_toArray, List.set_cons_zero, List.set_cons_succ]
        rfl
      refine pure_ (i := 30) (N := some 48) (v := ?_) (a' := ?_) #[true, true, true, true, true, true, true, true, true, true, true, true, true, true, true, true, true, true, true, true, true, true, true, true, true, true, true, true, true, true, true, false] rfl rfl (by kernel_rfl) (fun _ _ _ h => h) (Or.inl ⟨by rfl, ?_⟩) ?_ ?_
      rotate_left
      · intro w'
        go_simp
        with_reducible rfl
      rotate_left
      · simp only [Act.put, List.setIfInBounds_toArray, List.set_cons_zero, List.set_cons_succ]
        rfl
      refine last_ (i := 31) (N := none) #[true, true, true, true, true, true, true, true, true, true, true, true, true, true, true, true, true, true, true, true, true, true, true, true, true, true, true, true, true, true, true, true] rfl rfl (by kernel_rfl) (by decide) (fun K hK => ?_)
      refine skip_ (w1 := ?_) (by rfl) rfl ?_ ?_
      rotate_left
      · go_simp
        rfl
      refine hK.out _ _ ?_
      clear hK K
      refine done_ (by kernel_rfl) ?_
      subst hL0 hL1 hL2 hJ
      (try simp only [Exit.inBlock, Exit.then])
      go_wp2_with fail
      go_roundw
      case rel =>
        refine ⟨k + 1, .slice (some ⟨g0, 0, none⟩) (k + 1) k0, .slice (some ⟨g1, 0, none⟩) (k + 1) k1, .slice (some ⟨g, 0, none⟩) (k + 1) cap, by omega, by go_num, ?_⟩
        rw [hl0, hl1] at hM2
        have h3 := (((hM2.stored 0 (.slice (some ⟨g0, 0, none⟩) (k + 1) k0)).stored 1 (.slice (some ⟨g1, 0, none⟩) (k + 1) k1)).stored 2 (.slice (some ⟨g, 0, none⟩) (k + 1) cap)).none_ (t3 0 0 0)
        rw [nums_succ, ones_succ]
        exact h3
      case measure => (simp [intOf]) <;> omega
    · have hK : k = 65 := by omega
      subst hK
      go_wp2_with fail
      go_ret2
      have h0 : OwnI wr w0.heap.size 3 v0 (nums 65) := HM.out.own 0
      have h1 : OwnI wr w0.heap.size 3 v1 (List.replicate 65 1) := HM.out.own 1
      have h2 : OwnI wr w0.heap.size 3 v2 (nums 65) := HM.out.own 2
      rcases h0.shape with ⟨_, h⟩ | ⟨g0, c0, _, rfl, _⟩
      · simp [nums] at h
      rcases h1.shape with ⟨_, h⟩ | ⟨g1, c1, _, rfl, _⟩
      · simp at h
      rcases h2.shape with ⟨_, h⟩ | ⟨g2, c2, _, rfl, _⟩
      · simp [nums] at h
      exact ⟨_, c0, c1, c2, g0, g1, g2, rfl, HM.out⟩

/-- What joins 65 numbers, each alone. -/
theorem spanSets_c (w : World) : Calls Try.prog 42 #[] w fun e w' => ∃ v, e = .returned v ∧ JoinIs w' w.heap.size w'.heap.size v id ∧ Below w.heap.size w w' := by
  go_enter Try.func42, Try.ntmps42
  go_wp2_with fail
  go_at_call 78; refine (joinNew_c _).mono ?_; rintro e w1 ⟨J, cu, cs, cl, U, S, L, rfl, hm⟩
  have HM := Lib.hid hm
  clear hm
  go_wp2_with fail
  go_ret
  refine ⟨_, rfl, ⟨J, U, S, L, cu, cs, cl, List.range 65, List.replicate 65 1, nums 65, 64, rfl, ?_, Up.alone⟩, HM.out.below⟩
  have h := HM.out
  have h0 : OwnI w1 w.heap.size 3 (.slice (some ⟨U, 0, none⟩) 65 cu) (nums 65) := h.own 0
  have h1 : OwnI w1 w.heap.size 3 (.slice (some ⟨S, 0, none⟩) 65 cs) (List.replicate 65 1) := h.own 1
  have h2 : OwnI w1 w.heap.size 3 (.slice (some ⟨L, 0, none⟩) 65 cl) (nums 65) := h.own 2
  have b0 := h0.lt U rfl
  have b1 := h1.lt S rfl
  have b2 := h2.lt L rfl
  have j0 : (Value.slice (some ⟨U, 0, none⟩) 65 cu).ownBlock ≠ some J := h.cJ 0
  have j1 : (Value.slice (some ⟨S, 0, none⟩) 65 cs).ownBlock ≠ some J := h.cJ 1
  have j2 : (Value.slice (some ⟨L, 0, none⟩) 65 cl).ownBlock ≠ some J := h.cJ 2
  have k0 : (Value.slice (some ⟨U, 0, none⟩) 65 cu).ownBlock = none ∨ (Value.slice (some ⟨U, 0, none⟩) 65 cu).ownBlock ≠ (Value.slice (some ⟨S, 0, none⟩) 65 cs).ownBlock := h.cc 0 1 (by decide)
  have k1 : (Value.slice (some ⟨U, 0, none⟩) 65 cu).ownBlock = none ∨ (Value.slice (some ⟨U, 0, none⟩) 65 cu).ownBlock ≠ (Value.slice (some ⟨L, 0, none⟩) 65 cl).ownBlock := h.cc 0 2 (by decide)
  have k2 : (Value.slice (some ⟨S, 0, none⟩) 65 cs).ownBlock = none ∨ (Value.slice (some ⟨S, 0, none⟩) 65 cs).ownBlock ≠ (Value.slice (some ⟨L, 0, none⟩) 65 cl).ownBlock := h.cc 1 2 (by decide)
  simp only [Value.ownBlock, ne_eq, Option.some.injEq, reduceCtorEq, false_or] at j0 j1 j2 k0 k1 k2
  have hJ := h.jlt
  have hJb := h.jb
  refine ⟨by omega, ⟨Ne.symm j0, Ne.symm j1, Ne.symm j2, k0, k1, k2⟩, h.row, ⟨by simp, by simp, by simp [nums]⟩, ?_, ?_, h1, h2⟩
  · rcases h0.shape with ⟨h, _⟩ | ⟨_, _, _, e0, _, _, _, l0, _⟩
    · cases h
    rcases h1.shape with ⟨h, _⟩ | ⟨_, _, _, e1, _, _, _, l1, _⟩
    · cases h
    rcases h2.shape with ⟨h, _⟩ | ⟨_, _, _, e2, _, _, _, l2, _⟩
    · cases h
    simp only [Value.slice.injEq] at e0 e1 e2
    rw [nums_length] at l0 l2
    rw [List.length_replicate] at l1
    omega
  · have e : (List.range 65).flatMap encN = (nums 65).flatMap encI := by rw [flat1N, flat1I, nums, List.map_map]; rfl
    show w1.ownsRow _ _ _ _ _ _
    rw [e]
    have := h0
    unfold OwnI Own at this
    rw [nums_length] at this
    simpa using this

end Go.Proofs.Ytandminldgiheaa
