/- slices.SortFunc at links, by whatever order: a permutation, in order. -/
import Derived.Test.YtandminldgiheaaOwn
import Derived.Test.YtandminldgiheaaShelf
import Derived.Test.YtandminldgiheaaViewW
import Derived.Test.YtandminldgiheaaMergeP
namespace Go.Proofs.Ytandminldgiheaa
open Go.RowKit Go.Sort Go.Shelf

abbrev OwnK := Own encK 5
theorem perm_of_in {α : Type} [Inhabited α] {lt : α → α → Bool} {d d' : Array α} (hP : PermIn 0 d.size d d') (hS : SortedIn lt 0 d.size d') : d'.toList.Perm d.toList ∧ d'.toList.Pairwise (fun x y => lt y x = false) := by
  obtain ⟨hsz, _, hperm⟩ := hP
  have e1 : d'.extract 0 d.size = d' := by rw [← hsz]; exact Array.extract_size
  rw [e1, Array.extract_size] at hperm
  refine ⟨hperm, ?_⟩
  rw [List.pairwise_iff_getElem]
  intro i j hi hj hij
  have hi' : i < d'.size := by simpa using hi
  have hj' : j < d'.size := by simpa using hj
  have := hS i j (Nat.zero_le _) hij (by omega)
  rw [getElem!_pos d' j hj', getElem!_pos d' i hi'] at this
  simpa using this

set_option maxHeartbeats 1000000 in
theorem sortFuncK_any (g : FuncId) (cf : Known → Known → Int) (eg : ∀ args w, (callFunc g args).run Try.prog w = .ok (.enter g args) w) (hO : SWO (ltOf cf)) (hcmp : ∀ blk off size w, CmpLays Try.prog g #[] encK 5 cf blk off size w)
    (l : List Known) (v : Value) (w : World) (base : Nat) (hv : OwnK w base 51 v l) (hl : l.length ≤ 1000000) :
    Calls Try.prog 62 #[v, .func (.func g) #[] #[]] w fun e w' => e = .returned (.tuple #[]) ∧ ∃ l', l'.Perm l ∧ l'.Pairwise (fun x y => ltOf cf y x = false) ∧ OwnK w' base 51 v l' ∧ w.grownBy w' v.ownBlock := by
  rcases hv.shape with ⟨rfl, rfl⟩ | ⟨g0, cap, cur, rfl, h1, hlt, _⟩
  · refine (AnyF.slices_SortFunc_none Try.sortK none 0 _ w).mono ?_
    rintro e w' ⟨rfl, rfl⟩
    exact ⟨rfl, [], List.Perm.refl _, List.Pairwise.nil, hv, World.grownBy.refl _ _⟩
  · have hcon := AnyQ.slices_SortFunc Try.sortK 5 Try.isAgg51 Try.sizeOf51 encK encK_len encK_one cf hO g #[] g0 0 cap l.toArray w eg (hcmp _ _ _ _) (hv.holdsK encK_len) hlt (by simp; omega)
    refine Calls.mono hcon ?_
    rintro e w' ⟨rfl, d', n, os, hp, hs, rfl⟩
    obtain ⟨h2, h3⟩ := perm_of_in hp hs
    have ho := hv.sorted encK_len d'.toList (by simpa using h2.length_eq) n os
    have hlen : d'.toList.length = l.length := by simpa using h2.length_eq
    rw [hlen] at ho
    simp only [Array.toArray_toList] at ho
    exact ⟨rfl, d'.toList, by simpa using h2, h3, ho, grown_sorted (E := encK) (k := 5)⟩

theorem cmpLaysK (blk off size : Nat) (w : World) : CmpLays Try.prog 63 #[] encK 5 cmpK blk off size w :=
  fun _ _ _ _ x y => (viewOrder_c x y _).mono fun _ _ ⟨he, hw⟩ => ⟨he, 1, _, hw.symm.trans (grow3 _ _ _ _)⟩
theorem ltOf_cmpK (x y : Known) : ltOf cmpK x y = aheadK x y := by
  unfold ltOf
  rw [Bool.eq_iff_iff, decide_eq_true_iff]
  exact cmpK_lt x y
theorem swoK : SWO (ltOf cmpK) where
  irrefl x := by rw [ltOf_cmpK]; exact aheadK_irrefl x
  trans x y z h1 h2 := by rw [ltOf_cmpK] at *; exact aheadK_trans _ _ _ h1 h2
  ntrans x y z h1 h2 := by
    rw [ltOf_cmpK] at *
    unfold aheadK at *
    simp at *
    omega
theorem sortFuncK_c (l : List Known) (v : Value) (w : World) (base : Nat) (hv : OwnK w base 51 v l) (hl : l.length ≤ 1000000) :
    Calls Try.prog 62 #[v, .func (.func 63) #[] #[]] w fun e w' => e = .returned (.tuple #[]) ∧ ∃ l', l'.Perm l ∧ l'.Pairwise (fun x y => aheadK y x = false) ∧ OwnK w' base 51 v l' ∧ w.grownBy w' v.ownBlock := by
  have h := sortFuncK_any 63 cmpK (enters_of Try.func63 (by kernel_rfl) rfl) swoK cmpLaysK l v w base hv hl
  simpa only [ltOf_cmpK] using h

end Go.Proofs.Ytandminldgiheaa
