/- Proved: whatever two views the law ViewMerges is given, it returns true, and they read behind the call as they read before it. -/
import Derived.Test.YtandminldgiheaaOpenV
import Derived.Test.YtandminldgiheaaViewMergesW
namespace Go.Proofs.Ytandminldgiheaa
open Go.ChangeShapes Go.WideShapes Go.ChangeAt Go.RowKit

set_option maxRecDepth 100000 in
theorem viewMerges_lifted (os : Os) (started : os.Started) (H : Type) (enc : TypeId × Value → H) :
    ReturnsInHanded {} Try.checked os 8 .any (Rows.viewMergesSpec.pre6 enc Try.prog Try.f8 Rows.viewMergesRow.domain false) (Rows.viewMergesSpec.post enc Try.prog Try.f8 false true false false) := by
  refine returnsInHanded_of_change (C := Try.checked) ownKnob0 started (by kernel_rfl) Try.func8
    (ChangeSpec.witness6 (enc := enc) (C := Try.checked) false ⟨#[], #[.agg #[.slice none 0 0, .slice none 0 0], .agg #[.slice none 0 0, .slice none 0 0]], []⟩ 8 (by kernel_rfl) (by kernel_rfl) (by kernel_rfl) (by kernel_rfl)) ?_
  intro W base args ds gs before hval0 hW hcnd _
  have hval : ∀ (j : Nat) t v, Try.f8.params[j]? = some t → args[j]? = some v → Value.okWide Try.prog W .any base t v := hval0
  have hW' := hW
  obtain ⟨p, q, hA0, hV, rfl, hfz, hnd⟩ := hW
  have hA : DataW.TrodAll enc Try.prog W 0 (fun _ => true) true Try.f8.params.toList args.toList ds p := hA0
  rw [Try.params8] at hA hval
  obtain ⟨v0, v1, d0, d1, p0, p1, rfl, rfl, rfl, h0, h1⟩ := trodAll_two hA
  obtain ⟨rfl, rfl⟩ := trodVars_none hV
  obtain ⟨a, an, al, rfl, ha⟩ := open_view (hval 0 43 v0 rfl rfl) h0
  obtain ⟨b, bn, bl, rfl, hb⟩ := open_view (hval 1 43 v1 rfl rfl) h1
  exact (viewMergesLaw_c a b an al bn bl W ha hb).mono fun e W' ⟨he, hB⟩ => ⟨_, he, law_post laidOut0 (by kernel_rfl) (by kernel_rfl) Try.underlying4 rfl rfl hW' hB⟩

theorem viewMerges_holds : Rows.ViewMergesSaid :=
  OpenClaim.holds_of_wide 8 Try.f8 rfl rfl rfl rfl rfl rfl rfl ⟨rfl, rfl, rfl, rfl, rfl⟩ rfl rfl rfl rfl rfl (by kernel_rfl) Try.func8 (by kernel_rfl)
    (of_decide_eq_true (by kernel_rfl)) (by unfold Func.isWrapper; first | (rw [if_pos (by decide +kernel)]; kernel_rfl) | (rw [if_neg (by decide +kernel)]; exact ⟨rfl, rfl⟩))
    (fun os started H enc _ => viewMerges_lifted os started H enc)

#print axioms viewMerges_holds
end Go.Proofs.Ytandminldgiheaa
