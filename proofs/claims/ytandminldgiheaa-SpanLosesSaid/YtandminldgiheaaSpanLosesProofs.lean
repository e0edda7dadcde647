/- Proved: whatever list of edges and whatever number the law SpanLoses is given, it returns true, and the list reads behind the call as it read before it. -/
import Derived.Test.YtandminldgiheaaOpenE
import Derived.Test.YtandminldgiheaaSpanLosesW
namespace Go.Proofs.Ytandminldgiheaa
open Go.ChangeShapes Go.WideShapes Go.ChangeAt Go.RowKit

set_option maxRecDepth 100000 in
theorem spanLoses_lifted (os : Os) (started : os.Started) (H : Type) (enc : TypeId × Value → H) :
    ReturnsInHanded {} Try.checked os 4 .any (Rows.spanLosesSpec.pre6 enc Try.prog Try.f4 Rows.spanLosesRow.domain false) (Rows.spanLosesSpec.post enc Try.prog Try.f4 false true false false) := by
  refine returnsInHanded_of_change (C := Try.checked) ownKnob0 started (by kernel_rfl) Try.func4
    (ChangeSpec.witness6 (enc := enc) (C := Try.checked) false ⟨#[], #[.slice none 0 0, .int .u8 0], []⟩ 8 (by kernel_rfl) (by kernel_rfl) (by kernel_rfl) (by kernel_rfl)) ?_
  intro W base args ds gs before hval0 hW hcnd _
  have hval : ∀ (j : Nat) t v, Try.f4.params[j]? = some t → args[j]? = some v → Value.okWide Try.prog W .any base t v := hval0
  have hW' := hW
  obtain ⟨p, q, hA0, hV, rfl, hfz, hnd⟩ := hW
  have hA : DataW.TrodAll enc Try.prog W 0 (fun _ => true) true Try.f4.params.toList args.toList ds p := hA0
  rw [Try.params4] at hA hval
  obtain ⟨v0, v1, d0, d1, p0, p1, rfl, rfl, rfl, h0, h1⟩ := trodAll_two hA
  obtain ⟨rfl, rfl⟩ := trodVars_none hV
  obtain ⟨l, hl⟩ := open_edges (hval 0 22 v0 rfl rfl) h0
  obtain ⟨n, rfl, _, _, hw⟩ := open_int Try.underlying5 (hval 1 5 v1 rfl rfl) h1
  have hb := bounds_u8 hw
  exact (spanLosesLaw_c l n hb.1 hb.2 v0 W hl).mono fun e W' ⟨he, hB⟩ => ⟨_, he, law_post laidOut0 (by kernel_rfl) (by kernel_rfl) Try.underlying4 rfl rfl hW' hB⟩

theorem spanLoses_holds : Rows.SpanLosesSaid :=
  OpenClaim.holds_of_wide 4 Try.f4 rfl rfl rfl rfl rfl rfl rfl ⟨rfl, rfl, rfl, rfl, rfl⟩ rfl rfl rfl rfl rfl (by kernel_rfl) Try.func4 (by kernel_rfl)
    (of_decide_eq_true (by kernel_rfl)) (by unfold Func.isWrapper; first | (rw [if_pos (by decide +kernel)]; kernel_rfl) | (rw [if_neg (by decide +kernel)]; exact ⟨rfl, rfl⟩))
    (fun os started H enc _ => spanLoses_lifted os started H enc)

#print axioms spanLoses_holds
end Go.Proofs.Ytandminldgiheaa
