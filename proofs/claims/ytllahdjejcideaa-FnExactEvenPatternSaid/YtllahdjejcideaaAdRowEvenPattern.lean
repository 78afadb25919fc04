/- Proved: the law FnExactEvenPattern returns true for every input and leaves its arguments as they were. Conditions: none. -/
import Derived.Test.YtllahdjejcideaaRows
import Derived.ProofKit
import Derived.Test.YtllahdjejcideaaAdB10
namespace Go.Proofs.Ytllahdjejcideaa
open Go Go.ChangeShapes Go.WideShapes Go.ChangeAt Go.RowKit

theorem ownFnExactEvenPattern : ownKnob Try.prog.godebug = none := by kernel_rfl
theorem laidFnExactEvenPattern : laidOutB Try.prog = true := by kernel_rfl

set_option maxRecDepth 100000 in
theorem fnExactEvenPattern_lifted (os : Os) (started : os.Started) (H : Type) (enc : TypeId × Value → H) :
    ReturnsInHanded {} Try.checked os 5 .any (Rows.fnExactEvenPatternSpec.pre6 enc Try.prog Try.f5 Rows.fnExactEvenPatternRow.domain false) (Rows.fnExactEvenPatternSpec.post enc Try.prog Try.f5 false true false false) := by
  refine returnsInHanded_of_change (C := Try.checked) ownFnExactEvenPattern started (by kernel_rfl) Try.func5
    (ChangeSpec.witness6 (enc := enc) (C := Try.checked) false ⟨#[], #[.agg #[.int .i64 0, .int .u32 0], .int .u32 0], []⟩ 8 (by kernel_rfl) (by kernel_rfl) (by kernel_rfl) (by kernel_rfl)) ?_
  intro W base args ds gs before hval0 hW hcnd _
  have hds : ∃ d d', ds = [d, d'] := by
    obtain ⟨p, q, hA, _⟩ := hW
    have hA : DataW.TrodAll enc Try.prog W 0 (fun _ => true) true Try.f5.params.toList args.toList ds p := hA
    rw [Try.params5] at hA
    obtain ⟨_, _, d, d', _, _, _, h, _⟩ := trodAll_two hA
    exact ⟨d, d', h⟩
  obtain ⟨d, d', rfl⟩ := hds
  exact YtllahdjejcideaaAi.law_post (m := 9) (tys := [YtllahdjejcideaaAi.tyGraph, .int .u32]) laidFnExactEvenPattern rfl rfl (by kernel_rfl) (by kernel_rfl) (by decide) YtllahdjejcideaaAi.law_evenPattern ⟨rfl, rfl, rfl⟩ hval0 hW

theorem fnExactEvenPattern_holds : Rows.FnExactEvenPatternSaid :=
  OpenClaim.holds_of_wide 5 Try.f5 rfl rfl rfl rfl rfl rfl rfl ⟨rfl, rfl, rfl, rfl, rfl⟩ rfl rfl rfl rfl rfl (by kernel_rfl) Try.func5 (by kernel_rfl)
    (of_decide_eq_true (by kernel_rfl)) (by unfold Func.isWrapper; rw [if_neg (by decide +kernel)]; exact ⟨rfl, rfl⟩)
    (fun os started H enc _ => fnExactEvenPattern_lifted os started H enc)

end Go.Proofs.Ytllahdjejcideaa
