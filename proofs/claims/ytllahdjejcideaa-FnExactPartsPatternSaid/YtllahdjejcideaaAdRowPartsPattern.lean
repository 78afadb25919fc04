/- Proved: the law FnExactPartsPattern returns true for every input and leaves its arguments as they were. Conditions: none. -/
import Derived.Test.YtllahdjejcideaaRows
import Derived.ProofKit
import Derived.Test.YtllahdjejcideaaAdB11
namespace Go.Proofs.Ytllahdjejcideaa
open Go Go.ChangeShapes Go.WideShapes Go.ChangeAt Go.RowKit

theorem ownFnExactPartsPattern : ownKnob Try.prog.godebug = none := by kernel_rfl
theorem laidFnExactPartsPattern : laidOutB Try.prog = true := by kernel_rfl

set_option maxRecDepth 100000 in
theorem fnExactPartsPattern_lifted (os : Os) (started : os.Started) (H : Type) (enc : TypeId × Value → H) :
    ReturnsInHanded {} Try.checked os 6 .any (Rows.fnExactPartsPatternSpec.pre6 enc Try.prog Try.f6 Rows.fnExactPartsPatternRow.domain false) (Rows.fnExactPartsPatternSpec.post enc Try.prog Try.f6 false true false false) := by
  refine returnsInHanded_of_change (C := Try.checked) ownFnExactPartsPattern started (by kernel_rfl) Try.func6
    (ChangeSpec.witness6 (enc := enc) (C := Try.checked) false ⟨#[], #[.int .i64 0], []⟩ 8 (by kernel_rfl) (by kernel_rfl) (by kernel_rfl) (by kernel_rfl)) ?_
  intro W base args ds gs before hval0 hW hcnd _
  have hds : ∃ d, ds = [d] := by
    obtain ⟨p, q, hA, _⟩ := hW
    have hA : DataW.TrodAll enc Try.prog W 0 (fun _ => true) true Try.f6.params.toList args.toList ds p := hA
    rw [Try.params6] at hA
    obtain ⟨v, d, _, h, _⟩ := trodAll_one hA
    exact ⟨d, h⟩
  obtain ⟨d, rfl⟩ := hds
  exact YtllahdjejcideaaAi.law_post (m := 9) (tys := [.int .i64]) laidFnExactPartsPattern rfl rfl (by kernel_rfl) (by kernel_rfl) (by decide) YtllahdjejcideaaAi.law_partsPattern ⟨rfl, rfl, rfl⟩ hval0 hW

theorem fnExactPartsPattern_holds : Rows.FnExactPartsPatternSaid :=
  OpenClaim.holds_of_wide 6 Try.f6 rfl rfl rfl rfl rfl rfl rfl ⟨rfl, rfl, rfl, rfl, rfl⟩ rfl rfl rfl rfl rfl (by kernel_rfl) Try.func6 (by kernel_rfl)
    (of_decide_eq_true (by kernel_rfl)) (by unfold Func.isWrapper; rw [if_neg (by decide +kernel)]; exact ⟨rfl, rfl⟩)
    (fun os started H enc _ => fnExactPartsPattern_lifted os started H enc)

end Go.Proofs.Ytllahdjejcideaa
