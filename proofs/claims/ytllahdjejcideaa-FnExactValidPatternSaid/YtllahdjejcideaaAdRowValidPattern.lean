/- Proved: the law FnExactValidPattern returns true for every input and leaves its argument as it was. Conditions: none. -/
import Derived.Test.YtllahdjejcideaaRows
import Derived.ProofKit
import Derived.Test.YtllahdjejcideaaAdB3
namespace Go.Proofs.Ytllahdjejcideaa
open Go Go.ChangeShapes Go.WideShapes Go.ChangeAt Go.RowKit

theorem aiOwn : ownKnob Try.prog.godebug = none := by kernel_rfl
theorem aiLaid : laidOutB Try.prog = true := by kernel_rfl

set_option maxRecDepth 100000 in
theorem fnExactValidPattern_lifted (os : Os) (started : os.Started) (H : Type) (enc : TypeId × Value → H) :
    ReturnsInHanded {} Try.checked os 7 .any (Rows.fnExactValidPatternSpec.pre6 enc Try.prog Try.f7 Rows.fnExactValidPatternRow.domain false) (Rows.fnExactValidPatternSpec.post enc Try.prog Try.f7 false true false false) := by
  refine returnsInHanded_of_change (C := Try.checked) aiOwn started (by kernel_rfl) Try.func7
    (ChangeSpec.witness6 (enc := enc) (C := Try.checked) false ⟨#[], #[.agg #[.int .i64 0, .int .u32 0, .int .u32 0, .slice none 0 0]], []⟩ 8 (by kernel_rfl) (by kernel_rfl) (by kernel_rfl) (by kernel_rfl)) ?_
  intro W base args ds gs before hval0 hW hcnd _
  have hds : ∃ d, ds = [d] := by
    obtain ⟨p, q, hA, _⟩ := hW
    have hA : DataW.TrodAll enc Try.prog W 0 (fun _ => true) true Try.f7.params.toList args.toList ds p := hA
    rw [Try.params7] at hA
    obtain ⟨v, d, _, h, _⟩ := trodAll_one hA
    exact ⟨d, h⟩
  obtain ⟨d, rfl⟩ := hds
  exact YtllahdjejcideaaAi.law_post (m := 9) (tys := [YtllahdjejcideaaAi.tyPattern]) aiLaid rfl rfl (by kernel_rfl) (by kernel_rfl) (by decide) YtllahdjejcideaaAi.law_validPattern ⟨rfl, rfl, rfl⟩ hval0 hW

theorem fnExactValidPattern_holds : Rows.FnExactValidPatternSaid :=
  OpenClaim.holds_of_wide 7 Try.f7 rfl rfl rfl rfl rfl rfl rfl ⟨rfl, rfl, rfl, rfl, rfl⟩ rfl rfl rfl rfl rfl (by kernel_rfl) Try.func7 (by kernel_rfl)
    (of_decide_eq_true (by kernel_rfl)) (by unfold Func.isWrapper; rw [if_neg (by decide +kernel)]; exact ⟨rfl, rfl⟩)
    (fun os started H enc _ => fnExactValidPattern_lifted os started H enc)

end Go.Proofs.Ytllahdjejcideaa
