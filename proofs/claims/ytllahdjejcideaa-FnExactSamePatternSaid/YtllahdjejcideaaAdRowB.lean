/- Proved: the law FnExactSamePattern returns true for every input and leaves its arguments as they were. Conditions: none. -/
import Derived.Test.YtllahdjejcideaaRows
import Derived.ProofKit
import Derived.Test.YtllahdjejcideaaAdFracE
namespace Go.Proofs.Ytllahdjejcideaa
open Go Go.ChangeShapes Go.WideShapes Go.ChangeAt Go.RowKit

theorem aiOwnSame : ownKnob Try.prog.godebug = none := by kernel_rfl
theorem aiLaidSame : laidOutB Try.prog = true := by kernel_rfl

set_option maxRecDepth 100000 in
theorem fnExactSamePattern_lifted (os : Os) (started : os.Started) (H : Type) (enc : TypeId × Value → H) :
    ReturnsInHanded {} Try.checked os 4 .any (Rows.fnExactSamePatternSpec.pre6 enc Try.prog Try.f4 Rows.fnExactSamePatternRow.domain false) (Rows.fnExactSamePatternSpec.post enc Try.prog Try.f4 false true false false) := by
  refine returnsInHanded_of_change (C := Try.checked) aiOwnSame started (by kernel_rfl) Try.func4
    (ChangeSpec.witness6 (enc := enc) (C := Try.checked) false ⟨#[], #[.agg #[.int .i64 0, .int .u32 0, .int .u32 0, .slice none 0 0], .agg #[.int .i64 0, .int .u32 0, .int .u32 0, .slice none 0 0]], []⟩ 8 (by kernel_rfl) (by kernel_rfl) (by kernel_rfl) (by kernel_rfl)) ?_
  intro W base args ds gs before hval0 hW hcnd _
  have hds : ∃ d d', ds = [d, d'] := by
    obtain ⟨p, q, hA, _⟩ := hW
    have hA : DataW.TrodAll enc Try.prog W 0 (fun _ => true) true Try.f4.params.toList args.toList ds p := hA
    rw [Try.params4] at hA
    obtain ⟨_, _, d, d', _, _, _, h, _⟩ := trodAll_two hA
    exact ⟨d, d', h⟩
  obtain ⟨d, d', rfl⟩ := hds
  exact YtllahdjejcideaaAi.law_post (m := 9) (tys := [YtllahdjejcideaaAi.tyPattern, YtllahdjejcideaaAi.tyPattern]) aiLaidSame rfl rfl (by kernel_rfl) (by kernel_rfl) (by decide) YtllahdjejcideaaAi.law_samePattern ⟨rfl, rfl, rfl⟩ hval0 hW

theorem fnExactSamePattern_holds : Rows.FnExactSamePatternSaid :=
  OpenClaim.holds_of_wide 4 Try.f4 rfl rfl rfl rfl rfl rfl rfl ⟨rfl, rfl, rfl, rfl, rfl⟩ rfl rfl rfl rfl rfl (by kernel_rfl) Try.func4 (by kernel_rfl)
    (of_decide_eq_true (by kernel_rfl)) (by unfold Func.isWrapper; rw [if_neg (by decide +kernel)]; exact ⟨rfl, rfl⟩)
    (fun os started H enc _ => fnExactSamePattern_lifted os started H enc)

end Go.Proofs.Ytllahdjejcideaa
