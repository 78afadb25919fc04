/- Proved: the law FnExactSplitPart returns true for every input and leaves its arguments as they were. Conditions: none. -/
import Derived.Test.YtgiakpeneckgfaaRows
import Derived.ProofKit
import Derived.Test.YtgiakpeneckgfaaMsp3
namespace Go.Proofs.Ytgiakpeneckgfaa
open Go Go.ChangeShapes Go.WideShapes Go.ChangeAt Go.RowKit

theorem ownFnExactSplitPart : ownKnob Try.prog.godebug = none := by kernel_rfl
theorem laidFnExactSplitPart : laidOutB Try.prog = true := by kernel_rfl

set_option maxRecDepth 100000 in
theorem fnExactSplitPart_lifted (os : Os) (started : os.Started) (H : Type) (enc : TypeId × Value → H) :
    ReturnsInHanded {} Try.checked os 3 .any (Rows.fnExactSplitPartSpec.pre6 enc Try.prog Try.f3 Rows.fnExactSplitPartRow.domain false) (Rows.fnExactSplitPartSpec.post enc Try.prog Try.f3 false true false false) := by
  refine returnsInHanded_of_change (C := Try.checked) ownFnExactSplitPart started (by kernel_rfl) Try.func3
    (ChangeSpec.witness6 (enc := enc) (C := Try.checked) false ⟨#[], #[.agg #[.int .i64 0, .int .u32 0, .int .u32 0, .slice none 0 0], .int .i64 0, .agg #[.int .i64 0, .int .i64 0]], []⟩ 8 (by kernel_rfl) (by kernel_rfl) (by kernel_rfl) (by kernel_rfl)) ?_
  intro W base args ds gs before hval0 hW hcnd _
  have hds : ∃ d d' d'', ds = [d, d', d''] := by
    obtain ⟨p, q, hA, _⟩ := hW
    have hA : DataW.TrodAll enc Try.prog W 0 (fun _ => true) true Try.f3.params.toList args.toList ds p := hA
    rw [Try.params3] at hA
    obtain ⟨_, _, _, d, d', d'', _, _, _, _, h, _⟩ := trodAll_three hA
    exact ⟨d, d', d'', h⟩
  obtain ⟨d, d', d'', rfl⟩ := hds
  exact YtgiakpeneckgfaaAi.law_post (m := 9) (tys := [YtgiakpeneckgfaaAi.tyPattern, .int .i64, YtgiakpeneckgfaaAi.tyFr]) laidFnExactSplitPart rfl rfl (by kernel_rfl) (by kernel_rfl) (by decide) YtgiakpeneckgfaaAi.law_splitPart ⟨rfl, rfl, rfl⟩ (YtgiakpeneckgfaaAi.good_none (by kernel_rfl)) hval0 hW

theorem fnExactSplitPart_holds : Rows.FnExactSplitPartSaid :=
  OpenClaim.holds_of_wide 3 Try.f3 rfl rfl rfl rfl rfl rfl rfl ⟨rfl, rfl, rfl, rfl, rfl⟩ rfl rfl rfl rfl rfl (by kernel_rfl) Try.func3 (by kernel_rfl)
    (of_decide_eq_true (by kernel_rfl)) (by unfold Func.isWrapper; rw [if_neg (by decide +kernel)]; exact ⟨rfl, rfl⟩)
    (fun os started H enc _ => fnExactSplitPart_lifted os started H enc)

end Go.Proofs.Ytgiakpeneckgfaa
