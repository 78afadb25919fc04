/- Proved: the law FnExactIsPatternFree returns true for every input and leaves its arguments as they were. Conditions: none. -/
import Derived.Test.YtkgodhdpcomjbaaRows
import Derived.ProofKit
import Derived.Test.YtkgodhdpcomjbaaAdB29
namespace Go.Proofs.Ytkgodhdpcomjbaa
open Go Go.ChangeShapes Go.WideShapes Go.ChangeAt Go.RowKit

theorem ownFnExactIsPatternFree : ownKnob Try.prog.godebug = none := by kernel_rfl
theorem laidFnExactIsPatternFree : laidOutB Try.prog = true := by kernel_rfl

set_option maxRecDepth 100000 in
theorem fnExactIsPatternFree_lifted (os : Os) (started : os.Started) (H : Type) (enc : TypeId × Value → H) :
    ReturnsInHanded {} Try.checked os 8 .any (Rows.fnExactIsPatternFreeSpec.pre6 enc Try.prog Try.f8 Rows.fnExactIsPatternFreeRow.domain false) (Rows.fnExactIsPatternFreeSpec.post enc Try.prog Try.f8 false true false false) := by
  refine returnsInHanded_of_change (C := Try.checked) ownFnExactIsPatternFree started (by kernel_rfl) Try.func8
    (ChangeSpec.witness6 (enc := enc) (C := Try.checked) false ⟨#[], #[.agg #[.int .i64 0, .int .u32 0, .int .u32 0, .slice none 0 0], .slice none 0 0], []⟩ 8 (by kernel_rfl) (by kernel_rfl) (by kernel_rfl) (by kernel_rfl)) ?_
  intro W base args ds gs before hval0 hW hcnd _
  have hds : ∃ d d', ds = [d, d'] := by
    obtain ⟨p, q, hA, _⟩ := hW
    have hA : DataW.TrodAll enc Try.prog W 0 (fun _ => true) true Try.f8.params.toList args.toList ds p := hA
    rw [Try.params8] at hA
    obtain ⟨_, _, d, d', _, _, _, h, _⟩ := trodAll_two hA
    exact ⟨d, d', h⟩
  obtain ⟨d, d', rfl⟩ := hds
  exact YtkgodhdpcomjbaaAi.law_post (m := 9) (tys := [YtkgodhdpcomjbaaAi.tyPattern, .sl YtkgodhdpcomjbaaAi.tyGraph]) laidFnExactIsPatternFree rfl rfl (by kernel_rfl) (by kernel_rfl) (by decide) YtkgodhdpcomjbaaAi.law_isPatternFree ⟨rfl, rfl, rfl⟩ (YtkgodhdpcomjbaaAi.good_none (by kernel_rfl)) hval0 hW

theorem fnExactIsPatternFree_holds : Rows.FnExactIsPatternFreeSaid :=
  OpenClaim.holds_of_wide 8 Try.f8 rfl rfl rfl rfl rfl rfl rfl ⟨rfl, rfl, rfl, rfl, rfl⟩ rfl rfl rfl rfl rfl (by kernel_rfl) Try.func8 (by kernel_rfl)
    (of_decide_eq_true (by kernel_rfl)) (by unfold Func.isWrapper; rw [if_neg (by decide +kernel)]; exact ⟨rfl, rfl⟩)
    (fun os started H enc _ => fnExactIsPatternFree_lifted os started H enc)

end Go.Proofs.Ytkgodhdpcomjbaa
