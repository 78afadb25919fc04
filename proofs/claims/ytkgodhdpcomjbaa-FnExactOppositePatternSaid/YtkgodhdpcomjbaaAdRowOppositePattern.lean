/- Proved: the law FnExactOppositePattern returns true for every input and leaves its arguments as they were. Conditions: none. -/
import Derived.Test.YtkgodhdpcomjbaaRows
import Derived.ProofKit
import Derived.Test.YtkgodhdpcomjbaaAdB16
namespace Go.Proofs.Ytkgodhdpcomjbaa
open Go Go.ChangeShapes Go.WideShapes Go.ChangeAt Go.RowKit

theorem ownFnExactOppositePattern : ownKnob Try.prog.godebug = none := by kernel_rfl
theorem laidFnExactOppositePattern : laidOutB Try.prog = true := by kernel_rfl

set_option maxRecDepth 100000 in
theorem fnExactOppositePattern_lifted (os : Os) (started : os.Started) (H : Type) (enc : TypeId × Value → H) :
    ReturnsInHanded {} Try.checked os 3 .any (Rows.fnExactOppositePatternSpec.pre6 enc Try.prog Try.f3 Rows.fnExactOppositePatternRow.domain false) (Rows.fnExactOppositePatternSpec.post enc Try.prog Try.f3 false true false false) := by
  refine returnsInHanded_of_change (C := Try.checked) ownFnExactOppositePattern started (by kernel_rfl) Try.func3
    (ChangeSpec.witness6 (enc := enc) (C := Try.checked) false ⟨#[], #[.agg #[.int .i64 0, .int .u32 0, .int .u32 0, .slice none 0 0]], []⟩ 8 (by kernel_rfl) (by kernel_rfl) (by kernel_rfl) (by kernel_rfl)) ?_
  intro W base args ds gs before hval0 hW hcnd _
  have hds : ∃ d, ds = [d] := by
    obtain ⟨p, q, hA, _⟩ := hW
    have hA : DataW.TrodAll enc Try.prog W 0 (fun _ => true) true Try.f3.params.toList args.toList ds p := hA
    rw [Try.params3] at hA
    obtain ⟨v, d, _, h, _⟩ := trodAll_one hA
    exact ⟨d, h⟩
  obtain ⟨d, rfl⟩ := hds
  exact YtkgodhdpcomjbaaAi.law_post (m := 9) (tys := [YtkgodhdpcomjbaaAi.tyPattern]) laidFnExactOppositePattern rfl rfl (by kernel_rfl) (by kernel_rfl) (by decide) YtkgodhdpcomjbaaAi.law_oppositePattern ⟨rfl, rfl, rfl⟩ (YtkgodhdpcomjbaaAi.good_none (by kernel_rfl)) hval0 hW

theorem fnExactOppositePattern_holds : Rows.FnExactOppositePatternSaid :=
  OpenClaim.holds_of_wide 3 Try.f3 rfl rfl rfl rfl rfl rfl rfl ⟨rfl, rfl, rfl, rfl, rfl⟩ rfl rfl rfl rfl rfl (by kernel_rfl) Try.func3 (by kernel_rfl)
    (of_decide_eq_true (by kernel_rfl)) (by unfold Func.isWrapper; rw [if_neg (by decide +kernel)]; exact ⟨rfl, rfl⟩)
    (fun os started H enc _ => fnExactOppositePattern_lifted os started H enc)

end Go.Proofs.Ytkgodhdpcomjbaa
