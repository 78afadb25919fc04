/- Proved: the law FnExactDensityIn returns true for every input and leaves its arguments as they were. Conditions: none. -/
import Derived.Test.YtkgodhdpcomjbaaRows
import Derived.ProofKit
import Derived.Test.YtkgodhdpcomjbaaMdn5
namespace Go.Proofs.Ytkgodhdpcomjbaa
open Go Go.ChangeShapes Go.WideShapes Go.ChangeAt Go.RowKit

theorem ownFnExactDensityIn : ownKnob Try.prog.godebug = none := by kernel_rfl
theorem laidFnExactDensityIn : laidOutB Try.prog = true := by kernel_rfl

set_option maxRecDepth 100000 in
theorem fnExactDensityIn_lifted (os : Os) (started : os.Started) (H : Type) (enc : TypeId × Value → H) :
    ReturnsInHanded {} Try.checked os 10 .any (Rows.fnExactDensityInSpec.pre6 enc Try.prog Try.f10 Rows.fnExactDensityInRow.domain false) (Rows.fnExactDensityInSpec.post enc Try.prog Try.f10 false true false false) := by
  refine returnsInHanded_of_change (C := Try.checked) ownFnExactDensityIn started (by kernel_rfl) Try.func10
    (ChangeSpec.witness6 (enc := enc) (C := Try.checked) false ⟨#[], #[.agg #[.int .i64 0, .int .u32 0, .int .u32 0, .slice none 0 0], .agg #[.int .i64 0, .int .u32 0]], []⟩ 8 (by kernel_rfl) (by kernel_rfl) (by kernel_rfl) (by kernel_rfl)) ?_
  intro W base args ds gs before hval0 hW hcnd _
  have hds : ∃ d d', ds = [d, d'] := by
    obtain ⟨p, q, hA, _⟩ := hW
    have hA : DataW.TrodAll enc Try.prog W 0 (fun _ => true) true Try.f10.params.toList args.toList ds p := hA
    rw [Try.params10] at hA
    obtain ⟨_, _, d, d', _, _, _, h, _⟩ := trodAll_two hA
    exact ⟨d, d', h⟩
  obtain ⟨d, d', rfl⟩ := hds
  exact YtkgodhdpcomjbaaAi.law_post (m := 9) (tys := [YtkgodhdpcomjbaaAi.tyPattern, YtkgodhdpcomjbaaAi.tyGraph]) laidFnExactDensityIn rfl rfl (by kernel_rfl) (by kernel_rfl) (by decide) YtkgodhdpcomjbaaAi.law_densityIn ⟨rfl, rfl, rfl⟩ (YtkgodhdpcomjbaaAi.good_none (by kernel_rfl)) hval0 hW

theorem fnExactDensityIn_holds : Rows.FnExactDensityInSaid :=
  OpenClaim.holds_of_wide 10 Try.f10 rfl rfl rfl rfl rfl rfl rfl ⟨rfl, rfl, rfl, rfl, rfl⟩ rfl rfl rfl rfl rfl (by kernel_rfl) Try.func10 (by kernel_rfl)
    (of_decide_eq_true (by kernel_rfl)) (by unfold Func.isWrapper; rw [if_neg (by decide +kernel)]; exact ⟨rfl, rfl⟩)
    (fun os started H enc _ => fnExactDensityIn_lifted os started H enc)

end Go.Proofs.Ytkgodhdpcomjbaa
