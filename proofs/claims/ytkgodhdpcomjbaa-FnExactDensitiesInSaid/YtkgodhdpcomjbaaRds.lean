/- Proved: the law FnExactDensitiesIn returns true for every input and leaves its arguments as they were. Conditions: none. -/
import Derived.Test.YtkgodhdpcomjbaaRows
import Derived.ProofKit
import Derived.Test.YtkgodhdpcomjbaaMds5
namespace Go.Proofs.Ytkgodhdpcomjbaa
open Go Go.ChangeShapes Go.WideShapes Go.ChangeAt Go.RowKit

theorem ownFnExactDensitiesIn : ownKnob Try.prog.godebug = none := by kernel_rfl
theorem laidFnExactDensitiesIn : laidOutB Try.prog = true := by kernel_rfl

set_option maxRecDepth 100000 in
theorem fnExactDensitiesIn_lifted (os : Os) (started : os.Started) (H : Type) (enc : TypeId × Value → H) :
    ReturnsInHanded {} Try.checked os 12 .any (Rows.fnExactDensitiesInSpec.pre6 enc Try.prog Try.f12 Rows.fnExactDensitiesInRow.domain false) (Rows.fnExactDensitiesInSpec.post enc Try.prog Try.f12 false true false false) := by
  refine returnsInHanded_of_change (C := Try.checked) ownFnExactDensitiesIn started (by kernel_rfl) Try.func12
    (ChangeSpec.witness6 (enc := enc) (C := Try.checked) false ⟨#[], #[.agg #[.int .i64 0, .int .u32 0, .int .u32 0, .slice none 0 0], .int .i64 0], []⟩ 8 (by kernel_rfl) (by kernel_rfl) (by kernel_rfl) (by kernel_rfl)) ?_
  intro W base args ds gs before hval0 hW hcnd _
  have hds : ∃ d d', ds = [d, d'] := by
    obtain ⟨p, q, hA, _⟩ := hW
    have hA : DataW.TrodAll enc Try.prog W 0 (fun _ => true) true Try.f12.params.toList args.toList ds p := hA
    rw [Try.params12] at hA
    obtain ⟨_, _, d, d', _, _, _, h, _⟩ := trodAll_two hA
    exact ⟨d, d', h⟩
  obtain ⟨d, d', rfl⟩ := hds
  exact YtkgodhdpcomjbaaAi.law_post (m := 9) (tys := [YtkgodhdpcomjbaaAi.tyPattern, .int .i64]) laidFnExactDensitiesIn rfl rfl (by kernel_rfl) (by kernel_rfl) (by decide) YtkgodhdpcomjbaaAi.law_densitiesIn ⟨rfl, rfl, rfl⟩ (YtkgodhdpcomjbaaAi.good_none (by kernel_rfl)) hval0 hW

theorem fnExactDensitiesIn_holds : Rows.FnExactDensitiesInSaid :=
  OpenClaim.holds_of_wide 12 Try.f12 rfl rfl rfl rfl rfl rfl rfl ⟨rfl, rfl, rfl, rfl, rfl⟩ rfl rfl rfl rfl rfl (by kernel_rfl) Try.func12 (by kernel_rfl)
    (of_decide_eq_true (by kernel_rfl)) (by unfold Func.isWrapper; rw [if_neg (by decide +kernel)]; exact ⟨rfl, rfl⟩)
    (fun os started H enc _ => fnExactDensitiesIn_lifted os started H enc)

end Go.Proofs.Ytkgodhdpcomjbaa
