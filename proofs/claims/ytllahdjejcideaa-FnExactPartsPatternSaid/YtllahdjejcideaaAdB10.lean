/- The law of EvenPattern. -/
import Derived.Test.YtllahdjejcideaaAdB3
import Derived.Test.YtllahdjejcideaaAdB5
import Derived.Test.YtllahdjejcideaaAdB9
namespace Go.Proofs.YtllahdjejcideaaAi
open Go Go.RowKit
set_option linter.unusedVariables false
set_option linter.unusedSimpArgs false
set_option maxRecDepth 20000

@[simp] theorem evenL_len (n : Int) : (evenL n).length = n.toNat := by simp [evenL]
abbrev tyGraph : Ty := .st [.int .i64, .int .u32]
theorem eqPat_refl (a b c : Int) (ps : List Fr) (h : ps.length ≤ maxLen) : sp_eqPattern [.agg [.int .i64 a, .int .u32 b, .int .u32 c, .sl (frsA ps) false], .agg [.int .i64 a, .int .u32 b, .int .u32 c, .sl (frsA ps) false]] = some (.bool true) := by
  rw [sp_eqPattern_eq a b c ps a b c ps h]; simp
theorem eqPat_nil (a b c : Int) : sp_eqPattern [.agg [.int .i64 a, .int .u32 b, .int .u32 c, .sl [] false], .agg [.int .i64 a, .int .u32 b, .int .u32 c, .sl [] false]] = some (.bool true) := eqPat_refl a b c [] (by simp [maxLen])
theorem heldPat_nil (a b c k : Int) (h : kOk k) : sp_heldPat [.agg [.int .i64 a, .int .u32 b, .int .u32 c, .sl [] false], .int .i64 k] = some (.int .i64 k) := by
  have := sp_heldPat_eq a b c 0 k ⟨h, by omega⟩
  simpa [marksF, mapA] using this
theorem k1_ok : kOk 1 := by unfold kOk; omega
theorem law_evenPattern (xs : List AV) (h : WtA [tyGraph, .int .u32] xs) : T PP 5 xs .nil fun r _ => r = .bool true := by
  simp only [WtA_cons, WtA_nil, tyGraph, WtV_st, WtL_int, WtL_nil, WtV_int] at h
  obtain ⟨_, _, rfl, ⟨_, rfl, n, _, rfl, _, e, _, rfl, he, rfl⟩, _, _, rfl, ⟨l, rfl, hl⟩, rfl⟩ := h
  have he : 0 ≤ e ∧ e ≤ 4294967295 := ⟨by simpa [IntKind.min, IntKind.signed] using he.1, by simpa [IntKind.max, IntKind.signed, IntKind.bits] using he.2⟩
  have hl : 0 ≤ l ∧ l ≤ 4294967295 := ⟨by simpa [IntKind.min, IntKind.signed] using hl.1, by simpa [IntKind.max, IntKind.signed, IntKind.bits] using hl.2⟩
  have hS := sp_evenS_eq n e l ⟨he, hl⟩
  have hI := sp_evenI_eq n e l ⟨he, hl⟩
  refine (P_code (r := .bool true) (Quiet.q1 q_laws_toGraph (Quiet.e1 q_laws_eqPattern.toR (Quiet.e1 n_spec_EvenPattern.toE (Quiet.e1 n_impl_EvenPattern.toE (Quiet.e1 e_laws_markPattern (Quiet.e1 q_laws_heldPattern.toR Quiet.nil)))))) hmix k_laws_FnExactEvenPattern rfl rfl ?_).mono fun r A' h => h.1
  cases hg : graphOk n e with
  | false =>
    simp only [evenR, hg, if_true, noPat] at hS hI
    simp -dsimp -implicitDefEqProofs [c_laws_FnExactEvenPattern, r_laws_FnExactEvenPattern, hS, hI, eqPat_nil, heldPat_nil, k1_ok]
  | true =>
    cases hlo : loopsOk n l with
    | false =>
      simp only [evenR, hg, hlo, if_true, noPat, Bool.true_eq_false, if_false] at hS hI
      simp -dsimp -implicitDefEqProofs [c_laws_FnExactEvenPattern, r_laws_FnExactEvenPattern, hS, hI, eqPat_nil, heldPat_nil, k1_ok]
    | true =>
      simp only [evenR, hg, hlo, if_true, noPat, Bool.true_eq_false, if_false] at hS hI
      obtain ⟨n1, n4⟩ := loops_n hlo
      have hm := sp_markPat_eq n e l (evenL n) 1 .tight ⟨k1_ok, by simp; omega⟩
      have hh := sp_heldPat_eq n e l n.toNat 1 ⟨k1_ok, by omega⟩
      have hq := eqPat_refl n e l (evenL n) (by simp [maxLen]; omega)
      simp only [evenL_len] at hm
      have hneg : ¬ (1 + 2 * max n 0 < 0) := by omega
      simp -dsimp -implicitDefEqProofs [c_laws_FnExactEvenPattern, r_laws_FnExactEvenPattern, hS, hI, hm, hh, hq, hneg]
end Go.Proofs.YtllahdjejcideaaAi
