/- The law of PartsPattern. -/
import Derived.Test.YtllahdjejcideaaAdB10
import Derived.Test.YtllahdjejcideaaAdB8
namespace Go.Proofs.YtllahdjejcideaaAi
open Go Go.RowKit
set_option linter.unusedVariables false
set_option linter.unusedSimpArgs false
set_option maxRecDepth 20000

theorem law_partsPattern (xs : List AV) (h : WtA [.int .i64] xs) : T PP 6 xs .nil fun r _ => r = .bool true := by
  simp only [WtA_cons, WtA_nil, WtV_int] at h
  obtain ⟨_, _, rfl, ⟨k, rfl, _⟩, rfl⟩ := h
  have hS := sp_partsS_eq k
  have hI := sp_partsI_eq k
  refine (P_code (r := .bool true) (Quiet.e1 q_laws_eqPattern.toR (Quiet.e1 e_laws_markPattern (Quiet.e1 q_laws_heldPattern.toR (Quiet.e1 n_spec_PartsPattern.toE (Quiet.e1 n_impl_PartsPattern.toE Quiet.nil))))) hmix k_laws_FnExactPartsPattern rfl rfl ?_).mono fun r A' h => h.1
  by_cases hk : 1 ≤ k ∧ k ≤ 4
  · simp only [partsR, hk, and_self, if_true] at hS hI
    generalize ((2 ^ (k.toNat * (k.toNat - 1) / 2) - 1 : Nat) : Int) = e at hS hI
    have hm := sp_markPat_eq k e 0 (evenL k) 1 .tight ⟨k1_ok, by simp; omega⟩
    have hh := sp_heldPat_eq k e 0 k.toNat 1 ⟨k1_ok, by omega⟩
    have hq := eqPat_refl k e 0 (evenL k) (by simp [maxLen]; omega)
    simp only [evenL_len] at hm
    have hneg : ¬ (1 + 2 * max k 0 < 0) := by omega
    simp -dsimp -implicitDefEqProofs [c_laws_FnExactPartsPattern, r_laws_FnExactPartsPattern, hS, hI, hm, hh, hq, hneg]
  · rw [partsR, if_neg hk] at hS hI
    simp only [noPat] at hS hI
    simp -dsimp -implicitDefEqProofs [c_laws_FnExactPartsPattern, r_laws_FnExactPartsPattern, hS, hI, eqPat_nil, heldPat_nil, k1_ok]
end Go.Proofs.YtllahdjejcideaaAi
