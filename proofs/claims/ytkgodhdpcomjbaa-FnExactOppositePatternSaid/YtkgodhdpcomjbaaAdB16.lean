/- The law of OppositePattern. -/
import Derived.Test.YtkgodhdpcomjbaaAdB3
import Derived.Test.YtkgodhdpcomjbaaAdB14
import Derived.Test.YtkgodhdpcomjbaaAdB15
import Derived.Test.YtkgodhdpcomjbaaAdB10
namespace Go.Proofs.YtkgodhdpcomjbaaAi
open Go Go.RowKit
set_option linter.unusedVariables false
set_option linter.unusedSimpArgs false
set_option maxRecDepth 20000

set_option maxHeartbeats 2000000 in
theorem law_oppositePattern (xs : List AV) (h : WtA [tyPattern] xs) : T PP 3 xs .nil fun r _ => r = .bool true := by
  simp only [WtA_cons, WtA_nil] at h
  obtain ⟨x, _, rfl, hx, rfl⟩ := h
  obtain ⟨n, e, l, ps, rfl, h⟩ := wt_pattern hx
  refine (P_code (r := .bool true) (Quiet.q1 q_laws_szPattern (Quiet.e1 n_spec_OppositePattern.toR (Quiet.e1 n_laws_toPattern.toE (Quiet.e1 n_impl_OppositePattern.toR (Quiet.e1 q_laws_eqPattern.toR (Quiet.e1 e_laws_markPattern (Quiet.e1 q_laws_heldPattern.toR Quiet.nil))))))) hmix k_laws_FnExactOppositePattern rfl rfl ?_).mono fun r A' h => h.1
  by_cases c : (ps.length : Int) ≤ 1048576
  · have c2 : ¬ ((1048576 : Int) - ps.length < 0) := by omega
    have hT := sp_toPatN_eq n e l ps (by omega)
    have hO := sp_oppP_eq n e l ps h
    have hq := eqPat_refl n e l ps h.2.2
    have hm := fun t => sp_markPat_eq n e l ps 1 t ⟨k1_ok, by omega⟩
    have hneg : ¬ (1 + 2 * (ps.length : Int) < 0) := by omega
    cases hv : patOk n e l ps with
    | false =>
      simp only [oppR, hv, Bool.false_eq_true, if_false, noPat] at hO
      simp -dsimp -implicitDefEqProofs [c_laws_FnExactOppositePattern, r_laws_FnExactOppositePattern, sp_szPattern_eq n e l ps 1048576 ⟨by omega, by omega, h.2.2⟩, c, c2, hT, hO, hq, hm, hneg, eqPat_nil, heldPat_nil, k1_ok]
    | true =>
      simp only [oppR, hv, if_true] at hO
      generalize (notE e n : Int) = E at hO
      generalize (2 : Int) ^ n.toNat - 1 - l = L at hO
      have hq2 := eqPat_refl n E L ps h.2.2
      have hm2 := fun t => sp_markPat_eq n E L ps 1 t ⟨k1_ok, by omega⟩
      have hh := sp_heldPat_eq n E L ps.length 1 ⟨k1_ok, by omega⟩
      simp -dsimp -implicitDefEqProofs [c_laws_FnExactOppositePattern, r_laws_FnExactOppositePattern, sp_szPattern_eq n e l ps 1048576 ⟨by omega, by omega, h.2.2⟩, c, c2, hT, hO, hq, hm, hneg, hq2, hm2, hh]
  · simp -dsimp -implicitDefEqProofs [c_laws_FnExactOppositePattern, r_laws_FnExactOppositePattern, sp_szPattern_eq n e l ps 1048576 ⟨by omega, by omega, h.2.2⟩, c]
end Go.Proofs.YtkgodhdpcomjbaaAi
