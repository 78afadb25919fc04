/- Contracts: the graph with all edges. -/
import Derived.Test.YtkgodhdpcomjbaaAdNat
namespace Go.Proofs.YtkgodhdpcomjbaaAi
open Go Go.RowKit
set_option linter.unusedVariables false
set_option linter.unusedSimpArgs false
set_option maxRecDepth 20000

theorem tri_pow {n : Int} (h : 0 ≤ n ∧ n ≤ 5) : n = 0 ∨ n = 1 ∨ n = 2 ∨ n = 3 ∨ n = 4 ∨ n = 5 := by omega
def compR (n : Int) : AV := if 0 ≤ n ∧ n ≤ 5 then .tup [.agg [.int .i64 n, .int .u32 (2 ^ (n.toNat * (n.toNat - 1) / 2) - 1 : Nat)], .int .i64 0] else .tup [.agg [.int .i64 0, .int .u32 0], .int .i64 2]
@[simp] theorem compR_lt (n : Int) (k : Nat) : (compR n).lt k = true := by unfold compR; split <;> rfl
noncomputable def sp_CompleteGraph : List AV → Option (AV) := pf (ι := (Int)) (α := AV) (fun n => True) (fun n => [.int .i64 n]) (fun n => compR n)
theorem sp_CompleteGraph_eq (n : Int) : sp_CompleteGraph [.int .i64 n] = some (compR n) := by
  unfold sp_CompleteGraph
  exact pf_eq (ι := (Int)) (α := AV) n trivial (by rintro n' _ e; simp_all [Int.natCast_inj])
attribute [simp] sp_CompleteGraph_eq
theorem q_spec_CompleteGraph : QP PP 130 sp_CompleteGraph := by
  refine QP_pf (fun n h => ?_) fun n h => ?_
  · exact ⟨by first | rfl | simp, by first | rfl | simp⟩
  replace h : True := h
  refine P_code (Quiet.q1 q_spec_l00In (Quiet.q1 q_spec_l01Bits Quiet.nil)) hmix k_spec_CompleteGraph rfl ?_ ?_
  · first | rfl | simp
  show wpc 0 PP _ c_spec_CompleteGraph (initSt [.int .i64 n] .nil) (endP r_spec_CompleteGraph (compR n))
  by_cases hn : 0 ≤ n ∧ n ≤ 5
  · have hr : compR n = .tup [.agg [.int .i64 n, .int .u32 (2 ^ (n.toNat * (n.toNat - 1) / 2) - 1 : Nat)], .int .i64 0] := if_pos hn
    rw [hr]
    rcases tri_pow hn with rfl | rfl | rfl | rfl | rfl | rfl <;> simp -dsimp -implicitDefEqProofs [c_spec_CompleteGraph, r_spec_CompleteGraph, sp_pairs_eq, pI0, pI1, pI2, pI3, pI4, pI5, IntKind.wrap, IntKind.bits, IntKind.signed]
  · have hr : compR n = .tup [.agg [.int .i64 0, .int .u32 0], .int .i64 2] := if_neg hn
    rw [hr]
    have hv : (decide (0 ≤ n) && decide (n ≤ 5)) = false := by simpa using hn
    simp -dsimp -implicitDefEqProofs [c_spec_CompleteGraph, r_spec_CompleteGraph, hv]

end Go.Proofs.YtkgodhdpcomjbaaAi
