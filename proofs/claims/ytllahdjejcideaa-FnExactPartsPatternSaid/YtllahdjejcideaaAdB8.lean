/- Contracts: patterns of parts that are all joined. -/
import Derived.Test.YtllahdjejcideaaAdB7
namespace Go.Proofs.YtllahdjejcideaaAi
open Go Go.RowKit
set_option linter.unusedVariables false
set_option linter.unusedSimpArgs false
set_option maxRecDepth 20000

noncomputable def sp_yesF : List AV → Option (AV) := pf (ι := (Int) × (Int)) (α := AV) (fun ⟨i, j⟩ => True) (fun ⟨i, j⟩ => [.int .i64 i, .int .i64 j]) (fun ⟨i, j⟩ => .bool true)
theorem sp_yesF_eq (i j : Int) : sp_yesF [.int .i64 i, .int .i64 j] = some (.bool true) := by
  unfold sp_yesF
  exact pf_eq (ι := (Int) × (Int)) (α := AV) (i, j) trivial (by rintro ⟨i', j'⟩ _ e; simp_all)
attribute [simp] sp_yesF_eq
theorem q_impl_PartsPattern_1 : QP PP 43 sp_yesF := by
  refine QP_pf (fun i h => ?_) fun i h => ?_
  · obtain ⟨i, j⟩ := i; exact ⟨by first | rfl | simp, by first | rfl | simp⟩
  obtain ⟨i, j⟩ := i
  replace h : True := h
  refine P_code Quiet.nil hmix k_impl_PartsPattern_1 rfl ?_ ?_
  · first | rfl | simp
  show wpc 0 PP _ c_impl_PartsPattern_1 (initSt [.int .i64 i, .int .i64 j] .nil) (endP r_impl_PartsPattern_1 (.bool true))
  simp -dsimp -implicitDefEqProofs [c_impl_PartsPattern_1, r_impl_PartsPattern_1]
noncomputable def sp_madeYes : List AV → Option (AV) := pf (ι := (Int)) (α := AV) (fun n => 0 ≤ n ∧ n ≤ 5) (fun n => [.int .i64 n, .fn 43 []]) (fun n => .agg [.int .i64 n, .int .u32 (2 ^ (n.toNat * (n.toNat - 1) / 2) - 1 : Nat)])
theorem sp_madeYes_eq (n : Int) (h : 0 ≤ n ∧ n ≤ 5) : sp_madeYes [.int .i64 n, .fn 43 []] = some (.agg [.int .i64 n, .int .u32 (2 ^ (n.toNat * (n.toNat - 1) / 2) - 1 : Nat)]) := by
  unfold sp_madeYes
  exact pf_eq (ι := (Int)) (α := AV) n h (by rintro n' _ e; simp_all)
theorem q_madeYes : QP PP 42 sp_madeYes := by
  refine QP_pf (fun n h => ⟨rfl, rfl⟩) fun n h => ?_
  replace h : 0 ≤ n ∧ n ≤ 5 := h
  obtain ⟨m, rfl⟩ := Int.eq_ofNat_of_zero_le h.1
  refine (T_made (os := []) (g := 43) (caps := []) yes m (by omega) ClosedH.nil rfl (fun i j _ _ => ?_)).mono ?_
  · exact (q_impl_PartsPattern_1 _ _ (sp_yesF_eq i j)).2
  · rintro r A' ⟨rfl, rfl⟩
    rw [made_yes m (by omega)]
    exact ⟨rfl, rfl⟩

theorem tri_pow {n : Int} (h : 0 ≤ n ∧ n ≤ 5) : n = 0 ∨ n = 1 ∨ n = 2 ∨ n = 3 ∨ n = 4 ∨ n = 5 := by omega
def compR (n : Int) : AV := if 0 ≤ n ∧ n ≤ 5 then .tup [.agg [.int .i64 n, .int .u32 (2 ^ (n.toNat * (n.toNat - 1) / 2) - 1 : Nat)], .int .i64 0] else .tup [.agg [.int .i64 0, .int .u32 0], .int .i64 2]
@[simp] theorem compR_lt (n : Int) (k : Nat) : (compR n).lt k = true := by unfold compR; split <;> rfl
noncomputable def sp_CompleteGraph : List AV → Option (AV) := pf (ι := (Int)) (α := AV) (fun n => True) (fun n => [.int .i64 n]) (fun n => compR n)
theorem sp_CompleteGraph_eq (n : Int) : sp_CompleteGraph [.int .i64 n] = some (compR n) := by
  unfold sp_CompleteGraph
  exact pf_eq (ι := (Int)) (α := AV) n trivial (by rintro n' _ e; simp_all)
attribute [simp] sp_CompleteGraph_eq
theorem q_spec_CompleteGraph : QP PP 41 sp_CompleteGraph := by
  refine QP_pf (fun n h => ?_) fun n h => ?_
  · exact ⟨by first | rfl | simp, by first | rfl | simp⟩
  replace h : True := h
  refine P_code (Quiet.q1 q_spec_l00In (Quiet.q1 q_spec_l01Bits Quiet.nil)) hmix k_spec_CompleteGraph rfl ?_ ?_
  · first | rfl | simp
  show wpc 0 PP _ c_spec_CompleteGraph (initSt [.int .i64 n] .nil) (endP r_spec_CompleteGraph (compR n))
  by_cases hn : 0 ≤ n ∧ n ≤ 5
  · have hr : compR n = .tup [.agg [.int .i64 n, .int .u32 (2 ^ (n.toNat * (n.toNat - 1) / 2) - 1 : Nat)], .int .i64 0] := if_pos hn
    rw [hr]
    rcases tri_pow hn with rfl | rfl | rfl | rfl | rfl | rfl <;> simp -dsimp -implicitDefEqProofs [c_spec_CompleteGraph, r_spec_CompleteGraph, sp_pairs_eq, pI0, pI1, pI2, pI3, pI4, pI5, IntKind.wrap, IntKind.bits, IntKind.signed]
  · have hr : compR n = .tup [.agg [.int .i64 0, .int .u32 0], .int .i64 2] := if_neg hn
    rw [hr]
    have hv : (decide (0 ≤ n) && decide (n ≤ 5)) = false := by simpa using hn
    simp -dsimp -implicitDefEqProofs [c_spec_CompleteGraph, r_spec_CompleteGraph, hv]

def partsR (t : Cp) (k : Int) : AV × List (Option (List AV)) := if 1 ≤ k ∧ k ≤ 4 then
    (.tup [.agg [.int .i64 k, .int .u32 (2 ^ (k.toNat * (k.toNat - 1) / 2) - 1 : Nat), .int .u32 0, .ref 0 2 0 k.toNat t], .int .i64 0], [some (flatA (frsA (evenL k)))])
  else (noPat 2, [])
theorem yes_ok {k : Int} (h : 1 ≤ k ∧ k ≤ 4) : graphOk k (2 ^ (k.toNat * (k.toNat - 1) / 2) - 1 : Nat) = true ∧ loopsOk k 0 = true := by
  have h5 : k = 1 ∨ k = 2 ∨ k = 3 ∨ k = 4 := by omega
  rcases h5 with rfl | rfl | rfl | rfl <;> decide
noncomputable def sp_partsI : List AV → Option (AV × List (Option (List AV))) := pf (ι := (Int)) (α := AV × List (Option (List AV))) (fun k => True) (fun k => [.int .i64 k]) (fun k => partsR .tight k)
theorem sp_partsI_eq (k : Int) : sp_partsI [.int .i64 k] = some (partsR .tight k) := by
  unfold sp_partsI
  exact pf_eq (ι := (Int)) (α := AV × List (Option (List AV))) k trivial (by rintro k' _ e; simp_all)
attribute [simp] sp_partsI_eq
noncomputable def sp_partsS : List AV → Option (AV × List (Option (List AV))) := pf (ι := (Int)) (α := AV × List (Option (List AV))) (fun k => True) (fun k => [.int .i64 k]) (fun k => partsR .full k)
theorem sp_partsS_eq (k : Int) : sp_partsS [.int .i64 k] = some (partsR .full k) := by
  unfold sp_partsS
  exact pf_eq (ι := (Int)) (α := AV × List (Option (List AV))) k trivial (by rintro k' _ e; simp_all)
attribute [simp] sp_partsS_eq
theorem n_impl_PartsPattern : QN PP 22 sp_partsI := by
  refine QN_pf (fun k h => ?_) fun k h => ?_
  · first | rfl | simp
  replace h : True := h
  show T PP 22 [.int .i64 k] .nil fun r' A' => r' = ((partsR .tight k : AV × List (Option (List AV)))).1 ∧ A' = ⟨((partsR .tight k : AV × List (Option (List AV)))).2⟩
  by_cases hk : 1 ≤ k ∧ k ≤ 4
  · rw [show partsR .tight k = (.tup [.agg [.int .i64 k, .int .u32 (2 ^ (k.toNat * (k.toNat - 1) / 2) - 1 : Nat), .int .u32 0, .ref 0 2 0 k.toNat .tight], .int .i64 0], [some (flatA (frsA (evenL k)))]) from if_pos hk]
    refine H_code (Quiet.q1 q_impl_in (Quiet.q1 q_madeYes (Quiet.e1 n_impl_even.toE Quiet.nil))) hmix k_impl_PartsPattern rfl (fun _ => 1) (by simp [AHeap.n, AHeap.nil]) (by intro b hb; simp [AHeap.n, AHeap.nil] at hb) (by rfl) (by rfl) ?_
    have hm := sp_madeYes_eq k (by omega)
    simp -dsimp -implicitDefEqProofs [c_impl_PartsPattern, r_impl_PartsPattern, hk.1, hk.2, hm, sp_even_eq _ _ _ hk, hsub]
  · rw [show partsR .tight k = (noPat 2, []) from if_neg hk]
    have hv : (decide (1 ≤ k) && decide (k ≤ 4)) = false := by simpa using hk
    refine H_code (Quiet.q1 q_impl_in (Quiet.q1 q_madeYes (Quiet.e1 n_impl_even.toE Quiet.nil))) hmix k_impl_PartsPattern rfl (fun _ => 0) (by simp [AHeap.n, AHeap.nil]) (by intro b hb; simp [AHeap.n, AHeap.nil] at hb) (by rfl) (by rfl) ?_
    simp -dsimp -implicitDefEqProofs [c_impl_PartsPattern, r_impl_PartsPattern, hv, hsub, noPat]
theorem n_spec_PartsPattern : QN PP 21 sp_partsS := by
  refine QN_pf (fun k h => ?_) fun k h => ?_
  · first | rfl | simp
  replace h : True := h
  show T PP 21 [.int .i64 k] .nil fun r' A' => r' = ((partsR .full k : AV × List (Option (List AV)))).1 ∧ A' = ⟨((partsR .full k : AV × List (Option (List AV)))).2⟩
  by_cases hk : 1 ≤ k ∧ k ≤ 4
  · rw [show partsR .full k = (.tup [.agg [.int .i64 k, .int .u32 (2 ^ (k.toNat * (k.toNat - 1) / 2) - 1 : Nat), .int .u32 0, .ref 0 2 0 k.toNat .full], .int .i64 0], [some (flatA (frsA (evenL k)))]) from if_pos hk]
    refine H_code (Quiet.q1 q_spec_l00In (Quiet.q1 q_spec_CompleteGraph (Quiet.e1 n_spec_EvenPattern.toE Quiet.nil))) hmix k_spec_PartsPattern rfl (fun _ => 2) (by simp [AHeap.n, AHeap.nil]) (by intro b hb; simp [AHeap.n, AHeap.nil] at hb <;> subst hb <;> rfl) (by rfl) (by first | rfl | simp) ?_
    have hr : compR k = .tup [.agg [.int .i64 k, .int .u32 (2 ^ (k.toNat * (k.toNat - 1) / 2) - 1 : Nat)], .int .i64 0] := if_pos (by omega)
    obtain ⟨g1, g2⟩ := yes_ok hk
    have hb : ((2 ^ (k.toNat * (k.toNat - 1) / 2) - 1 : Nat) : Int) ≤ 4294967295 := by
      have h5 : k = 1 ∨ k = 2 ∨ k = 3 ∨ k = 4 := by omega
      rcases h5 with rfl | rfl | rfl | rfl <;> decide
    have he := sp_evenS_eq k (2 ^ (k.toNat * (k.toNat - 1) / 2) - 1 : Nat) 0 ⟨⟨by omega, hb⟩, by omega, by omega⟩
    rw [evenR, if_neg (by rw [g1]; decide), if_neg (by rw [g2]; decide)] at he
    simp -dsimp -implicitDefEqProofs [c_spec_PartsPattern, r_spec_PartsPattern, hk.1, hk.2, hr, he, hsub]
  · rw [show partsR .full k = (noPat 2, []) from if_neg hk]
    have hv : (decide (1 ≤ k) && decide (k ≤ 4)) = false := by simpa using hk
    refine H_code (Quiet.q1 q_spec_l00In (Quiet.q1 q_spec_CompleteGraph (Quiet.e1 n_spec_EvenPattern.toE Quiet.nil))) hmix k_spec_PartsPattern rfl (fun _ => 0) (by simp [AHeap.n, AHeap.nil]) (by intro b hb; simp [AHeap.n, AHeap.nil] at hb <;> subst hb <;> rfl) (by rfl) (by first | rfl | simp) ?_
    simp -dsimp -implicitDefEqProofs [c_spec_PartsPattern, r_spec_PartsPattern, hv, hsub, noPat]
end Go.Proofs.YtllahdjejcideaaAi
