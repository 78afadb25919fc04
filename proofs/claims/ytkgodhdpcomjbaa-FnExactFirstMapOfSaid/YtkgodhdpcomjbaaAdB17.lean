/- Contracts: joined parts of patterns. (Under way.) -/
import Derived.Test.YtkgodhdpcomjbaaAdB12
import Derived.Test.YtkgodhdpcomjbaaAcG
namespace Go.Proofs.YtkgodhdpcomjbaaAi
open Go Go.RowKit
set_option linter.unusedVariables false
set_option linter.unusedSimpArgs false
set_option maxRecDepth 20000

noncomputable def sp_sizeOk : List AV → Option (AV) := pf (ι := (Int)) (α := AV) (fun n => True) (fun n => [.int .i64 n]) (fun n => .bool (decide (0 ≤ n) && decide (n ≤ 5)))
theorem sp_sizeOk_eq (n : Int) : sp_sizeOk [.int .i64 n] = some (.bool (decide (0 ≤ n) && decide (n ≤ 5))) := by
  unfold sp_sizeOk
  exact pf_eq (ι := (Int)) (α := AV) n trivial (by rintro n' _ e; simp_all [Int.natCast_inj])
attribute [simp] sp_sizeOk_eq
theorem q_impl_sizeOk : QP PP 78 sp_sizeOk := by
  refine QP_pf (fun n h => ?_) fun n h => ?_
  · exact ⟨by first | rfl | simp, by first | rfl | simp⟩
  replace h : True := h
  refine P_code (Quiet.q1 q_impl_in Quiet.nil) hmix k_impl_sizeOk rfl ?_ ?_
  · first | rfl | simp
  show wpc 0 PP _ c_impl_sizeOk (initSt [.int .i64 n] .nil) (endP r_impl_sizeOk (.bool (decide (0 ≤ n) && decide (n ≤ 5))))
  simp -dsimp -implicitDefEqProofs [c_impl_sizeOk, r_impl_sizeOk]
theorem shrBit {l i : Nat} (hl : l < 4294967296) (hi : i < 5) : (IntKind.u32.wrap ((((l : Int).fdiv (2 ^ min i IntKind.u32.bits) % 2 ^ IntKind.u32.bits).toNat &&& 1 % 2 ^ IntKind.u32.bits : Nat)) == 1) = l.testBit i := by
  have e0 : min i IntKind.u32.bits = i := Nat.min_eq_left (by simp only [IntKind.bits]; omega)
  have e1 : (2 : Int) ^ i = ((2 ^ i : Nat) : Int) := by simp
  have hq : l / 2 ^ i ≤ l := Nat.div_le_self _ _
  have e2 : ((l : Int).fdiv (2 ^ i) % 2 ^ IntKind.u32.bits).toNat = l / 2 ^ i := by
    rw [e1]
    generalize 2 ^ i = c at hq
    rw [Int.fdiv_eq_ediv_of_nonneg _ (Int.natCast_nonneg c), ← Int.natCast_ediv]
    generalize l / c = d at hq
    rw [Int.emod_eq_of_lt (by omega) (by simp only [IntKind.bits]; omega)]
    simp
  rw [e0, e2, show (1 : Nat) % 2 ^ IntKind.u32.bits = 1 from rfl, Nat.and_one_is_mod, wrap32 (by omega) (by omega), Nat.testBit_eq_decide_div_mod_eq]
  generalize l / 2 ^ i = d
  rw [Bool.eq_iff_iff, beq_iff_eq, decide_eq_true_eq]
  omega
def loopB (l i : Int) : Bool := l.toNat.testBit i.toNat
noncomputable def sp_loopP : List (Option (List AV)) → List AV → Option (AV × List (Option (List AV))) := pv (pf (ι := (Int) × (Int) × (Int) × (List Fr) × (Int)) (α := AV × List (Option (List AV))) (fun ⟨n, e, l, ps, i⟩ => (0 ≤ l ∧ l ≤ 4294967295) ∧ (0 ≤ i ∧ i < 5)) (fun i => .agg (((fun ⟨n, e, l, ps, i⟩ => [some [.int .i64 n, .int .u32 e, .int .u32 l, .sl (frsA ps) false]] : (Int) × (Int) × (Int) × (List Fr) × (Int) → List (Option (List AV))) i).map enO) :: (fun ⟨n, e, l, ps, i⟩ => [.ptr 0 0, .int .i64 i] : (Int) × (Int) × (Int) × (List Fr) × (Int) → List AV) i) (fun ⟨n, e, l, ps, i⟩ => (.bool (loopB l i), [some [.int .i64 n, .int .u32 e, .int .u32 l, .sl (frsA ps) false]])))
theorem sp_loopP_eq (n e l : Int) (ps : List Fr) (i : Int) (h : (0 ≤ l ∧ l ≤ 4294967295) ∧ (0 ≤ i ∧ i < 5)) : sp_loopP [some [.int .i64 n, .int .u32 e, .int .u32 l, .sl (frsA ps) false]] [.ptr 0 0, .int .i64 i] = some (.bool (loopB l i), [some [.int .i64 n, .int .u32 e, .int .u32 l, .sl (frsA ps) false]]) := by
  unfold sp_loopP pv
  exact pf_eq (ι := (Int) × (Int) × (Int) × (List Fr) × (Int)) (α := AV × List (Option (List AV))) (n, e, l, ps, i) h (by rintro ⟨n', e', l', ps', i'⟩ _ e; simp_all [enO])
theorem v_impl_Pattern_loop : QV PP 146 sp_loopP := by
  refine QV_pf fun i h => ?_
  obtain ⟨n, e, l, ps, i⟩ := i
  replace h : (0 ≤ l ∧ l ≤ 4294967295) ∧ (0 ≤ i ∧ i < 5) := h
  refine H_code Quiet.nil hmix k_impl_Pattern_loop rfl (fun b => b) (by simp [AHeap.n]) (fun _ _ => rfl) (by rfl) (by first | rfl | simp) ?_
  show wpc _ PP _ c_impl_Pattern_loop (initSt [.ptr 0 0, .int .i64 i] ⟨[some [.int .i64 n, .int .u32 e, .int .u32 l, .sl (frsA ps) false]]⟩) (endH (fun b => b) r_impl_Pattern_loop (.bool (loopB l i)) [some [.int .i64 n, .int .u32 e, .int .u32 l, .sl (frsA ps) false]])
  obtain ⟨⟨l0, l1⟩, i0, i1⟩ := h
  obtain ⟨m, rfl⟩ := Int.eq_ofNat_of_zero_le l0
  have hn : ¬ i < 0 := by omega
  have hb := shrBit (l := m) (i := i.toNat) (by omega) (by omega)
  simp -dsimp -implicitDefEqProofs [c_impl_Pattern_loop, r_impl_Pattern_loop, hn, hb, loopB, hsub]
def joinB (e l i j : Int) : Bool := if i = j then loopB l i else hasB e i j
noncomputable def sp_joinP : List (Option (List AV)) → List AV → Option (AV × List (Option (List AV))) := pv (pf (ι := (Int) × (Int) × (Int) × (List Fr) × (Int) × (Int)) (α := AV × List (Option (List AV))) (fun ⟨n, e, l, ps, i, j⟩ => ((0 ≤ e ∧ e ≤ 4294967295) ∧ (0 ≤ l ∧ l ≤ 4294967295)) ∧ (0 ≤ i ∧ i < 5) ∧ (0 ≤ j ∧ j < 5)) (fun i => .agg (((fun ⟨n, e, l, ps, i, j⟩ => [some [.int .i64 n, .int .u32 e, .int .u32 l, .sl (frsA ps) false]] : (Int) × (Int) × (Int) × (List Fr) × (Int) × (Int) → List (Option (List AV))) i).map enO) :: (fun ⟨n, e, l, ps, i, j⟩ => [.ptr 0 0, .int .i64 i, .int .i64 j] : (Int) × (Int) × (Int) × (List Fr) × (Int) × (Int) → List AV) i) (fun ⟨n, e, l, ps, i, j⟩ => (.bool (joinB e l i j), [some [.int .i64 n, .int .u32 e, .int .u32 l, .sl (frsA ps) false]])))
theorem sp_joinP_eq (n e l : Int) (ps : List Fr) (i j : Int) (h : ((0 ≤ e ∧ e ≤ 4294967295) ∧ (0 ≤ l ∧ l ≤ 4294967295)) ∧ (0 ≤ i ∧ i < 5) ∧ (0 ≤ j ∧ j < 5)) : sp_joinP [some [.int .i64 n, .int .u32 e, .int .u32 l, .sl (frsA ps) false]] [.ptr 0 0, .int .i64 i, .int .i64 j] = some (.bool (joinB e l i j), [some [.int .i64 n, .int .u32 e, .int .u32 l, .sl (frsA ps) false]]) := by
  unfold sp_joinP pv
  exact pf_eq (ι := (Int) × (Int) × (Int) × (List Fr) × (Int) × (Int)) (α := AV × List (Option (List AV))) (n, e, l, ps, i, j) h (by rintro ⟨n', e', l', ps', i', j'⟩ _ e; simp_all [enO])
theorem v_impl_Pattern_joined : QV PP 82 sp_joinP := by
  refine QV_pf fun i h => ?_
  obtain ⟨n, e, l, ps, i, j⟩ := i
  replace h : ((0 ≤ e ∧ e ≤ 4294967295) ∧ (0 ≤ l ∧ l ≤ 4294967295)) ∧ (0 ≤ i ∧ i < 5) ∧ (0 ≤ j ∧ j < 5) := h
  refine H_code (Quiet.q1 q_impl_Graph_has (Quiet.e1 v_impl_Pattern_loop.toE Quiet.nil)) hmix k_impl_Pattern_joined rfl (fun b => b) (by simp [AHeap.n]) (fun _ _ => rfl) (by rfl) (by first | rfl | simp) ?_
  show wpc _ PP _ c_impl_Pattern_joined (initSt [.ptr 0 0, .int .i64 i, .int .i64 j] ⟨[some [.int .i64 n, .int .u32 e, .int .u32 l, .sl (frsA ps) false]]⟩) (endH (fun b => b) r_impl_Pattern_joined (.bool (joinB e l i j)) [some [.int .i64 n, .int .u32 e, .int .u32 l, .sl (frsA ps) false]])
  by_cases hij : i = j
  · subst hij
    simp -dsimp -implicitDefEqProofs [c_impl_Pattern_joined, r_impl_Pattern_joined, sp_loopP_eq n e l ps i ⟨h.1.2, h.2.1⟩, joinB, hsub]
  · have hb : (i == j) = false := by simpa using hij
    simp -dsimp -implicitDefEqProofs [c_impl_Pattern_joined, r_impl_Pattern_joined, hb, hij, sp_has_eq n e i j ⟨h.1.1, h.2.1, h.2.2, hij⟩, joinB, hsub]
end Go.Proofs.YtkgodhdpcomjbaaAi
