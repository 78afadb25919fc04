/- Contracts: joined vertices, as the reference has them. (Under way.) -/
import Derived.Test.YtkgodhdpcomjbaaAdB17
namespace Go.Proofs.YtkgodhdpcomjbaaAi
open Go Go.RowKit
set_option linter.unusedVariables false
set_option linter.unusedSimpArgs false
set_option maxRecDepth 20000

/-- A contract that says nothing: for a call that does not come. -/
theorem QP.none (P : Program) (f : FuncId) : QP P f (fun _ => Option.none) := fun _ _ h => by cases h
noncomputable def sp_bitLe : List AV → Option (AV) := pf (ι := (Int) × (Int)) (α := AV) (fun ⟨i, j⟩ => (0 ≤ i ∧ i ≤ 5) ∧ (0 ≤ j ∧ j ≤ 5) ∧ i ≤ j) (fun ⟨i, j⟩ => [.int .i64 i, .int .i64 j]) (fun ⟨i, j⟩ => .int .u32 (2 ^ bitI i.toNat j.toNat))
theorem sp_bitLe_eq (i j : Int) (h : (0 ≤ i ∧ i ≤ 5) ∧ (0 ≤ j ∧ j ≤ 5) ∧ i ≤ j) : sp_bitLe [.int .i64 i, .int .i64 j] = some (.int .u32 (2 ^ bitI i.toNat j.toNat)) := by
  unfold sp_bitLe
  exact pf_eq (ι := (Int) × (Int)) (α := AV) (i, j) h (by rintro ⟨i', j'⟩ _ e; simp_all [Int.natCast_inj])
theorem q_bitLe : QP PP 75 sp_bitLe := by
  refine QP_pf (fun i h => ?_) fun i h => ?_
  · obtain ⟨i, j⟩ := i; exact ⟨rfl, rfl⟩
  obtain ⟨i, j⟩ := i
  replace h : (0 ≤ i ∧ i ≤ 5) ∧ (0 ≤ j ∧ j ≤ 5) ∧ i ≤ j := h
  refine P_code (Quiet.q1 (QP.none PP 75) (Quiet.q1 q_spec_l01Bits Quiet.nil)) hmix k_spec_l01Bit rfl rfl ?_
  obtain ⟨⟨i0, i1⟩, ⟨j0, j1⟩, hij⟩ := h
  have hj : j = 0 ∨ j = 1 ∨ j = 2 ∨ j = 3 ∨ j = 4 ∨ j = 5 := by omega
  have hi : i = 0 ∨ i = 1 ∨ i = 2 ∨ i = 3 ∨ i = 4 ∨ i = 5 := by omega
  rcases hi with rfl | rfl | rfl | rfl | rfl | rfl <;> rcases hj with rfl | rfl | rfl | rfl | rfl | rfl <;> first | (exfalso; omega) | simp -dsimp -implicitDefEqProofs [c_spec_l01Bit, r_spec_l01Bit, sp_pairs_eq, pI0, pI1, pI2, pI3, pI4, pI5, bitI, IntKind.wrap, IntKind.bits, IntKind.signed]
theorem q_spec_l01Bit : QP PP 75 sp_bit := by
  refine QP_pf (fun i h => ?_) fun i h => ?_
  · obtain ⟨i, j⟩ := i; exact ⟨rfl, rfl⟩
  obtain ⟨i, j⟩ := i
  replace h : (0 ≤ i ∧ i ≤ 5) ∧ (0 ≤ j ∧ j ≤ 5) := h
  by_cases hij : i ≤ j
  · exact (q_bitLe _ _ (sp_bitLe_eq i j ⟨h.1, h.2, hij⟩)).2
  · refine P_code (Quiet.q1 q_bitLe (Quiet.q1 q_spec_l01Bits Quiet.nil)) hmix k_spec_l01Bit rfl rfl ?_
    have hlt : j < i := by omega
    simp -dsimp -implicitDefEqProofs [c_spec_l01Bit, r_spec_l01Bit, hlt, sp_bitLe_eq j i ⟨h.2, h.1, by omega⟩, bitI_c (i := j.toNat) (j := i.toNat)]
def joinedB (e i j : Int) : Bool := decide (i ≠ j) && hasB e i j
noncomputable def sp_l01Joined : List AV → Option (AV) := pf (ι := (Int) × (Int) × (Int) × (Int)) (α := AV) (fun ⟨n, e, i, j⟩ => (0 ≤ e ∧ e ≤ 4294967295) ∧ (0 ≤ i ∧ i < 5) ∧ (0 ≤ j ∧ j < 5)) (fun ⟨n, e, i, j⟩ => [.agg [.int .i64 n, .int .u32 e], .int .i64 i, .int .i64 j]) (fun ⟨n, e, i, j⟩ => .bool (joinedB e i j))
theorem sp_l01Joined_eq (n e i j : Int) (h : (0 ≤ e ∧ e ≤ 4294967295) ∧ (0 ≤ i ∧ i < 5) ∧ (0 ≤ j ∧ j < 5)) : sp_l01Joined [.agg [.int .i64 n, .int .u32 e], .int .i64 i, .int .i64 j] = some (.bool (joinedB e i j)) := by
  unfold sp_l01Joined
  exact pf_eq (ι := (Int) × (Int) × (Int) × (Int)) (α := AV) (n, e, i, j) h (by rintro ⟨n', e', i', j'⟩ _ e; simp_all [Int.natCast_inj])
theorem q_spec_l01Joined : QP PP 142 sp_l01Joined := by
  refine QP_pf (fun i h => ?_) fun i h => ?_
  · obtain ⟨n, e, i, j⟩ := i; exact ⟨by first | rfl | simp, by first | rfl | simp⟩
  obtain ⟨n, e, i, j⟩ := i
  replace h : (0 ≤ e ∧ e ≤ 4294967295) ∧ (0 ≤ i ∧ i < 5) ∧ (0 ≤ j ∧ j < 5) := h
  refine P_code (Quiet.q1 q_spec_l01Bit Quiet.nil) hmix k_spec_l01Joined rfl ?_ ?_
  · first | rfl | simp
  show wpc 0 PP _ c_spec_l01Joined (initSt [.agg [.int .i64 n, .int .u32 e], .int .i64 i, .int .i64 j] .nil) (endP r_spec_l01Joined (.bool (joinedB e i j)))
  obtain ⟨⟨e0, e1⟩, ⟨i0, i1⟩, ⟨j0, j1⟩⟩ := h
  by_cases hij : i = j
  · subst hij
    simp -dsimp -implicitDefEqProofs [c_spec_l01Joined, r_spec_l01Joined, joinedB]
  · obtain ⟨m, rfl⟩ := Int.eq_ofNat_of_zero_le e0
    have hb := andBit (a := m) (b := bitI i.toNat j.toNat) (by omega) (bitI_10 (by omega) (by omega) (by omega))
    have hn : (i != j) = true := by simpa using hij
    simp -dsimp -implicitDefEqProofs [c_spec_l01Joined, r_spec_l01Joined, hn, sp_bit_eq i j (by omega), hb, joinedB, hasB, hij]
    have hp : (2 : Int) ^ bitI i.toNat j.toNat ≠ 0 := Int.pow_ne_zero (by omega)
    cases m.testBit (bitI i.toNat j.toNat) <;> simp [hp]
theorem v_spec_l07Joined : QV PP 74 sp_joinP := by
  refine QV_pf fun i h => ?_
  obtain ⟨n, e, l, ps, i, j⟩ := i
  replace h : ((0 ≤ e ∧ e ≤ 4294967295) ∧ (0 ≤ l ∧ l ≤ 4294967295)) ∧ (0 ≤ i ∧ i < 5) ∧ (0 ≤ j ∧ j < 5) := h
  refine H_code (Quiet.q1 q_spec_l01Joined Quiet.nil) hmix k_spec_l07Joined rfl (fun b => b) (by simp [AHeap.n]) (fun _ _ => rfl) (by rfl) (by first | rfl | simp) ?_
  show wpc _ PP _ c_spec_l07Joined (initSt [.ptr 0 0, .int .i64 i, .int .i64 j] ⟨[some [.int .i64 n, .int .u32 e, .int .u32 l, .sl (frsA ps) false]]⟩) (endH (fun b => b) r_spec_l07Joined (.bool (joinB e l i j)) [some [.int .i64 n, .int .u32 e, .int .u32 l, .sl (frsA ps) false]])
  by_cases hij : i = j
  · subst hij
    obtain ⟨⟨he, l0, l1⟩, ⟨i0, i1⟩, _⟩ := h
    obtain ⟨m, rfl⟩ := Int.eq_ofNat_of_zero_le l0
    have hu : IntKind.u64.wrap i = i := wrapU64 (by omega) (by omega)
    have hn : ¬ i < 0 := by omega
    have hb := shrBit (l := m) (i := i.toNat) (by omega) (by omega)
    simp -dsimp -implicitDefEqProofs [c_spec_l07Joined, r_spec_l07Joined, hu, hn, hb, joinB, loopB, hsub]
  · have hb : (i == j) = false := by simpa using hij
    simp -dsimp -implicitDefEqProofs [c_spec_l07Joined, r_spec_l07Joined, hb, hij, sp_l01Joined_eq n e i j ⟨h.1.1, h.2.1, h.2.2⟩, joinedB, joinB, hsub]
end Go.Proofs.YtkgodhdpcomjbaaAi
