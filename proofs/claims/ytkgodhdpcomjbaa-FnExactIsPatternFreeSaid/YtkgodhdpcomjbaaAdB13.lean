/- Contracts: opposite patterns. -/
import Derived.Test.YtkgodhdpcomjbaaAdB12
import Derived.Test.YtkgodhdpcomjbaaAdB2
namespace Go.Proofs.YtkgodhdpcomjbaaAi
open Go Go.RowKit
set_option linter.unusedVariables false
set_option linter.unusedSimpArgs false
set_option maxRecDepth 20000

theorem xorU {a b : Nat} (ha : a < 4294967296) (hb : b < 4294967296) : IntKind.u32.wrap ((((a : Int) % 2 ^ IntKind.u32.bits).toNat ^^^ ((b : Int) % 2 ^ IntKind.u32.bits).toNat : Nat)) = ((a ^^^ b : Nat) : Int) := by
  have e : ∀ c : Nat, c < 4294967296 → ((c : Int) % 2 ^ IntKind.u32.bits).toNat = c := fun c hc => by
    rw [Int.emod_eq_of_lt (by omega) (by simp only [IntKind.bits]; omega)]
    simp
  rw [e a ha, e b hb]
  have := Nat.xor_lt_two_pow (n := 32) (x := a) (y := b) (by omega) (by omega)
  exact wrap32 (by omega) (by omega)
theorem xorN {a b : Nat} (ha : a < 4294967296) (hb : b < 4294967296) : IntKind.u32.wrap ((a % 2 ^ IntKind.u32.bits ^^^ b % 2 ^ IntKind.u32.bits : Nat)) = ((a ^^^ b : Nat) : Int) := by
  rw [Nat.mod_eq_of_lt (by simp only [IntKind.bits]; omega), Nat.mod_eq_of_lt (by simp only [IntKind.bits]; omega)]
  have := Nat.xor_lt_two_pow (n := 32) (x := a) (y := b) (by omega) (by omega)
  exact wrap32 (by omega) (by omega)
theorem graphOk_lt {n e : Int} (h : graphOk n e = true) (he : 0 ≤ e) : (0 ≤ n ∧ n ≤ 5) ∧ e.toNat < 2 ^ (n.toNat * (n.toNat - 1) / 2) := by
  obtain ⟨hn, hlt⟩ := of_decide_eq_true h
  refine ⟨hn, ?_⟩
  obtain ⟨m, rfl⟩ := Int.eq_ofNat_of_zero_le he
  rcases tri_pow hn with rfl | rfl | rfl | rfl | rfl | rfl <;> simp [pI0, pI1, pI2, pI3, pI4, pI5] at hlt ⊢ <;> omega
def oppG (n e : Int) : AV := if graphOk n e = true then .tup [.agg [.int .i64 n, .int .u32 (notE e n)], .int .i64 0] else .tup [.agg [.int .i64 0, .int .u32 0], .int .i64 1]
@[simp] theorem oppG_lt (n e : Int) (k : Nat) : (oppG n e).lt k = true := by unfold oppG; split <;> rfl
noncomputable def sp_oppG : List AV → Option (AV) := pf (ι := (Int) × (Int)) (α := AV) (fun ⟨n, e⟩ => 0 ≤ e ∧ e ≤ 4294967295) (fun ⟨n, e⟩ => [.agg [.int .i64 n, .int .u32 e]]) (fun ⟨n, e⟩ => oppG n e)
theorem sp_oppG_eq (n e : Int) (h : 0 ≤ e ∧ e ≤ 4294967295) : sp_oppG [.agg [.int .i64 n, .int .u32 e]] = some (oppG n e) := by
  unfold sp_oppG
  exact pf_eq (ι := (Int) × (Int)) (α := AV) (n, e) h (by rintro ⟨n', e'⟩ _ e; simp_all [Int.natCast_inj])
theorem q_spec_OppositeGraph : QP PP 63 sp_oppG := by
  refine QP_pf (fun i h => ?_) fun i h => ?_
  · obtain ⟨n, e⟩ := i; exact ⟨by first | rfl | simp, by first | rfl | simp⟩
  obtain ⟨n, e⟩ := i
  replace h : 0 ≤ e ∧ e ≤ 4294967295 := h
  refine P_code (Quiet.q1 q_spec_l01Ok (Quiet.q1 q_spec_CompleteGraph Quiet.nil)) hmix k_spec_OppositeGraph rfl ?_ ?_
  · first | rfl | simp
  show wpc 0 PP _ c_spec_OppositeGraph (initSt [.agg [.int .i64 n, .int .u32 e]] .nil) (endP r_spec_OppositeGraph (oppG n e))
  cases hg : graphOk n e with
  | false => simp -dsimp -implicitDefEqProofs [c_spec_OppositeGraph, r_spec_OppositeGraph, sp_graphOk_eq n e h, hg, oppG]
  | true =>
    obtain ⟨hn, hlt⟩ := graphOk_lt hg h.1
    obtain ⟨m, rfl⟩ := Int.eq_ofNat_of_zero_le h.1
    have hr : compR n = .tup [.agg [.int .i64 n, .int .u32 (2 ^ (n.toNat * (n.toNat - 1) / 2) - 1 : Nat)], .int .i64 0] := if_pos hn
    have hx := xor_made (n := n.toNat) (e := m) (by simpa using hlt)
    have hle : 2 ^ (n.toNat * (n.toNat - 1) / 2) - 1 < 4294967296 := by
      rcases tri_pow hn with rfl | rfl | rfl | rfl | rfl | rfl <;> decide
    generalize 2 ^ (n.toNat * (n.toNat - 1) / 2) - 1 = F at hr hx hle
    have h1 := xorN (a := F) (b := m) hle (by omega)
    rw [hx] at h1
    simp -dsimp -implicitDefEqProofs [c_spec_OppositeGraph, r_spec_OppositeGraph, sp_graphOk_eq n m h, hg, oppG, hr, h1, notE, hasB]

noncomputable def sp_l07Copy : List AV → List AV → Option (AV × List (Option (List AV))) := pb (pf (ι := (Int) × (Int) × (Int) × (List Fr)) (α := AV × List (Option (List AV))) (fun ⟨n, e, l, ps⟩ => ps ≠ [] ∧ ps.length ≤ 1048576) (fun i => .agg ((fun ⟨n, e, l, ps⟩ => [.int .i64 n, .int .u32 e, .int .u32 l, .sl (frsA ps) false] : (Int) × (Int) × (Int) × (List Fr) → List AV) i) :: (fun ⟨n, e, l, ps⟩ => [.ptr 0 0] : (Int) × (Int) × (Int) × (List Fr) → List AV) i) (fun ⟨n, e, l, ps⟩ => (.agg [.int .i64 n, .int .u32 e, .int .u32 l, .ref 1 2 0 ps.length .full], [some [.int .i64 n, .int .u32 e, .int .u32 l, .sl (frsA ps) false], some (flatA (frsA ps))])))
theorem sp_l07Copy_eq (n e l : Int) (ps : List Fr) (h : ps ≠ [] ∧ ps.length ≤ 1048576) : sp_l07Copy [.int .i64 n, .int .u32 e, .int .u32 l, .sl (frsA ps) false] [.ptr 0 0] = some (.agg [.int .i64 n, .int .u32 e, .int .u32 l, .ref 1 2 0 ps.length .full], [some [.int .i64 n, .int .u32 e, .int .u32 l, .sl (frsA ps) false], some (flatA (frsA ps))]) := by
  unfold sp_l07Copy pb
  exact pf_eq (ι := (Int) × (Int) × (Int) × (List Fr)) (α := AV × List (Option (List AV))) (n, e, l, ps) h (by rintro ⟨n', e', l', ps'⟩ _ e; simp_all [Int.natCast_inj])
theorem b_spec_l07Copy : QB PP 62 sp_l07Copy := by
  refine QB_pf (fun i h => ?_) fun i h => ?_
  · obtain ⟨n, e, l, ps⟩ := i; exact ⟨by first | rfl | simp, by first | rfl | simp, by first | simp⟩
  obtain ⟨n, e, l, ps⟩ := i
  replace h : ps ≠ [] ∧ ps.length ≤ 1048576 := h
  refine H_code Quiet.nil hmix k_spec_l07Copy rfl (fun b => if b = 0 then 0 else 3) (by simp [AHeap.n]) (by intro b hb; simp [AHeap.n] at hb; subst hb; rfl) (by rfl) (by first | rfl | simp) ?_
  show wpc 1 PP _ c_spec_l07Copy (initSt [.ptr 0 0] ⟨[some [.int .i64 n, .int .u32 e, .int .u32 l, .sl (frsA ps) false]]⟩) (endH (fun b => if b = 0 then 0 else 3) r_spec_l07Copy (.agg [.int .i64 n, .int .u32 e, .int .u32 l, .ref 1 2 0 ps.length .full]) [some [.int .i64 n, .int .u32 e, .int .u32 l, .sl (frsA ps) false], some (flatA (frsA ps))])
  have hl : ps.length * 17 ≤ mostBytes := by simp only [mostBytes]; omega
  simp -dsimp -implicitDefEqProofs [c_spec_l07Copy, r_spec_l07Copy, h.1, hl, hsub]

noncomputable def sp_cloneFr : List AV → Option (AV × List (Option (List AV))) := pf (ι := (List Fr)) (α := AV × List (Option (List AV))) (fun ps => ps ≠ [] ∧ ps.length ≤ 1048576) (fun ps => [.sl (frsA ps) false]) (fun ps => (.ref 0 2 0 ps.length .full, [some (flatA (frsA ps))]))
theorem sp_cloneFr_eq (ps : List Fr) (h : ps ≠ [] ∧ ps.length ≤ 1048576) : sp_cloneFr [.sl (frsA ps) false] = some ((.ref 0 2 0 ps.length .full, [some (flatA (frsA ps))])) := by
  unfold sp_cloneFr
  exact pf_eq (ι := (List Fr)) (α := AV × List (Option (List AV))) ps h (by rintro ps' _ e; simp_all [Int.natCast_inj])
theorem n_slices_Clone_Simpl_Fraction_impl_Fraction : QN PP 67 sp_cloneFr := by
  refine QN_pf (fun ps h => ?_) fun ps h => ?_
  · first | rfl | simp
  replace h : ps ≠ [] ∧ ps.length ≤ 1048576 := h
  show T PP 67 [.sl (frsA ps) false] .nil fun r' A' => r' = (((.ref 0 2 0 ps.length .full, [some (flatA (frsA ps))]) : AV × List (Option (List AV)))).1 ∧ A' = ⟨(((.ref 0 2 0 ps.length .full, [some (flatA (frsA ps))]) : AV × List (Option (List AV)))).2⟩
  have hl : ps.length * 17 ≤ mostBytes := by simp only [mostBytes]; omega
  refine H_code Quiet.nil hmix k_slices_Clone_Simpl_Fraction_impl_Fraction rfl (fun _ => 1) (by simp [AHeap.n, AHeap.nil]) (by intro b hb; simp [AHeap.n, AHeap.nil] at hb <;> subst hb <;> rfl) (by rfl) (by first | rfl | simp) ?_
  simp -dsimp -implicitDefEqProofs [c_slices_Clone_Simpl_Fraction_impl_Fraction, r_slices_Clone_Simpl_Fraction_impl_Fraction, h.1, hl, hsub]

end Go.Proofs.YtkgodhdpcomjbaaAi
