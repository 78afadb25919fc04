/- Contracts: the pattern of opposite graphs. -/
import Derived.Test.YtkgodhdpcomjbaaAdB13
import Derived.Test.YtkgodhdpcomjbaaAdB9
namespace Go.Proofs.YtkgodhdpcomjbaaAi
open Go Go.RowKit
set_option linter.unusedVariables false
set_option linter.unusedSimpArgs false
set_option maxRecDepth 20000

def oppR (n e l : Int) (ps : List Fr) : AV × List (Option (List AV)) :=
  if patOk n e l ps = true then (.tup [.agg [.int .i64 n, .int .u32 (notE e n), .int .u32 (2 ^ n.toNat - 1 - l), .ref 0 2 0 ps.length .full], .int .i64 0], [some (flatA (frsA ps))])
  else (noPat 1, [])
theorem xor_ones {w l : Nat} (h : l < 2 ^ w) : (2 ^ w - 1) ^^^ l = 2 ^ w - 1 - l := by
  have h1 : (BitVec.allOnes w ^^^ BitVec.ofNat w l).toNat = (~~~(BitVec.ofNat w l)).toNat := by rw [BitVec.not_def]
  rw [BitVec.toNat_xor, BitVec.toNat_allOnes, BitVec.toNat_not, BitVec.toNat_ofNat, Nat.mod_eq_of_lt h] at h1
  exact h1
theorem not32 {l : Int} (h0 : 0 ≤ l) (h : l ≤ 4294967295) : IntKind.u32.wrap (((if IntKind.u32.signed = true then -1 else IntKind.u32.max) % 2 ^ IntKind.u32.bits).toNat ^^^ (l % 2 ^ IntKind.u32.bits).toNat : Nat) = 4294967295 - l := by
  obtain ⟨m, rfl⟩ := Int.eq_ofNat_of_zero_le h0
  have e : ((if IntKind.u32.signed = true then -1 else IntKind.u32.max) % 2 ^ IntKind.u32.bits).toNat ^^^ ((m : Int) % 2 ^ IntKind.u32.bits).toNat = (2 ^ 32 - 1) ^^^ m := by
    have e2 : ((m : Int) % 2 ^ IntKind.u32.bits).toNat = m := by
      rw [Int.emod_eq_of_lt (by omega) (by simp only [IntKind.bits]; omega)]
      simp
    rw [e2]
    rfl
  rw [e, xor_ones (by omega)]
  exact (wrap32 (by omega) (by omega)).trans (by omega)
theorem mask32 {l c : Int} {w : Nat} (hw : w ≤ 4) (hc : c = 2 ^ w - 1) (h0 : 0 ≤ l) (h : l < 2 ^ w) : IntKind.u32.wrap (((4294967295 - l) % 2 ^ IntKind.u32.bits).toNat &&& (c % 2 ^ IntKind.u32.bits).toNat : Nat) = 2 ^ w - 1 - l := by
  obtain ⟨m, rfl⟩ := Int.eq_ofNat_of_zero_le h0
  subst hc
  have h5 : w = 0 ∨ w = 1 ∨ w = 2 ∨ w = 3 ∨ w = 4 := by omega
  have e : ((4294967295 - (m : Int)) % 2 ^ IntKind.u32.bits).toNat = 4294967295 - m := by
    have : m < 16 := by rcases h5 with rfl | rfl | rfl | rfl | rfl <;> omega
    rw [Int.emod_eq_of_lt (by omega) (by simp only [IntKind.bits]; omega)]
    omega
  rw [e]
  have key : ∀ w : Nat, w ≤ 4 → ∀ m : Nat, m < 2 ^ w → (4294967295 - m) &&& (2 ^ w - 1) = 2 ^ w - 1 - m := by decide
  have hk := key w hw m (by have : ((2 ^ w : Nat) : Int) = 2 ^ w := by simp
                            omega)
  have e2 : (((2 : Int) ^ w - 1) % 2 ^ IntKind.u32.bits).toNat = 2 ^ w - 1 := by rcases h5 with rfl | rfl | rfl | rfl | rfl <;> rfl
  rw [e2, hk]
  rcases h5 with rfl | rfl | rfl | rfl | rfl <;> exact (wrap32 (by omega) (by omega)).trans (by omega)
theorem xorL {l c : Int} {w : Nat} (hw : w ≤ 4) (hc : c = 2 ^ w - 1) (h0 : 0 ≤ l) (h : l < 2 ^ w) : IntKind.u32.wrap ((c % 2 ^ IntKind.u32.bits).toNat ^^^ (l % 2 ^ IntKind.u32.bits).toNat : Nat) = 2 ^ w - 1 - l := by
  obtain ⟨m, rfl⟩ := Int.eq_ofNat_of_zero_le h0
  subst hc
  have h5 : w = 0 ∨ w = 1 ∨ w = 2 ∨ w = 3 ∨ w = 4 := by omega
  have hm : m < 2 ^ w := by have : ((2 ^ w : Nat) : Int) = 2 ^ w := by simp
                            omega
  have e : ((m : Int) % 2 ^ IntKind.u32.bits).toNat = m := by
    have : m < 16 := by rcases h5 with rfl | rfl | rfl | rfl | rfl <;> omega
    rw [Int.emod_eq_of_lt (by omega) (by simp only [IntKind.bits]; omega)]
    simp
  have e2 : (((2 : Int) ^ w - 1) % 2 ^ IntKind.u32.bits).toNat = 2 ^ w - 1 := by rcases h5 with rfl | rfl | rfl | rfl | rfl <;> rfl
  rw [e, e2, xor_ones hm]
  rcases h5 with rfl | rfl | rfl | rfl | rfl <;> exact (wrap32 (by omega) (by omega)).trans (by omega)
theorem patOk_spec {n e l : Int} {ps : List Fr} (h : patOk n e l ps = true) : graphOk n e = true ∧ (1 ≤ n ∧ n ≤ 4) ∧ l < 2 ^ n.toNat ∧ (ps.length : Int) = n ∧ allOk ps = true := by
  simp only [patOk, Bool.and_eq_true, decide_eq_true_eq] at h
  obtain ⟨⟨⟨⟨⟨h1, h2⟩, h3⟩, h4⟩, _⟩, _⟩ := h
  obtain ⟨h5, h6⟩ := of_decide_eq_true h2
  exact ⟨h1, h5, h6, h3, h4⟩
noncomputable def sp_oppP : List AV → Option (AV × List (Option (List AV))) := pf (ι := (Int) × (Int) × (Int) × (List Fr)) (α := AV × List (Option (List AV))) (fun ⟨n, e, l, ps⟩ => (0 ≤ e ∧ e ≤ 4294967295) ∧ (0 ≤ l ∧ l ≤ 4294967295) ∧ ps.length ≤ maxLen) (fun ⟨n, e, l, ps⟩ => [.agg [.int .i64 n, .int .u32 e, .int .u32 l, .sl (frsA ps) false]]) (fun ⟨n, e, l, ps⟩ => oppR n e l ps)
theorem sp_oppP_eq (n e l : Int) (ps : List Fr) (h : (0 ≤ e ∧ e ≤ 4294967295) ∧ (0 ≤ l ∧ l ≤ 4294967295) ∧ ps.length ≤ maxLen) : sp_oppP [.agg [.int .i64 n, .int .u32 e, .int .u32 l, .sl (frsA ps) false]] = some (oppR n e l ps) := by
  unfold sp_oppP
  exact pf_eq (ι := (Int) × (Int) × (Int) × (List Fr)) (α := AV × List (Option (List AV))) (n, e, l, ps) h (by rintro ⟨n', e', l', ps'⟩ _ e; simp_all [Int.natCast_inj])
theorem n_impl_OppositePattern : QN PP 17 sp_oppP := by
  refine QN_pf (fun i h => ?_) fun i h => ?_
  · obtain ⟨n, e, l, ps⟩ := i; first | rfl | simp
  obtain ⟨n, e, l, ps⟩ := i
  replace h : (0 ≤ e ∧ e ≤ 4294967295) ∧ (0 ≤ l ∧ l ≤ 4294967295) ∧ ps.length ≤ maxLen := h
  show T PP 17 [.agg [.int .i64 n, .int .u32 e, .int .u32 l, .sl (frsA ps) false]] .nil fun r' A' => r' = ((oppR n e l ps : AV × List (Option (List AV)))).1 ∧ A' = ⟨((oppR n e l ps : AV × List (Option (List AV)))).2⟩
  cases hv : patOk n e l ps with
  | false =>
    rw [show oppR n e l ps = (noPat 1, []) by simp [oppR, hv]]
    refine H_code (Quiet.q1 q_impl_ValidPattern (Quiet.q1 q_impl_Graph_opposite (Quiet.e1 n_slices_Clone_Simpl_Fraction_impl_Fraction.toE Quiet.nil))) hmix k_impl_OppositePattern rfl (fun _ => 0) (by simp [AHeap.n, AHeap.nil]) (by intro b hb; simp [AHeap.n, AHeap.nil] at hb <;> subst hb <;> rfl) (by rfl) (by first | rfl | simp) ?_
    simp -dsimp -implicitDefEqProofs [c_impl_OppositePattern, r_impl_OppositePattern, sp_patOk_eq n e l ps h, hv, hsub, noPat]
  | true =>
    obtain ⟨hg, hn, hl, hp, ha⟩ := patOk_spec hv
    have hne : ps ≠ [] := fun e => by subst e; simp at hp; omega
    rw [show oppR n e l ps = (.tup [.agg [.int .i64 n, .int .u32 (notE e n), .int .u32 (2 ^ n.toNat - 1 - l), .ref 0 2 0 ps.length .full], .int .i64 0], [some (flatA (frsA ps))]) by simp [oppR, hv]]
    refine H_code (Quiet.q1 q_impl_ValidPattern (Quiet.q1 q_impl_Graph_opposite (Quiet.e1 n_slices_Clone_Simpl_Fraction_impl_Fraction.toE Quiet.nil))) hmix k_impl_OppositePattern rfl (fun _ => 2) (by simp [AHeap.n, AHeap.nil]) (by intro b hb; simp [AHeap.n, AHeap.nil] at hb <;> subst hb <;> rfl) (by rfl) (by first | rfl | simp) ?_
    have hcl := sp_cloneFr_eq ps ⟨hne, by omega⟩
    have h5 : n = 1 ∨ n = 2 ∨ n = 3 ∨ n = 4 := by omega
    have hnot := not32 h.2.1.1 h.2.1.2
    have hmask := fun (c : Int) (hc : c = 2 ^ n.toNat - 1) => mask32 (l := l) (c := c) (w := n.toNat) (by omega) hc h.2.1.1 hl
    have hs : ∀ k : Nat, k ≤ 4 → IntKind.u32.wrap (IntKind.u32.wrap (2 ^ min k IntKind.u32.bits) - 1) = 2 ^ k - 1 := by decide
    have hn0 : ¬ n < 0 := by omega
    have hk := hs n.toNat (by omega)
    simp -dsimp -implicitDefEqProofs [c_impl_OppositePattern, r_impl_OppositePattern, sp_patOk_eq n e l ps h, hv, hsub, hcl, sp_opp_eq n e ⟨⟨by omega, by omega⟩, h.1⟩, hnot, hn0, hk, hmask]
theorem n_spec_OppositePattern : QN PP 15 sp_oppP := by
  refine QN_pf (fun i h => ?_) fun i h => ?_
  · obtain ⟨n, e, l, ps⟩ := i; first | rfl | simp
  obtain ⟨n, e, l, ps⟩ := i
  replace h : (0 ≤ e ∧ e ≤ 4294967295) ∧ (0 ≤ l ∧ l ≤ 4294967295) ∧ ps.length ≤ maxLen := h
  show T PP 15 [.agg [.int .i64 n, .int .u32 e, .int .u32 l, .sl (frsA ps) false]] .nil fun r' A' => r' = ((oppR n e l ps : AV × List (Option (List AV)))).1 ∧ A' = ⟨((oppR n e l ps : AV × List (Option (List AV)))).2⟩
  cases hv : patOk n e l ps with
  | false =>
    rw [show oppR n e l ps = (noPat 1, []) by simp [oppR, hv]]
    refine H_code (Quiet.q1 q_spec_OppositeGraph (Quiet.e1 m_spec_l07Ok.toE (Quiet.e1 b_spec_l07Copy.toE Quiet.nil))) hmix k_spec_OppositePattern rfl (fun _ => 0) (by simp [AHeap.n, AHeap.nil]) (by intro b hb; simp [AHeap.n, AHeap.nil] at hb <;> subst hb <;> rfl) (by rfl) (by first | rfl | simp) ?_
    simp -dsimp -implicitDefEqProofs [c_spec_OppositePattern, r_spec_OppositePattern, sp_l07Ok_eq n e l ps h, hv, hsub, noPat]
  | true =>
    obtain ⟨hg, hn, hl, hp, ha⟩ := patOk_spec hv
    have hne : ps ≠ [] := fun e => by subst e; simp at hp; omega
    rw [show oppR n e l ps = (.tup [.agg [.int .i64 n, .int .u32 (notE e n), .int .u32 (2 ^ n.toNat - 1 - l), .ref 0 2 0 ps.length .full], .int .i64 0], [some (flatA (frsA ps))]) by simp [oppR, hv]]
    refine H_code (Quiet.q1 q_spec_OppositeGraph (Quiet.e1 m_spec_l07Ok.toE (Quiet.e1 b_spec_l07Copy.toE Quiet.nil))) hmix k_spec_OppositePattern rfl (fun _ => 2) (by simp [AHeap.n, AHeap.nil]) (by intro b hb; simp [AHeap.n, AHeap.nil] at hb <;> subst hb <;> rfl) (by rfl) (by first | rfl | simp) ?_
    have hcp := sp_l07Copy_eq n e l ps ⟨hne, by omega⟩
    have hx := fun (c : Int) (hc : c = 2 ^ n.toNat - 1) => xorL (l := l) (c := c) (w := n.toNat) (by omega) hc h.2.1.1 hl
    have hn0 : ¬ n < 0 := by omega
    have hu : IntKind.u64.wrap n = n := wrapU64 (by omega) (by omega)
    have hs : ∀ k : Nat, k ≤ 4 → IntKind.i64.wrap (IntKind.i64.wrap (2 ^ min k IntKind.i64.bits) - 1) = 2 ^ k - 1 ∧ IntKind.u32.wrap (2 ^ k - 1) = 2 ^ k - 1 := by decide
    obtain ⟨hk, hk2⟩ := hs n.toNat (by omega)
    simp -dsimp -implicitDefEqProofs [c_spec_OppositePattern, r_spec_OppositePattern, sp_l07Ok_eq n e l ps h, hv, hsub, hcp, sp_oppG_eq n e h.1, oppG, hg, hn0, hx, hu, hk, hk2]
end Go.Proofs.YtkgodhdpcomjbaaAi
