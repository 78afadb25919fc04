/- Contracts: sums and products of fractions. -/
import Derived.Test.YtkgodhdpcomjbaaAdA3
namespace Go.Proofs.YtkgodhdpcomjbaaAi
open Go Go.RowKit
set_option linter.unusedVariables false
set_option linter.unusedSimpArgs false

def frIn (p q : Int) : Prop := (-1000000000 ≤ p ∧ p ≤ 1000000000) ∧ (1 ≤ q ∧ q ≤ 1000000000)
theorem mul_small {a b : Int} (ha : a.natAbs ≤ 1000000000) (hb : b.natAbs ≤ 1000000000) : -1000000000000000000 ≤ a * b ∧ a * b ≤ 1000000000000000000 := by
  have h : (a * b).natAbs ≤ 1000000000 * 1000000000 := by rw [Int.natAbs_mul]; exact Nat.mul_le_mul ha hb
  omega
theorem mul_62 {a b : Int} (ha : a.natAbs ≤ 1000000000) (hb : b.natAbs ≤ 1000000000) : in62 (a * b) ∧ IntKind.i64.wrap (a * b) = a * b := by
  have h := mul_small ha hb
  have : in62 (a * b) := by unfold in62; omega
  exact ⟨this, wrap62 this⟩
def valO (o : Option Fr) : Fr := o.getD ⟨0, 1⟩
def addO (p q p' q' : Int) : Option Fr := lowO (p * q' + p' * q) (q * q')
def mulO (p q p' q' : Int) : Option Fr := lowO (p * p') (q * q')
def divO (p q p' q' : Int) : Option Fr := lowO (p * q') (q * p')

theorem lowQ_pos {p q : Int} (h : q ≠ 0) : 1 ≤ lowQ p q := by
  have hd : (Int.gcd p q : Int) ∣ q := Int.gcd_dvd_right ..
  have hg : 0 < Int.gcd p q := Int.gcd_pos_of_ne_zero_right _ h
  have h2 : (Int.gcd p q : Int) ∣ (if q < 0 then -q else q) := by
    split
    · exact (Int.dvd_neg).2 hd
    · exact hd
  obtain ⟨k, hk⟩ := h2
  have hpos : 0 < (if q < 0 then -q else q) := by split <;> omega
  have hkp : 0 < k := by
    rw [hk] at hpos
    rcases Int.lt_trichotomy k 0 with h0 | h0 | h0
    · have := Int.mul_neg_of_pos_of_neg (a := (Int.gcd p q : Int)) (b := k) (by omega) h0; omega
    · rw [h0] at hpos; simp at hpos
    · exact h0
  unfold lowQ
  rw [hk, Int.mul_comm, Int.mul_tdiv_cancel _ (by omega)]
  omega
theorem lowO_in {p q : Int} (h : q ≠ 0) {x : Fr} (e : lowO p q = some x) : frIn x.p x.q := by
  unfold lowO smallB at e
  split at e
  · rename_i hs
    obtain rfl := Option.some.inj e
    simp at hs
    have := lowQ_pos (p := p) h
    unfold frIn
    simp only
    omega
  · cases e
theorem valO_in {p q : Int} (h : q ≠ 0) : frIn (valO (lowO p q)).p (valO (lowO p q)).q := by
  cases e : lowO p q with
  | none => unfold frIn valO; decide
  | some x => exact lowO_in h e
theorem add_pre {p q p' q' : Int} (h : frIn p q) (h' : frIn p' q') : in62 (p * q' + p' * q) ∧ in62 (q * q') ∧ q * q' ≠ 0 ∧ IntKind.i64.wrap (p * q') = p * q' ∧ IntKind.i64.wrap (p' * q) = p' * q ∧ IntKind.i64.wrap (p * q' + p' * q) = p * q' + p' * q ∧ IntKind.i64.wrap (q * q') = q * q' := by
  unfold frIn at *
  have a1 := mul_small (a := p) (b := q') (by omega) (by omega)
  have a2 := mul_small (a := p') (b := q) (by omega) (by omega)
  have a3 := mul_small (a := q) (b := q') (by omega) (by omega)
  have a4 : 0 < q * q' := Int.mul_pos (by omega) (by omega)
  exact ⟨by unfold in62; omega, by unfold in62; omega, by omega, wrapI64 (by omega) (by omega), wrapI64 (by omega) (by omega), wrapI64 (by omega) (by omega), wrapI64 (by omega) (by omega)⟩
theorem mul_pre {p q p' q' : Int} (h : frIn p q) (h' : frIn p' q') : in62 (p * p') ∧ in62 (q * q') ∧ q * q' ≠ 0 ∧ IntKind.i64.wrap (p * p') = p * p' ∧ IntKind.i64.wrap (q * q') = q * q' := by
  unfold frIn at *
  have a1 := mul_small (a := p) (b := p') (by omega) (by omega)
  have a3 := mul_small (a := q) (b := q') (by omega) (by omega)
  have a4 : 0 < q * q' := Int.mul_pos (by omega) (by omega)
  exact ⟨by unfold in62; omega, by unfold in62; omega, by omega, wrapI64 (by omega) (by omega), wrapI64 (by omega) (by omega)⟩
theorem div_pre {p q p' q' : Int} (h : frIn p q) (h' : frIn p' q') (h0 : p' ≠ 0) : in62 (p * q') ∧ in62 (q * p') ∧ q * p' ≠ 0 ∧ IntKind.i64.wrap (p * q') = p * q' ∧ IntKind.i64.wrap (q * p') = q * p' := by
  unfold frIn at *
  have a1 := mul_small (a := p) (b := q') (by omega) (by omega)
  have a3 := mul_small (a := q) (b := p') (by omega) (by omega)
  have a4 : q * p' ≠ 0 := Int.mul_ne_zero (by omega) h0
  exact ⟨by unfold in62; omega, by unfold in62; omega, a4, wrapI64 (by omega) (by omega), wrapI64 (by omega) (by omega)⟩

noncomputable def sp_small : List AV → Option (AV) := pf (ι := (Int) × (Int)) (α := AV) (fun ⟨p, q⟩ => in62 p) (fun ⟨p, q⟩ => [.agg [.int .i64 p, .int .i64 q]]) (fun ⟨p, q⟩ => .bool (smallB p q))
theorem sp_small_eq (p q : Int) (h : in62 p) : sp_small [.agg [.int .i64 p, .int .i64 q]] = some (.bool (smallB p q)) := by
  unfold sp_small
  exact pf_eq (ι := (Int) × (Int)) (α := AV) (p, q) h (by rintro ⟨p', q'⟩ _ e; simp_all [Int.natCast_inj])
theorem q_impl_Fraction_small : QP PP 170 sp_small := by
  refine QP_pf (fun i h => ?_) fun i h => ?_
  · obtain ⟨p, q⟩ := i; exact ⟨by first | rfl | simp, by first | rfl | simp⟩
  obtain ⟨p, q⟩ := i
  replace h : in62 p := h
  refine P_code (Quiet.q1 q_impl_size Quiet.nil) hmix k_impl_Fraction_small rfl ?_ ?_
  · first | rfl | simp
  show wpc 0 PP _ c_impl_Fraction_small (initSt [.agg [.int .i64 p, .int .i64 q]] .nil) (endP r_impl_Fraction_small (.bool (smallB p q)))
  simp -dsimp -implicitDefEqProofs [c_impl_Fraction_small, r_impl_Fraction_small, sp_size_eq p h]
  by_cases e1 : p.natAbs ≤ 1000000000
  · have e1' : (p.natAbs : Int) ≤ 1000000000 := by omega
    simp -dsimp -implicitDefEqProofs [e1', smallB, e1]
  · have e1' : ¬ (p.natAbs : Int) ≤ 1000000000 := by omega
    simp -dsimp -implicitDefEqProofs [e1', smallB, e1]
def keepF (p q : Int) : Fr := if smallB p q = true then ⟨p, q⟩ else ⟨0, 1⟩
noncomputable def sp_kept : List AV → List AV → Option (AV × List AV) := pm (pf (ι := (Bool) × (Int) × (Int)) (α := AV × List AV) (fun ⟨g, p, q⟩ => in62 p) (fun i => .agg ((fun ⟨g, p, q⟩ => [.bool g] : (Bool) × (Int) × (Int) → List AV) i) :: (fun ⟨g, p, q⟩ => [.agg [.int .i64 p, .int .i64 q]] : (Bool) × (Int) × (Int) → List AV) i) (fun ⟨g, p, q⟩ => (frA (keepF p q), [.bool (g || !smallB p q)])))
theorem sp_kept_eq (g : Bool) (p q : Int) (h : in62 p) : sp_kept [.bool g] [.agg [.int .i64 p, .int .i64 q]] = some (frA (keepF p q), [.bool (g || !smallB p q)]) := by
  unfold sp_kept pm
  exact pf_eq (ι := (Bool) × (Int) × (Int)) (α := AV × List AV) (g, p, q) h (by rintro ⟨g', p', q'⟩ _ e; simp_all [Int.natCast_inj])
theorem m_impl_sums_kept : QM PP 126 sp_kept := by
  refine QM_pf (fun i h => ?_) fun i h => ?_
  · obtain ⟨g, p, q⟩ := i; exact ⟨⟨by first | rfl | simp, by first | rfl | simp⟩, by first | rfl | simp, by first | rfl | simp⟩
  obtain ⟨g, p, q⟩ := i
  replace h : in62 p := h
  refine H_code (Quiet.q1 q_impl_Fraction_small (Quiet.q1 q_impl_zero Quiet.nil)) hmix k_impl_sums_kept rfl (fun b => b) (Nat.le_refl _) (fun _ _ => rfl) rfl (by first | rfl | simp) ?_
  show wpc 1 PP _ c_impl_sums_kept (initSt [.ptr 0 0, .agg [.int .i64 p, .int .i64 q]] ⟨[some [.bool g]]⟩) (endH (fun b => b) r_impl_sums_kept (frA (keepF p q)) [some [.bool (g || !smallB p q)]])
  simp -dsimp -implicitDefEqProofs [c_impl_sums_kept, r_impl_sums_kept, sp_small_eq p q h]
  cases e : smallB p q <;> simp -dsimp -implicitDefEqProofs [keepF, e, hsub]
theorem keepF_low (p q : Int) : keepF (lowP p q) (lowQ p q) = valO (lowO p q) := by unfold keepF valO lowO; split <;> rfl
theorem small_low (p q : Int) : (!smallB (lowP p q) (lowQ p q)) = (lowO p q).isNone := by unfold lowO; split <;> simp_all

noncomputable def sp_add : List AV → List AV → Option (AV × List AV) := pm (pf (ι := (Bool) × (Int) × (Int) × (Int) × (Int)) (α := AV × List AV) (fun ⟨g, p, q, p', q'⟩ => frIn p q ∧ frIn p' q') (fun i => .agg ((fun ⟨g, p, q, p', q'⟩ => [.bool g] : (Bool) × (Int) × (Int) × (Int) × (Int) → List AV) i) :: (fun ⟨g, p, q, p', q'⟩ => [.agg [.int .i64 p, .int .i64 q], .agg [.int .i64 p', .int .i64 q']] : (Bool) × (Int) × (Int) × (Int) × (Int) → List AV) i) (fun ⟨g, p, q, p', q'⟩ => (frA (valO (addO p q p' q')), [.bool (g || (addO p q p' q').isNone)])))
theorem sp_add_eq (g : Bool) (p q p' q' : Int) (h : frIn p q ∧ frIn p' q') : sp_add [.bool g] [.agg [.int .i64 p, .int .i64 q], .agg [.int .i64 p', .int .i64 q']] = some (frA (valO (addO p q p' q')), [.bool (g || (addO p q p' q').isNone)]) := by
  unfold sp_add pm
  exact pf_eq (ι := (Bool) × (Int) × (Int) × (Int) × (Int)) (α := AV × List AV) (g, p, q, p', q') h (by rintro ⟨g', p', q', p'', q''⟩ _ e; simp_all [Int.natCast_inj])
theorem m_impl_sums_add : QM PP 107 sp_add := by
  refine QM_pf (fun i h => ?_) fun i h => ?_
  · obtain ⟨g, p, q, p', q'⟩ := i; exact ⟨⟨by first | rfl | simp, by first | rfl | simp⟩, by first | rfl | simp, by first | rfl | simp⟩
  obtain ⟨g, p, q, p', q'⟩ := i
  replace h : frIn p q ∧ frIn p' q' := h
  refine H_code (Quiet.q1 q_impl_lowest (Quiet.e1 m_impl_sums_kept.toE Quiet.nil)) hmix k_impl_sums_add rfl (fun b => b) (Nat.le_refl _) (fun _ _ => rfl) rfl (by first | rfl | simp) ?_
  show wpc 1 PP _ c_impl_sums_add (initSt [.ptr 0 0, .agg [.int .i64 p, .int .i64 q], .agg [.int .i64 p', .int .i64 q']] ⟨[some [.bool g]]⟩) (endH (fun b => b) r_impl_sums_add (frA (valO (addO p q p' q'))) [some [.bool (g || (addO p q p' q').isNone)]])
  obtain ⟨d1, d2, d3, w1, w2, w3, w4⟩ := add_pre h.1 h.2
  simp -dsimp -implicitDefEqProofs [c_impl_sums_add, r_impl_sums_add, w1, w2, w3, w4, sp_lowest_eq _ _ ⟨d1, d2, d3⟩, sp_kept_eq _ _ _ (lowP_in d1), hsub, keepF_low, small_low, addO]
noncomputable def sp_mul : List AV → List AV → Option (AV × List AV) := pm (pf (ι := (Bool) × (Int) × (Int) × (Int) × (Int)) (α := AV × List AV) (fun ⟨g, p, q, p', q'⟩ => frIn p q ∧ frIn p' q') (fun i => .agg ((fun ⟨g, p, q, p', q'⟩ => [.bool g] : (Bool) × (Int) × (Int) × (Int) × (Int) → List AV) i) :: (fun ⟨g, p, q, p', q'⟩ => [.agg [.int .i64 p, .int .i64 q], .agg [.int .i64 p', .int .i64 q']] : (Bool) × (Int) × (Int) × (Int) × (Int) → List AV) i) (fun ⟨g, p, q, p', q'⟩ => (frA (valO (mulO p q p' q')), [.bool (g || (mulO p q p' q').isNone)])))
theorem sp_mul_eq (g : Bool) (p q p' q' : Int) (h : frIn p q ∧ frIn p' q') : sp_mul [.bool g] [.agg [.int .i64 p, .int .i64 q], .agg [.int .i64 p', .int .i64 q']] = some (frA (valO (mulO p q p' q')), [.bool (g || (mulO p q p' q').isNone)]) := by
  unfold sp_mul pm
  exact pf_eq (ι := (Bool) × (Int) × (Int) × (Int) × (Int)) (α := AV × List AV) (g, p, q, p', q') h (by rintro ⟨g', p', q', p'', q''⟩ _ e; simp_all [Int.natCast_inj])
theorem m_impl_sums_mul : QM PP 89 sp_mul := by
  refine QM_pf (fun i h => ?_) fun i h => ?_
  · obtain ⟨g, p, q, p', q'⟩ := i; exact ⟨⟨by first | rfl | simp, by first | rfl | simp⟩, by first | rfl | simp, by first | rfl | simp⟩
  obtain ⟨g, p, q, p', q'⟩ := i
  replace h : frIn p q ∧ frIn p' q' := h
  refine H_code (Quiet.q1 q_impl_lowest (Quiet.e1 m_impl_sums_kept.toE Quiet.nil)) hmix k_impl_sums_mul rfl (fun b => b) (Nat.le_refl _) (fun _ _ => rfl) rfl (by first | rfl | simp) ?_
  show wpc 1 PP _ c_impl_sums_mul (initSt [.ptr 0 0, .agg [.int .i64 p, .int .i64 q], .agg [.int .i64 p', .int .i64 q']] ⟨[some [.bool g]]⟩) (endH (fun b => b) r_impl_sums_mul (frA (valO (mulO p q p' q'))) [some [.bool (g || (mulO p q p' q').isNone)]])
  obtain ⟨d1, d2, d3, w1, w2⟩ := mul_pre h.1 h.2
  simp -dsimp -implicitDefEqProofs [c_impl_sums_mul, r_impl_sums_mul, w1, w2, sp_lowest_eq _ _ ⟨d1, d2, d3⟩, sp_kept_eq _ _ _ (lowP_in d1), hsub, keepF_low, small_low, mulO]
noncomputable def sp_div : List AV → List AV → Option (AV × List AV) := pm (pf (ι := (Bool) × (Int) × (Int) × (Int) × (Int)) (α := AV × List AV) (fun ⟨g, p, q, p', q'⟩ => frIn p q ∧ frIn p' q' ∧ p' ≠ 0) (fun i => .agg ((fun ⟨g, p, q, p', q'⟩ => [.bool g] : (Bool) × (Int) × (Int) × (Int) × (Int) → List AV) i) :: (fun ⟨g, p, q, p', q'⟩ => [.agg [.int .i64 p, .int .i64 q], .agg [.int .i64 p', .int .i64 q']] : (Bool) × (Int) × (Int) × (Int) × (Int) → List AV) i) (fun ⟨g, p, q, p', q'⟩ => (frA (valO (divO p q p' q')), [.bool (g || (divO p q p' q').isNone)])))
theorem sp_div_eq (g : Bool) (p q p' q' : Int) (h : frIn p q ∧ frIn p' q' ∧ p' ≠ 0) : sp_div [.bool g] [.agg [.int .i64 p, .int .i64 q], .agg [.int .i64 p', .int .i64 q']] = some (frA (valO (divO p q p' q')), [.bool (g || (divO p q p' q').isNone)]) := by
  unfold sp_div pm
  exact pf_eq (ι := (Bool) × (Int) × (Int) × (Int) × (Int)) (α := AV × List AV) (g, p, q, p', q') h (by rintro ⟨g', p', q', p'', q''⟩ _ e; simp_all [Int.natCast_inj])
def subO (p q p' q' : Int) : Option Fr := addO p q (-p') q'
theorem frIn_neg {p q : Int} (h : frIn p q) : frIn (-p) q ∧ IntKind.i64.wrap (-p) = -p := by
  unfold frIn at *
  exact ⟨by omega, wrapI64 (by omega) (by omega)⟩
noncomputable def sp_sub : List AV → List AV → Option (AV × List AV) := pm (pf (ι := (Bool) × (Int) × (Int) × (Int) × (Int)) (α := AV × List AV) (fun ⟨g, p, q, p', q'⟩ => frIn p q ∧ frIn p' q') (fun i => .agg ((fun ⟨g, p, q, p', q'⟩ => [.bool g] : (Bool) × (Int) × (Int) × (Int) × (Int) → List AV) i) :: (fun ⟨g, p, q, p', q'⟩ => [.agg [.int .i64 p, .int .i64 q], .agg [.int .i64 p', .int .i64 q']] : (Bool) × (Int) × (Int) × (Int) × (Int) → List AV) i) (fun ⟨g, p, q, p', q'⟩ => (frA (valO (subO p q p' q')), [.bool (g || (subO p q p' q').isNone)])))
theorem sp_sub_eq (g : Bool) (p q p' q' : Int) (h : frIn p q ∧ frIn p' q') : sp_sub [.bool g] [.agg [.int .i64 p, .int .i64 q], .agg [.int .i64 p', .int .i64 q']] = some (frA (valO (subO p q p' q')), [.bool (g || (subO p q p' q').isNone)]) := by
  unfold sp_sub pm
  exact pf_eq (ι := (Bool) × (Int) × (Int) × (Int) × (Int)) (α := AV × List AV) (g, p, q, p', q') h (by rintro ⟨g', p', q', p'', q''⟩ _ e; simp_all [Int.natCast_inj])
theorem m_impl_sums_sub : QM PP 90 sp_sub := by
  refine QM_pf (fun i h => ?_) fun i h => ?_
  · obtain ⟨g, p, q, p', q'⟩ := i; exact ⟨⟨by first | rfl | simp, by first | rfl | simp⟩, by first | rfl | simp, by first | rfl | simp⟩
  obtain ⟨g, p, q, p', q'⟩ := i
  replace h : frIn p q ∧ frIn p' q' := h
  refine H_code (Quiet.e1 m_impl_sums_add.toE Quiet.nil) hmix k_impl_sums_sub rfl (fun b => b) (Nat.le_refl _) (fun _ _ => rfl) rfl (by first | rfl | simp) ?_
  show wpc 1 PP _ c_impl_sums_sub (initSt [.ptr 0 0, .agg [.int .i64 p, .int .i64 q], .agg [.int .i64 p', .int .i64 q']] ⟨[some [.bool g]]⟩) (endH (fun b => b) r_impl_sums_sub (frA (valO (subO p q p' q'))) [some [.bool (g || (subO p q p' q').isNone)]])
  simp -dsimp -implicitDefEqProofs [c_impl_sums_sub, r_impl_sums_sub, (frIn_neg h.2).2, sp_add_eq _ _ _ _ _ ⟨h.1, (frIn_neg h.2).1⟩, hsub, subO]
def toldA (g : Bool) (p q : Int) : AV := if g = true then .tup [.agg [.int .i64 0, .int .i64 0], .int .i64 3] else .tup [.agg [.int .i64 p, .int .i64 q], .int .i64 0]
@[simp] theorem toldA_ren (g : Bool) (p q : Int) (f : Nat → Nat) : (toldA g p q).ren f = toldA g p q := by cases g <;> rfl
@[simp] theorem toldA_lt (g : Bool) (p q : Int) (n : Nat) : (toldA g p q).lt n = true := by cases g <;> rfl
noncomputable def sp_told : List AV → List AV → Option (AV × List AV) := pm (pf (ι := (Bool) × (Int) × (Int)) (α := AV × List AV) (fun ⟨g, p, q⟩ => True) (fun i => .agg ((fun ⟨g, p, q⟩ => [.bool g] : (Bool) × (Int) × (Int) → List AV) i) :: (fun ⟨g, p, q⟩ => [.agg [.int .i64 p, .int .i64 q]] : (Bool) × (Int) × (Int) → List AV) i) (fun ⟨g, p, q⟩ => (toldA g p q, [.bool g])))
theorem sp_told_eq (g : Bool) (p q : Int) : sp_told [.bool g] [.agg [.int .i64 p, .int .i64 q]] = some (toldA g p q, [.bool g]) := by
  unfold sp_told pm
  exact pf_eq (ι := (Bool) × (Int) × (Int)) (α := AV × List AV) (g, p, q) trivial (by rintro ⟨g', p', q'⟩ _ e; simp_all [Int.natCast_inj])
attribute [simp] sp_told_eq
theorem m_impl_sums_told : QM PP 71 sp_told := by
  refine QM_pf (fun i h => ?_) fun i h => ?_
  · obtain ⟨g, p, q⟩ := i; exact ⟨⟨by first | rfl | simp, by first | rfl | simp⟩, by first | rfl | simp, by first | rfl | simp⟩
  obtain ⟨g, p, q⟩ := i
  replace h : True := h
  refine H_code Quiet.nil hmix k_impl_sums_told rfl (fun b => b) (Nat.le_refl _) (fun _ _ => rfl) rfl (by first | rfl | simp) ?_
  show wpc 1 PP _ c_impl_sums_told (initSt [.ptr 0 0, .agg [.int .i64 p, .int .i64 q]] ⟨[some [.bool g]]⟩) (endH (fun b => b) r_impl_sums_told (toldA g p q) [some [.bool g]])
  cases g <;> simp -dsimp -implicitDefEqProofs [c_impl_sums_told, r_impl_sums_told, hsub, toldA]

noncomputable def sp_l02Add : List AV → Option (AV) := pf (ι := (Int) × (Int) × (Int) × (Int)) (α := AV) (fun ⟨p, q, p', q'⟩ => frIn p q ∧ frIn p' q') (fun ⟨p, q, p', q'⟩ => [.agg [.int .i64 p, .int .i64 q], .agg [.int .i64 p', .int .i64 q']]) (fun ⟨p, q, p', q'⟩ => frO (addO p q p' q'))
theorem sp_l02Add_eq (p q p' q' : Int) (h : frIn p q ∧ frIn p' q') : sp_l02Add [.agg [.int .i64 p, .int .i64 q], .agg [.int .i64 p', .int .i64 q']] = some (frO (addO p q p' q')) := by
  unfold sp_l02Add
  exact pf_eq (ι := (Int) × (Int) × (Int) × (Int)) (α := AV) (p, q, p', q') h (by rintro ⟨p', q', p'', q''⟩ _ e; simp_all [Int.natCast_inj])
theorem q_spec_l02Add : QP PP 103 sp_l02Add := by
  refine QP_pf (fun i h => ?_) fun i h => ?_
  · obtain ⟨p, q, p', q'⟩ := i; exact ⟨by first | rfl | simp, by first | rfl | simp⟩
  obtain ⟨p, q, p', q'⟩ := i
  replace h : frIn p q ∧ frIn p' q' := h
  refine P_code (Quiet.q1 q_spec_l02Lowest Quiet.nil) hmix k_spec_l02Add rfl ?_ ?_
  · first | rfl | simp
  show wpc 0 PP _ c_spec_l02Add (initSt [.agg [.int .i64 p, .int .i64 q], .agg [.int .i64 p', .int .i64 q']] .nil) (endP r_spec_l02Add (frO (addO p q p' q')))
  obtain ⟨d1, d2, d3, w1, w2, w3, w4⟩ := add_pre h.1 h.2
  simp -dsimp -implicitDefEqProofs [c_spec_l02Add, r_spec_l02Add, w1, w2, w3, w4, sp_lowO_eq _ _ ⟨d1, d2, d3⟩, addO]
  cases lowO (p * q' + p' * q) (q * q') <;> simp -dsimp -implicitDefEqProofs [frO]
noncomputable def sp_l02Mul : List AV → Option (AV) := pf (ι := (Int) × (Int) × (Int) × (Int)) (α := AV) (fun ⟨p, q, p', q'⟩ => frIn p q ∧ frIn p' q') (fun ⟨p, q, p', q'⟩ => [.agg [.int .i64 p, .int .i64 q], .agg [.int .i64 p', .int .i64 q']]) (fun ⟨p, q, p', q'⟩ => frO (mulO p q p' q'))
theorem sp_l02Mul_eq (p q p' q' : Int) (h : frIn p q ∧ frIn p' q') : sp_l02Mul [.agg [.int .i64 p, .int .i64 q], .agg [.int .i64 p', .int .i64 q']] = some (frO (mulO p q p' q')) := by
  unfold sp_l02Mul
  exact pf_eq (ι := (Int) × (Int) × (Int) × (Int)) (α := AV) (p, q, p', q') h (by rintro ⟨p', q', p'', q''⟩ _ e; simp_all [Int.natCast_inj])
theorem q_spec_l02Mul : QP PP 84 sp_l02Mul := by
  refine QP_pf (fun i h => ?_) fun i h => ?_
  · obtain ⟨p, q, p', q'⟩ := i; exact ⟨by first | rfl | simp, by first | rfl | simp⟩
  obtain ⟨p, q, p', q'⟩ := i
  replace h : frIn p q ∧ frIn p' q' := h
  refine P_code (Quiet.q1 q_spec_l02Lowest Quiet.nil) hmix k_spec_l02Mul rfl ?_ ?_
  · first | rfl | simp
  show wpc 0 PP _ c_spec_l02Mul (initSt [.agg [.int .i64 p, .int .i64 q], .agg [.int .i64 p', .int .i64 q']] .nil) (endP r_spec_l02Mul (frO (mulO p q p' q')))
  obtain ⟨d1, d2, d3, w1, w2⟩ := mul_pre h.1 h.2
  simp -dsimp -implicitDefEqProofs [c_spec_l02Mul, r_spec_l02Mul, w1, w2, sp_lowO_eq _ _ ⟨d1, d2, d3⟩, mulO]
  cases lowO (p * p') (q * q') <;> simp -dsimp -implicitDefEqProofs [frO]
noncomputable def sp_l02Div : List AV → Option (AV) := pf (ι := (Int) × (Int) × (Int) × (Int)) (α := AV) (fun ⟨p, q, p', q'⟩ => frIn p q ∧ frIn p' q' ∧ p' ≠ 0) (fun ⟨p, q, p', q'⟩ => [.agg [.int .i64 p, .int .i64 q], .agg [.int .i64 p', .int .i64 q']]) (fun ⟨p, q, p', q'⟩ => frO (divO p q p' q'))
theorem sp_l02Div_eq (p q p' q' : Int) (h : frIn p q ∧ frIn p' q' ∧ p' ≠ 0) : sp_l02Div [.agg [.int .i64 p, .int .i64 q], .agg [.int .i64 p', .int .i64 q']] = some (frO (divO p q p' q')) := by
  unfold sp_l02Div
  exact pf_eq (ι := (Int) × (Int) × (Int) × (Int)) (α := AV) (p, q, p', q') h (by rintro ⟨p', q', p'', q''⟩ _ e; simp_all [Int.natCast_inj])
noncomputable def sp_opposite : List AV → Option (AV) := pf (ι := (Int) × (Int)) (α := AV) (fun ⟨p, q⟩ => frIn p q) (fun ⟨p, q⟩ => [.agg [.int .i64 p, .int .i64 q]]) (fun ⟨p, q⟩ => .agg [.int .i64 (-p), .int .i64 q])
theorem sp_opposite_eq (p q : Int) (h : frIn p q) : sp_opposite [.agg [.int .i64 p, .int .i64 q]] = some (.agg [.int .i64 (-p), .int .i64 q]) := by
  unfold sp_opposite
  exact pf_eq (ι := (Int) × (Int)) (α := AV) (p, q) h (by rintro ⟨p', q'⟩ _ e; simp_all [Int.natCast_inj])
theorem q_spec_l02Opposite : QP PP 149 sp_opposite := by
  refine QP_pf (fun i h => ?_) fun i h => ?_
  · obtain ⟨p, q⟩ := i; exact ⟨by first | rfl | simp, by first | rfl | simp⟩
  obtain ⟨p, q⟩ := i
  replace h : frIn p q := h
  refine P_code Quiet.nil hmix k_spec_l02Opposite rfl ?_ ?_
  · first | rfl | simp
  show wpc 0 PP _ c_spec_l02Opposite (initSt [.agg [.int .i64 p, .int .i64 q]] .nil) (endP r_spec_l02Opposite (.agg [.int .i64 (-p), .int .i64 q]))
  simp -dsimp -implicitDefEqProofs [c_spec_l02Opposite, r_spec_l02Opposite, (frIn_neg h).2]
noncomputable def sp_l02Sub : List AV → Option (AV) := pf (ι := (Int) × (Int) × (Int) × (Int)) (α := AV) (fun ⟨p, q, p', q'⟩ => frIn p q ∧ frIn p' q') (fun ⟨p, q, p', q'⟩ => [.agg [.int .i64 p, .int .i64 q], .agg [.int .i64 p', .int .i64 q']]) (fun ⟨p, q, p', q'⟩ => frO (subO p q p' q'))
theorem sp_l02Sub_eq (p q p' q' : Int) (h : frIn p q ∧ frIn p' q') : sp_l02Sub [.agg [.int .i64 p, .int .i64 q], .agg [.int .i64 p', .int .i64 q']] = some (frO (subO p q p' q')) := by
  unfold sp_l02Sub
  exact pf_eq (ι := (Int) × (Int) × (Int) × (Int)) (α := AV) (p, q, p', q') h (by rintro ⟨p', q', p'', q''⟩ _ e; simp_all [Int.natCast_inj])
theorem q_spec_l02Sub : QP PP 85 sp_l02Sub := by
  refine QP_pf (fun i h => ?_) fun i h => ?_
  · obtain ⟨p, q, p', q'⟩ := i; exact ⟨by first | rfl | simp, by first | rfl | simp⟩
  obtain ⟨p, q, p', q'⟩ := i
  replace h : frIn p q ∧ frIn p' q' := h
  refine P_code (Quiet.q1 q_spec_l02Opposite (Quiet.q1 q_spec_l02Add Quiet.nil)) hmix k_spec_l02Sub rfl ?_ ?_
  · first | rfl | simp
  show wpc 0 PP _ c_spec_l02Sub (initSt [.agg [.int .i64 p, .int .i64 q], .agg [.int .i64 p', .int .i64 q']] .nil) (endP r_spec_l02Sub (frO (subO p q p' q')))
  simp -dsimp -implicitDefEqProofs [c_spec_l02Sub, r_spec_l02Sub, sp_opposite_eq _ _ h.2, sp_l02Add_eq _ _ _ _ ⟨h.1, (frIn_neg h.2).1⟩, subO]
  cases addO p q (-p') q' <;> simp -dsimp -implicitDefEqProofs [frO]

end Go.Proofs.YtkgodhdpcomjbaaAi
