/- Contracts: fractions in lowest terms, sums, products. -/
import Derived.Test.YtkgodhdpcomjbaaAdA2
import Derived.Test.YtkgodhdpcomjbaaAcB
namespace Go.Proofs.YtkgodhdpcomjbaaAi
open Go Go.RowKit
set_option linter.unusedVariables false
set_option linter.unusedSimpArgs false

/-- A quotient in lowest terms. -/
def lowP (p q : Int) : Int := (if q < 0 then -p else p).tdiv (Int.gcd p q)
def lowQ (p q : Int) : Int := (if q < 0 then -q else q).tdiv (Int.gcd p q)
theorem gcd_pos {p q : Int} (h : q ≠ 0) : (Int.gcd p q : Int) ≠ 0 := by
  have : 0 < Int.gcd p q := Int.gcd_pos_of_ne_zero_right _ h
  omega
theorem tdiv_small (a b : Int) : (a.tdiv b).natAbs ≤ a.natAbs := by
  rw [Int.natAbs_tdiv]
  exact Nat.div_le_self ..
theorem lowP_in {p q : Int} (h : in62 p) : in62 (lowP p q) := by
  unfold in62 lowP at *
  have := tdiv_small (if q < 0 then -p else p) (Int.gcd p q)
  split at this <;> rename_i hq <;> simp only [hq, if_true, if_false] <;> omega
theorem lowQ_in {p q : Int} (h : in62 q) : in62 (lowQ p q) := by
  unfold in62 lowQ at *
  have := tdiv_small (if q < 0 then -q else q) (Int.gcd p q)
  split at this <;> rename_i hq <;> simp only [hq, if_true, if_false] <;> omega
theorem wrap62 {n : Int} (h : in62 n) : IntKind.i64.wrap n = n := wrapI64 (by unfold in62 at h; omega) (by unfold in62 at h; omega)
theorem tdiv_low (p g : Int) : p.tdiv (-g) = (-p).tdiv g := by rw [Int.tdiv_neg, Int.neg_tdiv]

noncomputable def sp_lowest : List AV → Option (AV) := pf (ι := (Int) × (Int)) (α := AV) (fun ⟨p, q⟩ => in62 p ∧ in62 q ∧ q ≠ 0) (fun ⟨p, q⟩ => [.int .i64 p, .int .i64 q]) (fun ⟨p, q⟩ => .agg [.int .i64 (lowP p q), .int .i64 (lowQ p q)])
theorem sp_lowest_eq (p q : Int) (h : in62 p ∧ in62 q ∧ q ≠ 0) : sp_lowest [.int .i64 p, .int .i64 q] = some (.agg [.int .i64 (lowP p q), .int .i64 (lowQ p q)]) := by
  unfold sp_lowest
  exact pf_eq (ι := (Int) × (Int)) (α := AV) (p, q) h (by rintro ⟨p', q'⟩ _ e; simp_all [Int.natCast_inj])
theorem q_impl_lowest : QP PP 120 sp_lowest := by
  refine QP_pf (fun i h => ?_) fun i h => ?_
  · obtain ⟨p, q⟩ := i; exact ⟨by first | rfl | simp, by first | rfl | simp⟩
  obtain ⟨p, q⟩ := i
  replace h : in62 p ∧ in62 q ∧ q ≠ 0 := h
  refine P_code (Quiet.q1 q_impl_gcd Quiet.nil) hmix k_impl_lowest rfl ?_ ?_
  · first | rfl | simp
  show wpc 0 PP _ c_impl_lowest (initSt [.int .i64 p, .int .i64 q] .nil) (endP r_impl_lowest (.agg [.int .i64 (lowP p q), .int .i64 (lowQ p q)]))
  obtain ⟨hp, hq, h0⟩ := h
  have g0 := gcd_pos (p := p) h0
  have w1 := wrap62 (lowP_in (q := q) hp)
  have w2 := wrap62 (lowQ_in (p := p) hq)
  simp -dsimp -implicitDefEqProofs [c_impl_lowest, r_impl_lowest, sp_gcd_eq p q ⟨hp, hq⟩]
  by_cases hn : q < 0
  · have hg : in62 (Int.gcd p q) := by
      have := Int.gcd_le_natAbs_right (a := p) h0
      unfold in62 at *
      omega
    have w3 : IntKind.i64.wrap (-(Int.gcd p q : Int)) = -(Int.gcd p q : Int) := wrapI64 (by unfold in62 at hg; omega) (by unfold in62 at hg; omega)
    have g0' : ¬ (-(Int.gcd p q : Int)) = 0 := by omega
    have r1 : -(p.tdiv (Int.gcd p q)) = lowP p q := by unfold lowP; rw [if_pos hn, Int.neg_tdiv]
    have r2 : -(q.tdiv (Int.gcd p q)) = lowQ p q := by unfold lowQ; rw [if_pos hn, Int.neg_tdiv]
    simp -dsimp -implicitDefEqProofs [hn, w3, g0', r1, r2, w1, w2, h0]
  · have r1 : p.tdiv (Int.gcd p q) = lowP p q := by unfold lowP; rw [if_neg hn]
    have r2 : q.tdiv (Int.gcd p q) = lowQ p q := by unfold lowQ; rw [if_neg hn]
    simp -dsimp -implicitDefEqProofs [hn, r1, r2, w1, w2, h0]

def smallB (p q : Int) : Bool := decide (p.natAbs ≤ 1000000000) && decide (q ≤ 1000000000)
def lowO (p q : Int) : Option Fr := if smallB (lowP p q) (lowQ p q) = true then some ⟨lowP p q, lowQ p q⟩ else none
/-- A fraction with a code. -/
def frO : Option Fr → AV
  | some x => .tup [frA x, .int .i64 0]
  | none => .tup [.agg [.int .i64 0, .int .i64 0], .int .i64 3]
theorem frO_lt (x : Option Fr) (n : Nat) : (frO x).lt n = true := by cases x <;> rfl
@[simp] theorem frO_ren (x : Option Fr) (f : Nat → Nat) : (frO x).ren f = frO x := by cases x <;> rfl
@[simp] theorem frO_lt' (x : Option Fr) (n : Nat) : (frO x).lt n = true := frO_lt x n
noncomputable def sp_lowO : List AV → Option (AV) := pf (ι := (Int) × (Int)) (α := AV) (fun ⟨p, q⟩ => in62 p ∧ in62 q ∧ q ≠ 0) (fun ⟨p, q⟩ => [.int .i64 p, .int .i64 q]) (fun ⟨p, q⟩ => frO (lowO p q))
theorem sp_lowO_eq (p q : Int) (h : in62 p ∧ in62 q ∧ q ≠ 0) : sp_lowO [.int .i64 p, .int .i64 q] = some (frO (lowO p q)) := by
  unfold sp_lowO
  exact pf_eq (ι := (Int) × (Int)) (α := AV) (p, q) h (by rintro ⟨p', q'⟩ _ e; simp_all [Int.natCast_inj])
theorem q_spec_l02Lowest : QP PP 115 sp_lowO := by
  refine QP_pf (fun i h => ?_) fun i h => ?_
  · obtain ⟨p, q⟩ := i; exact ⟨by first | rfl | simp, by first | rfl | simp⟩
  obtain ⟨p, q⟩ := i
  replace h : in62 p ∧ in62 q ∧ q ≠ 0 := h
  refine P_code (Quiet.q1 q_spec_l02Abs (Quiet.q1 q_spec_l02Common Quiet.nil)) hmix k_spec_l02Lowest rfl ?_ ?_
  · first | rfl | simp
  show wpc 0 PP _ c_spec_l02Lowest (initSt [.int .i64 p, .int .i64 q] .nil) (endP r_spec_l02Lowest (frO (lowO p q)))
  obtain ⟨hp, hq, h0⟩ := h
  have g0 := gcd_pos (p := p) h0
  have b1 := lowP_in (q := q) hp
  have b2 := lowQ_in (p := p) hq
  have w1 := wrap62 b1
  have w2 := wrap62 b2
  by_cases hn : q < 0
  · have n1 : in62 (-p) := by unfold in62 at *; omega
    have n2 : in62 (-q) := by unfold in62 at *; omega
    have d1 := sp_size_eq (-p) n1
    rw [Int.natAbs_neg] at d1
    have d2 := sp_common_eq (p.natAbs : Int) (-q) (by unfold in62 at *; omega)
    rw [gcd_abs, Int.gcd_neg] at d2
    have r1 : -(p.tdiv (Int.gcd p q)) = lowP p q := by unfold lowP; rw [if_pos hn, Int.neg_tdiv]
    have r2 : -(q.tdiv (Int.gcd p q)) = lowQ p q := by unfold lowQ; rw [if_pos hn, Int.neg_tdiv]
    simp -dsimp -implicitDefEqProofs [c_spec_l02Lowest, r_spec_l02Lowest, hn, h0, wrap62 n1, wrap62 n2, d1, d2, g0, r1, r2, w1, w2, sp_size_eq _ b1]
    by_cases c1 : (lowP p q).natAbs ≤ 1000000000
    · have c1' : ¬ (1000000000 : Int) < (lowP p q).natAbs := by omega
      by_cases c : lowQ p q ≤ 1000000000
      · have c' : ¬ 1000000000 < lowQ p q := by omega
        simp -dsimp -implicitDefEqProofs [c1', c', frO, lowO, smallB, c1, c]
      · have c' : 1000000000 < lowQ p q := by omega
        simp -dsimp -implicitDefEqProofs [c1', c', frO, lowO, smallB, c1, c]
    · have c1' : (1000000000 : Int) < (lowP p q).natAbs := by omega
      simp -dsimp -implicitDefEqProofs [c1', frO, lowO, smallB, c1]
  · have d1 := sp_size_eq p hp
    have d2 := sp_common_eq (p.natAbs : Int) q (by unfold in62 at *; omega)
    rw [gcd_abs] at d2
    have r1 : p.tdiv (Int.gcd p q) = lowP p q := by unfold lowP; rw [if_neg hn]
    have r2 : q.tdiv (Int.gcd p q) = lowQ p q := by unfold lowQ; rw [if_neg hn]
    simp -dsimp -implicitDefEqProofs [c_spec_l02Lowest, r_spec_l02Lowest, hn, d1, d2, g0, r1, r2, w1, w2, sp_size_eq _ b1, h0]
    by_cases c1 : (lowP p q).natAbs ≤ 1000000000
    · have c1' : ¬ (1000000000 : Int) < (lowP p q).natAbs := by omega
      by_cases c : lowQ p q ≤ 1000000000
      · have c' : ¬ 1000000000 < lowQ p q := by omega
        simp -dsimp -implicitDefEqProofs [c1', c', frO, lowO, smallB, c1, c]
      · have c' : 1000000000 < lowQ p q := by omega
        simp -dsimp -implicitDefEqProofs [c1', c', frO, lowO, smallB, c1, c]
    · have c1' : (1000000000 : Int) < (lowP p q).natAbs := by omega
      simp -dsimp -implicitDefEqProofs [c1', frO, lowO, smallB, c1]

end Go.Proofs.YtkgodhdpcomjbaaAi
