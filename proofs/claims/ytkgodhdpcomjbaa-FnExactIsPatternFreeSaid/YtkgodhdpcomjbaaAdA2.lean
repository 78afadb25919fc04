/- Contracts: common divisors, validity of fractions. -/
import Derived.Test.YtkgodhdpcomjbaaAdA1
namespace Go.Proofs.YtkgodhdpcomjbaaAi
open Go Go.RowKit
set_option linter.unusedVariables false
set_option linter.unusedSimpArgs false

theorem gcd_step (x y : Int) : Int.gcd y (x.tmod y) = Int.gcd x y := by
  unfold Int.gcd
  rw [Int.natAbs_tmod, Nat.gcd_comm, ← Nat.gcd_rec, Nat.gcd_comm]
theorem tmod_bound {a b : Int} (ha : -4611686018427387904 ≤ a ∧ a ≤ 4611686018427387904) : -4611686018427387904 ≤ a.tmod b ∧ a.tmod b ≤ 4611686018427387904 := by
  have h1 : (a.tmod b).natAbs = a.natAbs % b.natAbs := Int.natAbs_tmod ..
  have h2 : a.natAbs % b.natAbs ≤ a.natAbs := Nat.mod_le ..
  omega
theorem tmod_less {a b : Int} (hb : b ≠ 0) : (a.tmod b).natAbs < b.natAbs := by
  rw [Int.natAbs_tmod]
  exact Nat.mod_lt _ (by omega)

noncomputable def sp_size : List AV → Option (AV) := pf (ι := (Int)) (α := AV) (fun n => -4611686018427387904 ≤ n ∧ n ≤ 4611686018427387904) (fun n => [.int .i64 n]) (fun n => .int .i64 n.natAbs)
theorem sp_size_eq (n : Int) (h : -4611686018427387904 ≤ n ∧ n ≤ 4611686018427387904) : sp_size [.int .i64 n] = some (.int .i64 n.natAbs) := by
  unfold sp_size
  exact pf_eq (ι := (Int)) (α := AV) n h (by rintro n' _ e; simp_all [Int.natCast_inj])
theorem q_impl_size : QP PP 179 sp_size := by
  refine QP_pf (fun n h => ?_) fun n h => ?_
  · exact ⟨by first | rfl | simp, by first | rfl | simp⟩
  replace h : -4611686018427387904 ≤ n ∧ n ≤ 4611686018427387904 := h
  refine P_code Quiet.nil hmix k_impl_size rfl ?_ ?_
  · first | rfl | simp
  show wpc 0 PP _ c_impl_size (initSt [.int .i64 n] .nil) (endP r_impl_size (.int .i64 n.natAbs))
  have hw : IntKind.i64.wrap (-n) = -n := wrapI64 (by omega) (by omega)
  simp -dsimp -implicitDefEqProofs [c_impl_size, r_impl_size, hw]
  split <;> omega
theorem q_spec_l02Abs : QP PP 148 sp_size := by
  refine QP_pf (fun n h => ?_) fun n h => ?_
  · exact ⟨by first | rfl | simp, by first | rfl | simp⟩
  replace h : -4611686018427387904 ≤ n ∧ n ≤ 4611686018427387904 := h
  refine P_code Quiet.nil hmix k_spec_l02Abs rfl ?_ ?_
  · first | rfl | simp
  show wpc 0 PP _ c_spec_l02Abs (initSt [.int .i64 n] .nil) (endP r_spec_l02Abs (.int .i64 n.natAbs))
  have hw : IntKind.i64.wrap (-n) = -n := wrapI64 (by omega) (by omega)
  simp -dsimp -implicitDefEqProofs [c_spec_l02Abs, r_spec_l02Abs, hw]
  refine brW_of (fun h => ?_) (fun h => ?_) <;> simp only [decide_eq_true_eq, decide_eq_false_iff_not] at h <;> simp -dsimp -implicitDefEqProofs [h, hw] <;> omega

def in62 (n : Int) : Prop := -4611686018427387904 ≤ n ∧ n ≤ 4611686018427387904
noncomputable def sp_gcd : List AV → Option (AV) := pf (ι := (Int) × (Int)) (α := AV) (fun ⟨a, b⟩ => in62 a ∧ in62 b) (fun ⟨a, b⟩ => [.int .i64 a, .int .i64 b]) (fun ⟨a, b⟩ => .int .i64 (Int.gcd a b))
theorem sp_gcd_eq (a b : Int) (h : in62 a ∧ in62 b) : sp_gcd [.int .i64 a, .int .i64 b] = some (.int .i64 (Int.gcd a b)) := by
  unfold sp_gcd
  exact pf_eq (ι := (Int) × (Int)) (α := AV) (a, b) h (by rintro ⟨a', b'⟩ _ e; simp_all [Int.natCast_inj])
theorem q_impl_gcd : QP PP 160 sp_gcd := by
  refine QP_pf (fun i h => ?_) fun i h => ?_
  · obtain ⟨a, b⟩ := i; exact ⟨by first | rfl | simp, by first | rfl | simp⟩
  obtain ⟨a, b⟩ := i
  replace h : in62 a ∧ in62 b := h
  refine P_code (Quiet.q1 q_impl_size Quiet.nil) hmix k_impl_gcd rfl ?_ ?_
  · first | rfl | simp
  show wpc 0 PP _ c_impl_gcd (initSt [.int .i64 a, .int .i64 b] .nil) (endP r_impl_gcd (.int .i64 (Int.gcd a b)))
  simp -dsimp -implicitDefEqProofs [c_impl_gcd, r_impl_gcd]
  refine wpLoop_st (fun (x : Int × Int) => ⟨tl [(0, .int .i64 x.1), (1, .int .i64 x.2)], ⟨[]⟩⟩) (fun x => in62 x.1 ∧ in62 x.2 ∧ Int.gcd x.1 x.2 = Int.gcd a b) (fun x => x.2.natAbs) (a, b) ⟨h.1, h.2, rfl⟩ (Sub.keep (by simp) (by simp [hsub]) (by simp)) ?_
  rintro ⟨x, y⟩ ⟨bx, by_, hg⟩
  simp -dsimp -implicitDefEqProofs
  refine brW_of (fun h => ?_) (fun h => ?_)
  · have hy0 : y ≠ 0 := by simpa using h
    simp -dsimp -implicitDefEqProofs [hy0]
    exact .mk (y, x.tmod y) ⟨by_, tmod_bound bx, by rw [gcd_step]; exact hg⟩ (tmod_less hy0) (Sub.keep (by simp) (by simp [hsub]) (by simp))
  · have hy0 : y = 0 := by simpa using h
    subst hy0
    simp -dsimp -implicitDefEqProofs [sp_size_eq x bx]
    rw [← hg, Int.gcd_zero_right]

noncomputable def sp_common : List AV → Option (AV) := pf (ι := (Int) × (Int)) (α := AV) (fun ⟨a, b⟩ => (0 ≤ a ∧ a ≤ 4611686018427387904) ∧ (0 ≤ b ∧ b ≤ 4611686018427387904)) (fun ⟨a, b⟩ => [.int .i64 a, .int .i64 b]) (fun ⟨a, b⟩ => .int .i64 (Int.gcd a b))
theorem sp_common_eq (a b : Int) (h : (0 ≤ a ∧ a ≤ 4611686018427387904) ∧ (0 ≤ b ∧ b ≤ 4611686018427387904)) : sp_common [.int .i64 a, .int .i64 b] = some (.int .i64 (Int.gcd a b)) := by
  unfold sp_common
  exact pf_eq (ι := (Int) × (Int)) (α := AV) (a, b) h (by rintro ⟨a', b'⟩ _ e; simp_all [Int.natCast_inj])
theorem q_spec_l02Common : QP PP 147 sp_common := by
  refine QP_pf (fun i h => ?_) fun i h => ?_
  · obtain ⟨a, b⟩ := i; exact ⟨by first | rfl | simp, by first | rfl | simp⟩
  obtain ⟨a, b⟩ := i
  replace h : (0 ≤ a ∧ a ≤ 4611686018427387904) ∧ (0 ≤ b ∧ b ≤ 4611686018427387904) := h
  refine P_code Quiet.nil hmix k_spec_l02Common rfl ?_ ?_
  · first | rfl | simp
  show wpc 0 PP _ c_spec_l02Common (initSt [.int .i64 a, .int .i64 b] .nil) (endP r_spec_l02Common (.int .i64 (Int.gcd a b)))
  simp -dsimp -implicitDefEqProofs [c_spec_l02Common, r_spec_l02Common]
  refine wpLoop_st (fun (x : Int × Int) => ⟨tl [(0, .int .i64 x.1), (1, .int .i64 x.2)], ⟨[]⟩⟩) (fun x => (0 ≤ x.1 ∧ x.1 ≤ 4611686018427387904) ∧ (0 ≤ x.2 ∧ x.2 ≤ 4611686018427387904) ∧ Int.gcd x.1 x.2 = Int.gcd a b) (fun x => x.2.natAbs) (a, b) ⟨h.1, h.2, rfl⟩ (Sub.keep (by simp) (by simp [hsub]) (by simp)) ?_
  rintro ⟨x, y⟩ ⟨bx, by_, hg⟩
  simp -dsimp -implicitDefEqProofs
  simp only at bx by_
  refine brW_of (fun h => ?_) (fun h => ?_)
  · have hy0 : y ≠ 0 := by simpa using h
    simp -dsimp -implicitDefEqProofs [hy0]
    exact .mk (y, x.tmod y) ⟨by_, ⟨Int.tmod_nonneg _ bx.1, (tmod_bound ⟨by omega, bx.2⟩).2⟩, by rw [gcd_step]; exact hg⟩ (tmod_less hy0) (Sub.keep (by simp) (by simp [hsub]) (by simp))
  · have hy0 : y = 0 := by simpa using h
    subst hy0
    simp -dsimp -implicitDefEqProofs
    rw [← hg, Int.gcd_zero_right]
    omega

def frOk (p q : Int) : Bool := decide ((-1000000000 ≤ p ∧ p ≤ 1000000000) ∧ (1 ≤ q ∧ q ≤ 1000000000) ∧ Int.gcd p q = 1)
theorem gcd_abs (p q : Int) : Int.gcd (p.natAbs : Int) q = Int.gcd p q := by simp [Int.gcd]
noncomputable def sp_frOk : List AV → Option (AV) := pf (ι := (Int) × (Int)) (α := AV) (fun ⟨p, q⟩ => True) (fun ⟨p, q⟩ => [.agg [.int .i64 p, .int .i64 q]]) (fun ⟨p, q⟩ => .bool (frOk p q))
theorem sp_frOk_eq (p q : Int) : sp_frOk [.agg [.int .i64 p, .int .i64 q]] = some (.bool (frOk p q)) := by
  unfold sp_frOk
  exact pf_eq (ι := (Int) × (Int)) (α := AV) (p, q) trivial (by rintro ⟨p', q'⟩ _ e; simp_all [Int.natCast_inj])
attribute [simp] sp_frOk_eq
theorem q_spec_l02Ok : QP PP 83 sp_frOk := by
  refine QP_pf (fun i h => ?_) fun i h => ?_
  · obtain ⟨p, q⟩ := i; exact ⟨by first | rfl | simp, by first | rfl | simp⟩
  obtain ⟨p, q⟩ := i
  replace h : True := h
  refine P_code (Quiet.q1 q_spec_l00In (Quiet.q1 q_spec_l02Abs (Quiet.q1 q_spec_l02Common Quiet.nil))) hmix k_spec_l02Ok rfl ?_ ?_
  · first | rfl | simp
  show wpc 0 PP _ c_spec_l02Ok (initSt [.agg [.int .i64 p, .int .i64 q]] .nil) (endP r_spec_l02Ok (.bool (frOk p q)))
  simp -dsimp -implicitDefEqProofs [c_spec_l02Ok, r_spec_l02Ok]
  by_cases c1 : -1000000000 ≤ p ∧ p ≤ 1000000000
  · by_cases c2 : 1 ≤ q ∧ q ≤ 1000000000
    · have hv : frOk p q = ((Int.gcd p q : Int) == 1) := by
        unfold frOk
        rw [Bool.eq_iff_iff]
        simp [c1, c2]
        omega
      simp -dsimp -implicitDefEqProofs [sp_size_eq p (by omega), sp_common_eq p.natAbs q (by omega), c1, c2, gcd_abs, hv]
    · have hv : frOk p q = false := decide_eq_false fun h => c2 h.2.1
      have c2' : (decide (1 ≤ q) && decide (q ≤ 1000000000)) = false := by simpa using c2
      simp -dsimp -implicitDefEqProofs [c1, c2', hv]
  · have hv : frOk p q = false := decide_eq_false fun h => c1 h.1
    have c1' : (decide (-1000000000 ≤ p) && decide (p ≤ 1000000000)) = false := by simpa using c1
    simp -dsimp -implicitDefEqProofs [c1', hv]
theorem q_impl_ValidFraction : QP PP 150 sp_frOk := by
  refine QP_pf (fun i h => ?_) fun i h => ?_
  · obtain ⟨p, q⟩ := i; exact ⟨by first | rfl | simp, by first | rfl | simp⟩
  obtain ⟨p, q⟩ := i
  replace h : True := h
  refine P_code (Quiet.q1 q_impl_gcd Quiet.nil) hmix k_impl_ValidFraction rfl ?_ ?_
  · first | rfl | simp
  show wpc 0 PP _ c_impl_ValidFraction (initSt [.agg [.int .i64 p, .int .i64 q]] .nil) (endP r_impl_ValidFraction (.bool (frOk p q)))
  simp -dsimp -implicitDefEqProofs [c_impl_ValidFraction, r_impl_ValidFraction]
  by_cases c : (-1000000000 ≤ p ∧ p ≤ 1000000000) ∧ (1 ≤ q ∧ q ≤ 1000000000)
  · have c1 : 0 < q := by omega
    have c2 : ¬ q < 1 := by omega
    have hv : frOk p q = ((Int.gcd p q : Int) == 1) := by
      unfold frOk
      rw [Bool.eq_iff_iff]
      simp [c.1, c.2]
      omega
    simp -dsimp -implicitDefEqProofs [sp_gcd_eq p q (by unfold in62; omega), c, c1, c2, hv]
  · have hv : frOk p q = false := decide_eq_false fun h => c ⟨h.1, h.2.1⟩
    rw [hv]
    repeat' (refine brW_of (fun h => ?_) (fun h => ?_) <;> have h0 := h <;> (try simp only [Bool.and_eq_true, Bool.and_eq_false_iff, Bool.or_eq_true, Bool.or_eq_false_iff, Bool.not_eq_true', Bool.not_eq_false', decide_eq_true_eq, decide_eq_false_iff_not, beq_iff_eq, beq_eq_false_iff_ne, bne_iff_ne, bne_eq_false_iff_eq] at h) <;> simp -dsimp -implicitDefEqProofs [h, h0, *])
    all_goals (exfalso; apply c; omega)
noncomputable def sp_badFraction : List AV → Option (AV) := pf (ι := (Int) × (Int)) (α := AV) (fun ⟨p, q⟩ => True) (fun ⟨p, q⟩ => [.agg [.int .i64 p, .int .i64 q]]) (fun ⟨p, q⟩ => .bool (!frOk p q))
theorem sp_badFraction_eq (p q : Int) : sp_badFraction [.agg [.int .i64 p, .int .i64 q]] = some (.bool (!frOk p q)) := by
  unfold sp_badFraction
  exact pf_eq (ι := (Int) × (Int)) (α := AV) (p, q) trivial (by rintro ⟨p', q'⟩ _ e; simp_all [Int.natCast_inj])
attribute [simp] sp_badFraction_eq
theorem q_impl_badFraction : QP PP 88 sp_badFraction := by
  refine QP_pf (fun i h => ?_) fun i h => ?_
  · obtain ⟨p, q⟩ := i; exact ⟨by first | rfl | simp, by first | rfl | simp⟩
  obtain ⟨p, q⟩ := i
  replace h : True := h
  refine P_code (Quiet.q1 q_impl_ValidFraction Quiet.nil) hmix k_impl_badFraction rfl ?_ ?_
  · first | rfl | simp
  show wpc 0 PP _ c_impl_badFraction (initSt [.agg [.int .i64 p, .int .i64 q]] .nil) (endP r_impl_badFraction (.bool (!frOk p q)))
  simp -dsimp -implicitDefEqProofs [c_impl_badFraction, r_impl_badFraction]

end Go.Proofs.YtkgodhdpcomjbaaAi
