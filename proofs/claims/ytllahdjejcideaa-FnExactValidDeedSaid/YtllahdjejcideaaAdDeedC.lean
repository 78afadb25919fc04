/- Contracts: validity of deeds. -/
import Derived.Test.YtllahdjejcideaaAdDeedA
namespace Go.Proofs.YtllahdjejcideaaAi
open Go Go.RowKit
set_option linter.unusedVariables false
set_option linter.unusedSimpArgs false

theorem deedWord_out {k : Int} (h : ¬ (1 ≤ k ∧ k ≤ 7)) : deedWord k = ⟨#[]⟩ := by
  have h1 : k ≠ 1 := by omega
  have h2 : k ≠ 2 := by omega
  have h3 : k ≠ 3 := by omega
  have h4 : k ≠ 4 := by omega
  have h5 : k ≠ 5 := by omega
  have h6 : k ≠ 6 := by omega
  have h7 : k ≠ 7 := by omega
  simp [deedWord, *]
theorem deedWord_in {k : Int} (h : 1 ≤ k ∧ k ≤ 7) : (deedWord k != ⟨#[]⟩) = true := by
  have hk7 : k = 1 ∨ k = 2 ∨ k = 3 ∨ k = 4 ∨ k = 5 ∨ k = 6 ∨ k = 7 := by omega
  rcases hk7 with rfl | rfl | rfl | rfl | rfl | rfl | rfl <;> decide

theorem q_impl_ValidDeed : QF PP 10 sp_validDeed := by
  intro args r h A
  unfold sp_validDeed at h
  split at h
  · rename_i k a b
    obtain rfl := Option.some.inj h
    clear h
    refine Q_code (Quiet.cons q_impl_wordOf (Quiet.cons q_impl_in Quiet.nil)) hmix k_impl_ValidDeed rfl ?_
    by_cases hk : 1 ≤ k ∧ k ≤ 7
    · have hw := deedWord_in hk
      simp -dsimp -implicitDefEqProofs [c_impl_ValidDeed, r_impl_ValidDeed]
      intro b1 h1
      simp -dsimp -implicitDefEqProofs [hw]
      all_goals repeat' (refine brW_of (fun h => ?_) (fun h => ?_) <;> have h0 := h <;> (try simp only [Bool.and_eq_true, Bool.and_eq_false_iff, Bool.or_eq_true, Bool.or_eq_false_iff, Bool.not_eq_true', Bool.not_eq_false', decide_eq_true_eq, decide_eq_false_iff_not, beq_iff_eq, beq_eq_false_iff_ne, bne_iff_ne, bne_eq_false_iff_eq] at h) <;> (try (refine h.elim (fun h => ?_) (fun h => ?_))) <;> simp -dsimp -implicitDefEqProofs [*])
      all_goals refine ⟨AHeap.le_set' (AHeap.le.refl A) h1, ?_⟩
      all_goals (rw [Bool.eq_iff_iff]; simp [deedValid, hk, *] <;> omega)

    · have hw : (deedWord k != ⟨#[]⟩) = false := by rw [deedWord_out hk]; decide
      have hv : deedValid k a b = false := decide_eq_false fun h => hk ⟨h.1, h.2.1⟩
      simp -dsimp -implicitDefEqProofs [c_impl_ValidDeed, r_impl_ValidDeed]
      intro b1 h1
      simp -dsimp -implicitDefEqProofs [hw, hv]
      exact AHeap.le_set' (AHeap.le.refl A) h1
  · cases h

end Go.Proofs.YtllahdjejcideaaAi
