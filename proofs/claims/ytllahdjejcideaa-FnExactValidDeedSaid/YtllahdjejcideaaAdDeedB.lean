/- Contracts: validity of deeds. -/
import Derived.Test.YtllahdjejcideaaAdDeedA
namespace Go.Proofs.YtllahdjejcideaaAi
open Go Go.RowKit
set_option linter.unusedVariables false
set_option linter.unusedSimpArgs false

theorem q_spec_l08Deed : QF PP 25 sp_validDeed := by
  intro args r h A
  unfold sp_validDeed at h
  split at h
  · rename_i k a b
    obtain rfl := Option.some.inj h
    refine Q_code (Quiet.cons q_spec_l00In (Quiet.cons q_spec_l08Words Quiet.nil)) hmix k_spec_l08Deed rfl ?_
    by_cases hk : 1 ≤ k ∧ k ≤ 7
    · have hk7 : k = 1 ∨ k = 2 ∨ k = 3 ∨ k = 4 ∨ k = 5 ∨ k = 6 ∨ k = 7 := by omega
      clear hk
      simp -dsimp -implicitDefEqProofs [c_spec_l08Deed, r_spec_l08Deed]
      intro b1 h1
      rcases hk7 with rfl | rfl | rfl | rfl | rfl | rfl | rfl <;> simp -dsimp -implicitDefEqProofs
      all_goals repeat' (refine brW_of (fun h => ?_) (fun h => ?_) <;> have h0 := h <;> (try simp only [Bool.and_eq_true, Bool.and_eq_false_iff, Bool.or_eq_true, Bool.or_eq_false_iff, Bool.not_eq_true', Bool.not_eq_false', decide_eq_true_eq, decide_eq_false_iff_not, beq_iff_eq, beq_eq_false_iff_ne, bne_iff_ne, bne_eq_false_iff_eq] at h) <;> (try (refine h.elim (fun h => ?_) (fun h => ?_))) <;> simp -dsimp -implicitDefEqProofs [h, h0, deedTold])
      all_goals refine ⟨AHeap.le_set' (AHeap.le.refl A) h1, ?_⟩
      all_goals (rw [Bool.eq_iff_iff]; simp [deedValid, deedMany] <;> omega)
    · have hk' : ¬ 1 ≤ k ∨ ¬ k ≤ 7 := by omega
      simp -dsimp -implicitDefEqProofs [c_spec_l08Deed, r_spec_l08Deed]
      intro b1 h1
      rcases hk' with h | h
      · simp -dsimp -implicitDefEqProofs [h, deedValid]
        exact AHeap.le_set' (AHeap.le.refl A) h1
      · simp -dsimp -implicitDefEqProofs [h, deedValid]
        exact AHeap.le_set' (AHeap.le.refl A) h1
  · cases h

end Go.Proofs.YtllahdjejcideaaAi
