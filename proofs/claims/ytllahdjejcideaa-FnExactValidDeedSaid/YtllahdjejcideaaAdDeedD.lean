/- Contracts: validity of deeds. -/
import Derived.Test.YtllahdjejcideaaAdDeedB
import Derived.Test.YtllahdjejcideaaAdDeedC
namespace Go.Proofs.YtllahdjejcideaaAi
open Go Go.RowKit
set_option linter.unusedVariables false
set_option linter.unusedSimpArgs false

theorem q_spec_ValidDeed : QF PP 8 sp_validDeed := by
  intro args r h A
  unfold sp_validDeed at h
  split at h
  · rename_i k a b
    obtain rfl := Option.some.inj h
    refine Q_code (Quiet.cons q_spec_l08Deed Quiet.nil) hmix k_spec_ValidDeed rfl ?_
    simp -dsimp -implicitDefEqProofs [c_spec_ValidDeed, r_spec_ValidDeed]
    intro b1 h1
    simp -dsimp -implicitDefEqProofs
    exact AHeap.le_set' (AHeap.le.refl A) h1
  · cases h

def sp_toDeed : List AV → Option AV
  | [.agg [.int .i64 k, .int .i64 a, .int .i64 b]] => some (.agg [.int .i64 k, .int .i64 a, .int .i64 b])
  | _ => none
@[simp] theorem sp_toDeed_eq (k a b : Int) : sp_toDeed [.agg [.int .i64 k, .int .i64 a, .int .i64 b]] = some (.agg [.int .i64 k, .int .i64 a, .int .i64 b]) := rfl

theorem q_laws_toDeed : QF PP 9 sp_toDeed := by
  intro args r h A
  unfold sp_toDeed at h
  split at h
  · rename_i k a b
    obtain rfl := Option.some.inj h
    refine Q_code Quiet.nil hmix k_laws_toDeed rfl ?_
    simp -dsimp -implicitDefEqProofs [c_laws_toDeed, r_laws_toDeed]
    intro b1 h1
    simp -dsimp -implicitDefEqProofs
    intro b2 h2
    rw [AHeap.set_none] at h2
    simp -dsimp -implicitDefEqProofs
    intro b3 h3
    rw [AHeap.set_none, AHeap.set_none] at h3
    simp -dsimp -implicitDefEqProofs [h2.1, h3.1, h3.2.1, Ne.symm h2.1, Ne.symm h3.1, Ne.symm h3.2.1]
    exact AHeap.le_set' (AHeap.le_set' (AHeap.le_set' (AHeap.le_set' (AHeap.le.refl A) h1) h2.2) h3.2.2) h2.2
  · cases h

theorem law_validDeed (xs : List AV) (h : WtA [.st [.int .i64, .int .i64, .int .i64]] xs) : T PP 3 xs (fun _ => none) fun r _ => r = .bool true := by
  simp only [WtA_cons, WtA_nil, WtV_st, WtL_int, WtL_nil] at h
  obtain ⟨_, _, rfl, ⟨_, rfl, k, _, rfl, _, a, _, rfl, _, b, _, rfl, _, rfl⟩, rfl⟩ := h
  refine (Q_code (r := .bool true) (Quiet.cons q_spec_ValidDeed (Quiet.cons q_laws_toDeed (Quiet.cons q_impl_ValidDeed Quiet.nil))) hmix k_laws_FnExactValidDeed rfl ?_).mono fun r A' h => h.1
  simp -dsimp -implicitDefEqProofs [c_laws_FnExactValidDeed, r_laws_FnExactValidDeed]
  intro b1 h1
  simp -dsimp -implicitDefEqProofs
  exact fun i c e => by cases e

end Go.Proofs.YtllahdjejcideaaAi
