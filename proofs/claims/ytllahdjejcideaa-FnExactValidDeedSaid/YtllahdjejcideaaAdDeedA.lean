/- Contracts: validity of deeds. -/
import Derived.Test.YtllahdjejcideaaAdBase
import Derived.Test.YtllahdjejcideaaAcA
namespace Go.Proofs.YtllahdjejcideaaAi
open Go Go.RowKit
set_option linter.unusedVariables false
set_option linter.unusedSimpArgs false

def sp_in : List AV → Option AV
  | [.int .i64 n, .int .i64 lo, .int .i64 hi] => some (.bool (decide (lo ≤ n) && decide (n ≤ hi)))
  | _ => none
@[simp] theorem sp_in_eq (n lo hi : Int) : sp_in [.int .i64 n, .int .i64 lo, .int .i64 hi] = some (.bool (decide (lo ≤ n) && decide (n ≤ hi))) := rfl

theorem q_impl_in : QF PP 27 sp_in := by
  intro args r h A
  unfold sp_in at h
  split at h
  · obtain rfl := Option.some.inj h
    refine Q_code Quiet.nil hmix k_impl_in rfl ?_
    simp -dsimp -implicitDefEqProofs [c_impl_in, r_impl_in]
    repeat' (refine brW_of (fun h => ?_) (fun h => ?_) <;> have h0 := h <;> (try simp only [decide_eq_true_eq, decide_eq_false_iff_not] at h) <;> simp -dsimp -implicitDefEqProofs [h, h0])
  · cases h

theorem q_spec_l00In : QF PP 40 sp_in := by
  intro args r h A
  unfold sp_in at h
  split at h
  · obtain rfl := Option.some.inj h
    refine Q_code Quiet.nil hmix k_spec_l00In rfl ?_
    simp -dsimp -implicitDefEqProofs [c_spec_l00In, r_spec_l00In]
    repeat' (refine brW_of (fun h => ?_) (fun h => ?_) <;> have h0 := h <;> (try simp only [decide_eq_true_eq, decide_eq_false_iff_not] at h) <;> simp -dsimp -implicitDefEqProofs [h, h0])
  · cases h

def deedWord (k : Int) : ByteArray :=
  if k = 1 then ⟨#[103, 105, 118, 101]⟩ else if k = 2 then ⟨#[119, 111, 114, 107]⟩ else if k = 3 then ⟨#[100, 101, 108, 105, 118, 101, 114]⟩ else if k = 4 then ⟨#[99, 111, 112, 121]⟩
  else if k = 5 then ⟨#[100, 114, 111, 112]⟩ else if k = 6 then ⟨#[115, 97, 118, 101]⟩ else if k = 7 then ⟨#[99, 114, 97, 115, 104]⟩ else ⟨#[]⟩
def deedMany (k : Int) : Int := if k = 1 then 2 else if k = 2 ∨ k = 3 ∨ k = 4 ∨ k = 5 then 1 else 0

def sp_wordOf : List AV → Option AV
  | [.int .i64 k] => some (.tup [.str (deedWord k), .int .i64 (deedMany k)])
  | _ => none
@[simp] theorem sp_wordOf_eq (k : Int) : sp_wordOf [.int .i64 k] = some (.tup [.str (deedWord k), .int .i64 (deedMany k)]) := rfl

theorem q_impl_wordOf : QF PP 26 sp_wordOf := by
  intro args r h A
  unfold sp_wordOf at h
  split at h
  · obtain rfl := Option.some.inj h
    refine Q_code Quiet.nil hmix k_impl_wordOf rfl ?_
    simp -dsimp -implicitDefEqProofs [c_impl_wordOf, r_impl_wordOf]
    repeat' (refine brW_of (fun h => ?_) (fun h => ?_) <;> have h0 := h <;> (try simp only [decide_eq_true_eq, decide_eq_false_iff_not, beq_iff_eq, beq_eq_false_iff_ne] at h) <;> simp -dsimp -implicitDefEqProofs [h, h0])
    all_goals simp [deedWord, deedMany, *]
  · cases h

def deedWords : List AV := [.str ⟨#[]⟩, .str ⟨#[103, 105, 118, 101]⟩, .str ⟨#[119, 111, 114, 107]⟩, .str ⟨#[100, 101, 108, 105, 118, 101, 114]⟩, .str ⟨#[99, 111, 112, 121]⟩, .str ⟨#[100, 114, 111, 112]⟩, .str ⟨#[115, 97, 118, 101]⟩, .str ⟨#[99, 114, 97, 115, 104]⟩]
def deedTold : List AV := [.int .i64 0, .int .i64 2, .int .i64 1, .int .i64 1, .int .i64 1, .int .i64 1, .int .i64 0, .int .i64 0]
def sp_l08Words : List AV → Option AV
  | [] => some (.tup [.sl deedWords true, .sl deedTold true])
  | _ => none
@[simp] theorem sp_l08Words_eq : sp_l08Words [] = some (.tup [.sl deedWords true, .sl deedTold true]) := rfl

theorem q_spec_l08Words : QF PP 49 sp_l08Words := by
  intro args r h A
  unfold sp_l08Words at h
  split at h
  · obtain rfl := Option.some.inj h
    refine Q_code Quiet.nil hmix k_spec_l08Words rfl ?_
    simp -dsimp -implicitDefEqProofs [c_spec_l08Words, r_spec_l08Words]
    intro b1 h1
    simp -dsimp -implicitDefEqProofs
    intro b2 h2
    rw [AHeap.set_none] at h2
    simp -dsimp -implicitDefEqProofs
    refine ⟨_, Shift.trans (Shift.tmp1 (k := 0) (b := b1) (n := 8) (cs := deedWords) (t := .tight) (by simp -dsimp) (by simp -dsimp [deedWords, Ne.symm h2.1]) rfl rfl) (Shift.tmp1 (k := 1) (b := b2) (n := 8) (cs := deedTold) (t := .tight) (by simp -dsimp) (by simp -dsimp [deedTold, h2.1]) rfl rfl), ?_⟩
    simp -dsimp -implicitDefEqProofs
    exact AHeap.le_del' (AHeap.le_del' (AHeap.le_set' (AHeap.le_set' (AHeap.le.refl A) h1) h2.2) h1) h2.2
  · cases h

def deedValid (k a b : Int) : Bool := decide (1 ≤ k ∧ k ≤ 7 ∧ 0 ≤ a ∧ a ≤ 999 ∧ 0 ≤ b ∧ b ≤ 999 ∧ (0 < deedMany k ∨ a = 0) ∧ (1 < deedMany k ∨ b = 0))
def sp_validDeed : List AV → Option AV
  | [.agg [.int .i64 k, .int .i64 a, .int .i64 b]] => some (.bool (deedValid k a b))
  | _ => none
@[simp] theorem sp_validDeed_eq (k a b : Int) : sp_validDeed [.agg [.int .i64 k, .int .i64 a, .int .i64 b]] = some (.bool (deedValid k a b)) := rfl

end Go.Proofs.YtllahdjejcideaaAi
