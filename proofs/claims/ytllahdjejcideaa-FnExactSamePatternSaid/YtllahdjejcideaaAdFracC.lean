/- Contracts: fractions and patterns are compared. -/
import Derived.Test.YtllahdjejcideaaAdFracB
namespace Go.Proofs.YtllahdjejcideaaAi
open Go Go.RowKit
set_option linter.unusedVariables false
set_option linter.unusedSimpArgs false

def sp_eqFraction : List AV → Option AV
  | [.agg [.int .i64 p, .int .i64 q], .agg [.int .i64 p', .int .i64 q']] => some (.bool (p == p' && q == q'))
  | _ => none
@[simp] theorem sp_eqFraction_eq (p q p' q' : Int) : sp_eqFraction [.agg [.int .i64 p, .int .i64 q], .agg [.int .i64 p', .int .i64 q']] = some (.bool (p == p' && q == q')) := rfl

theorem q_eqFraction : QF PP 51 sp_eqFraction := by
  intro args r h A
  unfold sp_eqFraction at h
  split at h
  · rename_i p q p' q'
    obtain rfl := Option.some.inj h
    clear h
    refine Q_code Quiet.nil hmix k_laws_eqFraction rfl ?_
    simp -dsimp -implicitDefEqProofs [c_laws_eqFraction, r_laws_eqFraction]
    intro b1 h1
    simp -dsimp -implicitDefEqProofs
    intro b2 h2
    rw [AHeap.set_none] at h2
    have hn := h2.1
    have hn' := Ne.symm h2.1
    simp -dsimp -implicitDefEqProofs [*]
    repeat' (refine brW_of (fun h => ?_) (fun h => ?_) <;> have h0 := h <;> (try simp only [Bool.and_eq_true, Bool.and_eq_false_iff, Bool.or_eq_true, Bool.or_eq_false_iff, Bool.not_eq_true', Bool.not_eq_false', decide_eq_true_eq, decide_eq_false_iff_not, beq_iff_eq, beq_eq_false_iff_ne, bne_iff_ne, bne_eq_false_iff_eq] at h) <;> simp -dsimp -implicitDefEqProofs [*])
    all_goals repeat' (first | exact AHeap.le.refl _ | assumption | exact h2.2 | apply AHeap.le_set' | apply AHeap.le_del')
  · cases h

def sp_eqGraph : List AV → Option AV
  | [.agg [.int .i64 p, .int .u32 q], .agg [.int .i64 p', .int .u32 q']] => some (.bool (p == p' && q == q'))
  | _ => none
@[simp] theorem sp_eqGraph_eq (p q p' q' : Int) : sp_eqGraph [.agg [.int .i64 p, .int .u32 q], .agg [.int .i64 p', .int .u32 q']] = some (.bool (p == p' && q == q')) := rfl

theorem q_eqGraph : QF PP 31 sp_eqGraph := by
  intro args r h A
  unfold sp_eqGraph at h
  split at h
  · rename_i p q p' q'
    obtain rfl := Option.some.inj h
    clear h
    refine Q_code Quiet.nil hmix k_laws_eqGraph rfl ?_
    simp -dsimp -implicitDefEqProofs [c_laws_eqGraph, r_laws_eqGraph]
    intro b1 h1
    simp -dsimp -implicitDefEqProofs
    intro b2 h2
    rw [AHeap.set_none] at h2
    have hn := h2.1
    have hn' := Ne.symm h2.1
    simp -dsimp -implicitDefEqProofs [*]
    repeat' (refine brW_of (fun h => ?_) (fun h => ?_) <;> have h0 := h <;> (try simp only [Bool.and_eq_true, Bool.and_eq_false_iff, Bool.or_eq_true, Bool.or_eq_false_iff, Bool.not_eq_true', Bool.not_eq_false', decide_eq_true_eq, decide_eq_false_iff_not, beq_iff_eq, beq_eq_false_iff_ne, bne_iff_ne, bne_eq_false_iff_eq] at h) <;> simp -dsimp -implicitDefEqProofs [*])
    all_goals repeat' (first | exact AHeap.le.refl _ | assumption | exact h2.2 | apply AHeap.le_set' | apply AHeap.le_del')
  · cases h

theorem take_snoc {α : Type} (ps : List α) (i : Nat) (h : i < ps.length) : ps.take (i + 1) = ps.take i ++ [ps[i]] := by
  rw [List.take_add_one, List.getElem?_eq_getElem h]; rfl

def sp_eqFractionS : List AV → Option AV
  | [.sl xs _, .sl ys _] => (deFrs xs).bind fun ps => (deFrs ys).bind fun qs => if ps.length ≤ maxLen then some (.bool (decide (ps = qs))) else none
  | _ => none
@[simp] theorem sp_eqFractionS_eq (ps qs : List (Int × Int)) (t t' : Bool) : sp_eqFractionS [.sl (frsA ps) t, .sl (frsA qs) t'] = if ps.length ≤ maxLen then some (.bool (decide (ps = qs))) else none := by
  simp [sp_eqFractionS]

theorem q_eqFractionS : QF PP 32 sp_eqFractionS := by
  intro args r h A
  unfold sp_eqFractionS at h
  split at h
  · rename_i xs t ys t'
    replace h := Option.bind_eq_some_iff.1 h
    obtain ⟨ps, hps, h⟩ := h
    obtain rfl := deFrs_some hps
    replace h := Option.bind_eq_some_iff.1 h
    obtain ⟨qs, hqs, h⟩ := h
    obtain rfl := deFrs_some hqs
    split at h
    · rename_i hml
      obtain rfl := Option.some.inj h
      clear h hps hqs
      refine Q_code (Quiet.cons q_eqFraction Quiet.nil) hmix k_laws_eqFractionS rfl ?_
      by_cases hlen : ps.length = qs.length
      · have hln : (ps.length : Int) = (qs.length : Int) := by omega
        simp -dsimp -implicitDefEqProofs [c_laws_eqFractionS, r_laws_eqFractionS, hlen]
        refine wpLoop_idx (k := 5) (n := ps.length) (i0 := 0) (J := fun i s => s.t 0 = .sl (frsA ps) t ∧ s.t 1 = .sl (frsA qs) t' ∧ s.A = A ∧ ps.take i = qs.take i) (Nat.zero_le _) (by simp -dsimp)
          ⟨by simp -dsimp, by simp -dsimp, rfl, by simp⟩ ?_
        rintro i t1 A1 hi hk ⟨ht0, ht1, hA, hf⟩
        simp only at ht0 ht1 hA
        subst hA
        simp -dsimp -implicitDefEqProofs [hk, ht0]
        refine brW_of (fun h => ?_) (fun h => ?_) <;> simp only [decide_eq_true_eq, decide_eq_false_iff_not] at h
        · have hi' : i < ps.length := by omega
          have hj' : i < qs.length := by omega
          simp only [maxLen] at hml
          have hw : IntKind.i64.wrap ((i : Int) + 1) = (i : Int) + 1 := wrapI64 (by omega) (by omega)
          simp -dsimp -implicitDefEqProofs [hk, ht0, ht1, hi', hj', hw]
          refine brW_of (fun h => ?_) (fun h => ?_)
          · have hne : ¬ ps = qs := by
              intro e
              subst e
              simp at h
            simp -dsimp -implicitDefEqProofs [hne]
          · have he : ps[i] = qs[i] := by
              simp at h
              exact Prod.ext h.1 h.2
            simp -dsimp -implicitDefEqProofs [hk, ht0, ht1, hw]
            exact ⟨by omega, by rw [take_snoc ps i hi', take_snoc qs i hj', hf, he]⟩
        · have hi' : i = ps.length := by omega
          have he : ps = qs := by
            rw [hi', List.take_length, hlen, List.take_length] at hf
            exact hf
          simp -dsimp -implicitDefEqProofs [he]
      · have hne : ¬ ps = qs := fun e => hlen (by rw [e])
        have hln : ((ps.length : Int) != (qs.length : Int)) = true := by simp; omega
        simp -dsimp -implicitDefEqProofs [c_laws_eqFractionS, r_laws_eqFractionS, hln, hne]
    · cases h
  · cases h

def sp_Equal : List AV → Option AV := sp_eqFractionS

theorem q_Equal : QF PP 30 sp_eqFractionS := by
  intro args r h A
  unfold sp_eqFractionS at h
  split at h
  · rename_i xs t ys t'
    replace h := Option.bind_eq_some_iff.1 h
    obtain ⟨ps, hps, h⟩ := h
    obtain rfl := deFrs_some hps
    replace h := Option.bind_eq_some_iff.1 h
    obtain ⟨qs, hqs, h⟩ := h
    obtain rfl := deFrs_some hqs
    split at h
    · rename_i hml
      obtain rfl := Option.some.inj h
      clear h hps hqs
      refine Q_code Quiet.nil hmix k_slices_Equal_impl_Fraction_impl_Fraction rfl ?_
      by_cases hlen : ps.length = qs.length
      · simp -dsimp -implicitDefEqProofs [c_slices_Equal_impl_Fraction_impl_Fraction, r_slices_Equal_impl_Fraction_impl_Fraction, hlen]
        refine wpLoop_idx (k := 13) (n := ps.length) (i0 := 0) (J := fun i s => s.t 0 = .sl (frsA ps) t ∧ s.t 1 = .sl (frsA qs) t' ∧ s.t 12 = .int .i64 (qs.length : Int) ∧ s.A = A ∧ ps.take i = qs.take i) (Nat.zero_le _) (by simp -dsimp)
          ⟨by simp -dsimp, by simp -dsimp, by simp -dsimp, rfl, by simp⟩ ?_
        rintro i t1 A1 hi hk ⟨ht0, ht1, ht12, hA, hf⟩
        simp only at ht0 ht1 ht12 hA
        subst hA
        simp -dsimp -implicitDefEqProofs [hk, ht12]
        refine brW_of (fun h => ?_) (fun h => ?_) <;> simp only [decide_eq_true_eq, decide_eq_false_iff_not] at h
        · have hi' : i < ps.length := by omega
          have hj' : i < qs.length := by omega
          simp only [maxLen] at hml
          have hw : IntKind.i64.wrap ((i : Int) + 1) = (i : Int) + 1 := wrapI64 (by omega) (by omega)
          simp -dsimp -implicitDefEqProofs [hk, ht0, ht1, ht12, hi', hj', hw]
          refine brW_of (fun h => ?_) (fun h => ?_)
          · have hne : ¬ ps = qs := by
              intro e
              subst e
              simp at h
            simp -dsimp -implicitDefEqProofs [hne]
          · have he : ps[i] = qs[i] := by
              simp at h
              exact Prod.ext h.1 h.2
            simp -dsimp -implicitDefEqProofs [hk, ht0, ht1, ht12, hw]
            exact ⟨by omega, by rw [take_snoc ps i hi', take_snoc qs i hj', hf, he]⟩
        · have hi' : i = ps.length := by omega
          have he : ps = qs := by
            rw [hi', List.take_length, hlen, List.take_length] at hf
            exact hf
          simp -dsimp -implicitDefEqProofs [he]
      · have hne : ¬ ps = qs := fun e => hlen (by rw [e])
        have hln : ((ps.length : Int) != (qs.length : Int)) = true := by simp; omega
        simp -dsimp -implicitDefEqProofs [c_slices_Equal_impl_Fraction_impl_Fraction, r_slices_Equal_impl_Fraction_impl_Fraction, hln, hne]
    · cases h
  · cases h

end Go.Proofs.YtllahdjejcideaaAi
