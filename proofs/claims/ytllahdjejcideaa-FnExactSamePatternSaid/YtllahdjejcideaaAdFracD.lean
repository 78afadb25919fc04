/- Contracts: patterns are compared. -/
import Derived.Test.YtllahdjejcideaaAdFracC
namespace Go.Proofs.YtllahdjejcideaaAi
open Go Go.RowKit
set_option linter.unusedVariables false
set_option linter.unusedSimpArgs false

def sp_eqPattern : List AV → Option AV
  | [.agg [.int .i64 n, .int .u32 e, .int .u32 l, .sl xs _], .agg [.int .i64 n', .int .u32 e', .int .u32 l', .sl ys _]] =>
    (deFrs xs).bind fun ps => (deFrs ys).bind fun qs => if ps.length ≤ maxLen then some (.bool (n == n' && e == e' && l == l' && decide (ps = qs))) else none
  | _ => none
@[simp] theorem sp_eqPattern_eq (n e l n' e' l' : Int) (ps qs : List (Int × Int)) (t t' : Bool) : sp_eqPattern [ptA n e l ps t, ptA n' e' l' qs t'] = if ps.length ≤ maxLen then some (.bool (n == n' && e == e' && l == l' && decide (ps = qs))) else none := by
  simp [sp_eqPattern, ptA]

theorem q_eqPattern : QF PP 15 sp_eqPattern := by
  intro args r h A
  unfold sp_eqPattern at h
  split at h
  · rename_i n e l xs t n' e' l' ys t'
    replace h := Option.bind_eq_some_iff.1 h
    obtain ⟨ps, hps, h⟩ := h
    obtain rfl := deFrs_some hps
    replace h := Option.bind_eq_some_iff.1 h
    obtain ⟨qs, hqs, h⟩ := h
    obtain rfl := deFrs_some hqs
    split at h
    · rename_i hml
      obtain rfl := Option.some.inj h
      clear h hps hqs
      refine Q_code (Quiet.cons q_eqGraph (Quiet.cons q_eqFractionS Quiet.nil)) hmix k_laws_eqPattern rfl ?_
      simp -dsimp -implicitDefEqProofs [c_laws_eqPattern, r_laws_eqPattern]
      intro b1 h1
      simp -dsimp -implicitDefEqProofs
      intro b2 h2
      rw [AHeap.set_none] at h2
      have hn := h2.1
      have hn' := Ne.symm h2.1
      simp -dsimp -implicitDefEqProofs [*]
      repeat' (refine brW_of (fun h => ?_) (fun h => ?_) <;> have h00 := h <;> have h0 := h <;> (try simp only [Bool.not_eq_true', Bool.not_eq_false'] at h0) <;> (try simp only [Bool.and_eq_true, Bool.and_eq_false_iff, Bool.or_eq_true, Bool.or_eq_false_iff, Bool.not_eq_true', Bool.not_eq_false', decide_eq_true_eq, decide_eq_false_iff_not, beq_iff_eq, beq_eq_false_iff_ne, bne_iff_ne, bne_eq_false_iff_eq] at h) <;> simp -dsimp -implicitDefEqProofs [*])
      all_goals (try refine ⟨?_, fun e1 e2 => by rcases h with h | h <;> contradiction⟩)
      all_goals repeat' (first | exact AHeap.le.refl _ | assumption | exact h2.2 | apply AHeap.le_set' | apply AHeap.le_del')
    · cases h
  · cases h

theorem q_impl_SamePattern : QF PP 14 sp_eqPattern := by
  intro args r h A
  unfold sp_eqPattern at h
  split at h
  · rename_i n e l xs t n' e' l' ys t'
    replace h := Option.bind_eq_some_iff.1 h
    obtain ⟨ps, hps, h⟩ := h
    obtain rfl := deFrs_some hps
    replace h := Option.bind_eq_some_iff.1 h
    obtain ⟨qs, hqs, h⟩ := h
    obtain rfl := deFrs_some hqs
    split at h
    · rename_i hml
      obtain rfl := Option.some.inj h
      clear h hps hqs
      refine Q_code (Quiet.cons q_Equal Quiet.nil) hmix k_impl_SamePattern rfl ?_
      simp -dsimp -implicitDefEqProofs [c_impl_SamePattern, r_impl_SamePattern]
      intro b1 h1
      simp -dsimp -implicitDefEqProofs
      intro b2 h2
      rw [AHeap.set_none] at h2
      have hn := h2.1
      have hn' := Ne.symm h2.1
      simp -dsimp -implicitDefEqProofs [*]
      repeat' (refine brW_of (fun h => ?_) (fun h => ?_) <;> have h00 := h <;> have h0 := h <;> (try simp only [Bool.not_eq_true', Bool.not_eq_false'] at h0) <;> (try simp only [Bool.and_eq_true, Bool.and_eq_false_iff, Bool.or_eq_true, Bool.or_eq_false_iff, Bool.not_eq_true', Bool.not_eq_false', decide_eq_true_eq, decide_eq_false_iff_not, beq_iff_eq, beq_eq_false_iff_ne, bne_iff_ne, bne_eq_false_iff_eq] at h) <;> simp -dsimp -implicitDefEqProofs [*])
      all_goals repeat' (first | exact AHeap.le.refl _ | assumption | exact h2.2 | apply AHeap.le_set' | apply AHeap.le_del')
    · cases h
  · cases h

theorem q_spec_SamePattern : QF PP 12 sp_eqPattern := by
  intro args r h A
  unfold sp_eqPattern at h
  split at h
  · rename_i n e l xs t n' e' l' ys t'
    replace h := Option.bind_eq_some_iff.1 h
    obtain ⟨ps, hps, h⟩ := h
    obtain rfl := deFrs_some hps
    replace h := Option.bind_eq_some_iff.1 h
    obtain ⟨qs, hqs, h⟩ := h
    obtain rfl := deFrs_some hqs
    split at h
    · rename_i hml
      obtain rfl := Option.some.inj h
      clear h hps hqs
      refine Q_code Quiet.nil hmix k_spec_SamePattern rfl ?_
      simp -dsimp -implicitDefEqProofs [c_spec_SamePattern, r_spec_SamePattern]
      intro b1 h1
      simp -dsimp -implicitDefEqProofs
      intro b2 h2
      rw [AHeap.set_none] at h2
      have hn := h2.1
      have hn' := Ne.symm h2.1
      simp -dsimp -implicitDefEqProofs [*]
      repeat' (refine brW_of (fun h => ?_) (fun h => ?_) <;> have h00 := h <;> have h0 := h <;> (try simp only [Bool.not_eq_true', Bool.not_eq_false'] at h0) <;> (try simp only [Bool.and_eq_true, Bool.and_eq_false_iff, Bool.or_eq_true, Bool.or_eq_false_iff, Bool.not_eq_true', Bool.not_eq_false', decide_eq_true_eq, decide_eq_false_iff_not, beq_iff_eq, beq_eq_false_iff_ne, bne_iff_ne, bne_eq_false_iff_eq] at h) <;> simp -dsimp -implicitDefEqProofs [*])
      · refine ⟨?_, fun e => h (by rw [e])⟩
        repeat' (first | exact AHeap.le.refl _ | assumption | exact h2.2 | apply AHeap.le_set' | apply AHeap.le_del')
      · have hlen : ps.length = qs.length := by omega
        refine wpLoop_idx (k := 5) (n := ps.length) (i0 := 0) (J := fun i s => s.t 2 = .ptr b1 0 ∧ s.t 3 = .ptr b2 0 ∧ s.A = (A.set b1 [.int .i64 n', .int .u32 e', .int .u32 l', .sl (frsA ps) t]).set b2 [.int .i64 n', .int .u32 e', .int .u32 l', .sl (frsA qs) t'] ∧ ps.take i = qs.take i) (Nat.zero_le _) (by simp -dsimp)
          ⟨by simp -dsimp, by simp -dsimp, rfl, by simp⟩ ?_
        rintro i t1 A1 hi hk ⟨ht2, ht3, hA, hf⟩
        simp only at ht2 ht3 hA
        subst hA
        simp -dsimp -implicitDefEqProofs [hk, ht2, ht3, hn, hn']
        refine brW_of (fun h => ?_) (fun h => ?_) <;> simp only [decide_eq_true_eq, decide_eq_false_iff_not] at h
        · have hi' : i < ps.length := by omega
          have hj' : i < qs.length := by omega
          simp only [maxLen] at hml
          have hw : IntKind.i64.wrap ((i : Int) + 1) = (i : Int) + 1 := wrapI64 (by omega) (by omega)
          simp -dsimp -implicitDefEqProofs [hk, ht2, ht3, hi', hj', hw, hn, hn']
          refine brW_of (fun h => ?_) (fun h => ?_)
          · have hne : ¬ ps = qs := by
              intro e
              subst e
              simp at h
            simp -dsimp -implicitDefEqProofs [hne]
            repeat' (first | exact AHeap.le.refl _ | assumption | exact h2.2 | apply AHeap.le_set' | apply AHeap.le_del')
          · have he : ps[i] = qs[i] := by
              simp at h
              exact Prod.ext h.1 h.2
            simp -dsimp -implicitDefEqProofs [hk, ht2, ht3, hw]
            exact ⟨by omega, by rw [take_snoc ps i hi', take_snoc qs i hj', hf, he]⟩
        · have hi' : i = ps.length := by omega
          have he : ps = qs := by
            rw [hi', List.take_length, hlen, List.take_length] at hf
            exact hf
          simp -dsimp -implicitDefEqProofs [he]
          refine ⟨?_, ‹n = n' ∧ e = e'›, ‹l = l'›⟩
          repeat' (first | exact AHeap.le.refl _ | assumption | exact h2.2 | apply AHeap.le_set' | apply AHeap.le_del')
      · repeat' (first | exact AHeap.le.refl _ | assumption | exact h2.2 | apply AHeap.le_set' | apply AHeap.le_del')
      · have hX : (!n == n' || !e == e') = true := by rw [← Bool.not_and, h0]; rfl
        simp -dsimp -implicitDefEqProofs [*]
        repeat' (first | exact AHeap.le.refl _ | assumption | exact h2.2 | apply AHeap.le_set' | apply AHeap.le_del')
    · cases h
  · cases h

end Go.Proofs.YtllahdjejcideaaAi
