/- Contracts: lists of fractions are taken over and compared. -/
import Derived.Test.YtllahdjejcideaaAdFracA
namespace Go.Proofs.YtllahdjejcideaaAi
open Go Go.RowKit
set_option linter.unusedVariables false
set_option linter.unusedSimpArgs false

def sp_toFraction : List AV → Option AV
  | [.agg [.int .i64 p, .int .i64 q]] => some (.agg [.int .i64 p, .int .i64 q])
  | _ => none
@[simp] theorem sp_toFraction_eq (p q : Int) : sp_toFraction [.agg [.int .i64 p, .int .i64 q]] = some (.agg [.int .i64 p, .int .i64 q]) := rfl

theorem q_toFraction : QF PP 50 sp_toFraction := by
  intro args r h A
  unfold sp_toFraction at h
  split at h
  · obtain rfl := Option.some.inj h
    refine Q_code Quiet.nil hmix k_laws_toFraction rfl ?_
    simp -dsimp -implicitDefEqProofs [c_laws_toFraction, r_laws_toFraction]
    intro b1 h1
    simp -dsimp -implicitDefEqProofs
    intro b2 h2
    rw [AHeap.set_none] at h2
    simp -dsimp -implicitDefEqProofs
    intro b3 h3
    rw [AHeap.set_none, AHeap.set_none] at h3
    simp -dsimp -implicitDefEqProofs [h2.1, h3.1, h3.2.1, Ne.symm h2.1, Ne.symm h3.1, Ne.symm h3.2.1]
    exact AHeap.le_set' (AHeap.le_set' (AHeap.le_set' (AHeap.le_set' (AHeap.le.refl A) h1) h2.2) h3.2.2) h2.2
  · cases h

def sp_toFractionS : List AV → Option AV
  | [.sl xs _] => (deFrs xs).bind fun ps => if ps.length ≤ 1048576 then some (.sl (frsA ps) true) else none
  | _ => none
@[simp] theorem sp_toFractionS_eq (ps : List (Int × Int)) (t : Bool) : sp_toFractionS [.sl (frsA ps) t] = if ps.length ≤ 1048576 then some (.sl (frsA ps) true) else none := by
  simp [sp_toFractionS]

theorem q_toFractionS : QF PP 29 sp_toFractionS := by
  intro args r h A
  unfold sp_toFractionS at h
  split at h
  · rename_i xs t
    replace h := Option.bind_eq_some_iff.1 h
    obtain ⟨ps, hps, h⟩ := h
    obtain rfl := deFrs_some hps
    split at h
    · rename_i hn
      obtain rfl := Option.some.inj h
      clear h hps
      refine Q_code (Quiet.cons q_toFraction Quiet.nil) hmix k_laws_toFractionS rfl ?_
      have hm : (ps.length : Int) * 17 ≤ (mostBytes : Int) := by simp only [mostBytes]; omega
      simp -dsimp -implicitDefEqProofs [c_laws_toFractionS, r_laws_toFractionS, hm]
      intro b1 h1
      simp -dsimp -implicitDefEqProofs
      refine wpLoop_idx (k := 4) (n := ps.length) (i0 := 0) (J := fun i s => s.t 0 = .sl (frsA ps) t ∧ s.t 3 = .ref b1 2 0 ps.length .tight ∧ ∃ cs, s.A = A.set b1 cs ∧ Filled 2 cs (frsA ps) i) (Nat.zero_le _) (by simp -dsimp)
        ⟨by simp -dsimp, by simp -dsimp, _, rfl, Filled.zero (by simp [flat_len])⟩ ?_
      rintro i t1 A1 hi hk ⟨ht0, ht3, cs, hA, hf⟩
      simp only at ht0 ht3 hA
      subst hA
      simp -dsimp -implicitDefEqProofs [hk, ht0]
      refine brW_of (fun h => ?_) (fun h => ?_) <;> simp only [decide_eq_true_eq, decide_eq_false_iff_not] at h
      · have hi' : i < ps.length := by omega
        have hx : (frsA ps)[i]? = some (frA ps[i]) := by simp [frsA, hi']
        have hx' := hx
        rw [frA] at hx'
        have hl := hf.len
        rw [frsA_length] at hl
        have hfit : i * 2 + 2 ≤ cs.length := by omega
        have hw : IntKind.i64.wrap ((i : Int) + 1) = (i : Int) + 1 := wrapI64 (by omega) (by omega)
        simp -dsimp -implicitDefEqProofs [hk, ht0, ht3, hx', hi', hfit, hw]
        exact ⟨by omega, _, rfl, hf.step hx' rfl⟩
      · have hi' : i = ps.length := by omega
        subst hi'
        simp -dsimp -implicitDefEqProofs [hk, ht0, ht3]
        have hf' : Filled 2 cs (frsA ps) (frsA ps).length := by rw [frsA_length]; exact hf
        have hl := hf.len
        rw [frsA_length] at hl
        refine ⟨_, Shift.tmp (k := 2) (b := b1) (e := 2) (o := 0) (n := ps.length) (xs := frsA ps) (t' := true) (t := .tight) (cs := cs) (by simp -dsimp) (by simp -dsimp) (fun _ => rfl) (by omega) (frsA_length ps) (frsA_cells ps)
          (by rw [hf'.all (frsA_cells ps) (by omega)]; simp [← hl]), ?_⟩
        simp -dsimp -implicitDefEqProofs
        exact AHeap.le_del' (AHeap.le_set' (AHeap.le.refl A) h1) h1
    · cases h
  · cases h

def sp_toGraph : List AV → Option AV
  | [.agg [.int .i64 n, .int .u32 e]] => some (.agg [.int .i64 n, .int .u32 e])
  | _ => none
@[simp] theorem sp_toGraph_eq (n e : Int) : sp_toGraph [.agg [.int .i64 n, .int .u32 e]] = some (.agg [.int .i64 n, .int .u32 e]) := rfl

theorem q_toGraph : QF PP 17 sp_toGraph := by
  intro args r h A
  unfold sp_toGraph at h
  split at h
  · obtain rfl := Option.some.inj h
    refine Q_code Quiet.nil hmix k_laws_toGraph rfl ?_
    simp -dsimp -implicitDefEqProofs [c_laws_toGraph, r_laws_toGraph]
    intro b1 h1
    simp -dsimp -implicitDefEqProofs
    intro b2 h2
    rw [AHeap.set_none] at h2
    simp -dsimp -implicitDefEqProofs
    intro b3 h3
    rw [AHeap.set_none, AHeap.set_none] at h3
    simp -dsimp -implicitDefEqProofs [h2.1, h3.1, h3.2.1, Ne.symm h2.1, Ne.symm h3.1, Ne.symm h3.2.1]
    exact AHeap.le_set' (AHeap.le_set' (AHeap.le_set' (AHeap.le_set' (AHeap.le.refl A) h1) h2.2) h3.2.2) h2.2
  · cases h

abbrev ptA (n e l : Int) (ps : List (Int × Int)) (t : Bool) : AV := .agg [.int .i64 n, .int .u32 e, .int .u32 l, .sl (frsA ps) t]

def sp_szPattern : List AV → Option AV
  | [.agg [.int .i64 _, .int .u32 _, .int .u32 _, .sl xs _], .int .i64 m] => if 0 ≤ m ∧ m ≤ 1048576 ∧ xs.length ≤ maxLen then some (.int .i64 (if (xs.length : Int) ≤ m then m - xs.length else -1)) else none
  | _ => none

theorem q_szPattern : QF PP 11 sp_szPattern := by
  intro args r h A
  unfold sp_szPattern at h
  split at h
  · rename_i n e l xs t m
    split at h
    · rename_i hm
      obtain rfl := Option.some.inj h
      clear h
      refine Q_code (Quiet.cons q_szFractionS Quiet.nil) hmix k_laws_szPattern rfl ?_
      simp -dsimp -implicitDefEqProofs [c_laws_szPattern, r_laws_szPattern]
      intro b1 h1
      by_cases hlt : (xs.length : Int) ≤ m
      · have h2 : ¬ (m - (xs.length : Int) < 0) := by omega
        simp -dsimp -implicitDefEqProofs [sp_szFractionS, hm, hlt, h2]
        exact AHeap.le_set' (AHeap.le.refl A) h1
      · simp -dsimp -implicitDefEqProofs [sp_szFractionS, hm, hlt]
        exact AHeap.le_set' (AHeap.le.refl A) h1
    · cases h
  · cases h

def sp_toPattern : List AV → Option AV
  | [.agg [.int .i64 n, .int .u32 e, .int .u32 l, .sl xs _]] => (deFrs xs).bind fun ps => if ps.length ≤ 1048576 then some (ptA n e l ps true) else none
  | _ => none
@[simp] theorem sp_toPattern_eq (n e l : Int) (ps : List (Int × Int)) (t : Bool) : sp_toPattern [ptA n e l ps t] = if ps.length ≤ 1048576 then some (ptA n e l ps true) else none := by
  simp [sp_toPattern, ptA]

theorem q_toPattern : QF PP 13 sp_toPattern := by
  intro args r h A
  unfold sp_toPattern at h
  split at h
  · rename_i n e l xs t
    replace h := Option.bind_eq_some_iff.1 h
    obtain ⟨ps, hps, h⟩ := h
    obtain rfl := deFrs_some hps
    split at h
    · rename_i hn
      obtain rfl := Option.some.inj h
      clear h hps
      refine Q_code (Quiet.cons q_toGraph (Quiet.cons q_toFractionS Quiet.nil)) hmix k_laws_toPattern rfl ?_
      simp -dsimp -implicitDefEqProofs [c_laws_toPattern, r_laws_toPattern]
      intro b1 h1
      simp -dsimp -implicitDefEqProofs
      intro b2 h2
      rw [AHeap.set_none] at h2
      simp -dsimp -implicitDefEqProofs
      intro b3 h3
      rw [AHeap.set_none, AHeap.set_none] at h3
      simp -dsimp -implicitDefEqProofs [h2.1, h3.1, h3.2.1, Ne.symm h2.1, Ne.symm h3.1, Ne.symm h3.2.1, hn, ptA]
      repeat' (first | exact AHeap.le.refl _ | assumption | exact h2.2 | exact h3.2.2 | apply AHeap.le_set' | apply AHeap.le_del')
    · cases h
  · cases h

end Go.Proofs.YtllahdjejcideaaAi
