/- Contracts: copies of arguments, as objects. -/
import Derived.Test.YtkgodhdpcomjbaaAdB2
import Derived.Test.YtkgodhdpcomjbaaAdCell
import Derived.Test.YtkgodhdpcomjbaaAcF
namespace Go.Proofs.YtkgodhdpcomjbaaAi
open Go Go.RowKit
set_option linter.unusedVariables false
set_option linter.unusedSimpArgs false
set_option maxRecDepth 20000

theorem fill_step {α : Type} (l : List α) (z : α) (i : Nat) (h : i < l.length) : (l.take i ++ List.replicate (l.length - i) z).set i l[i] = l.take (i + 1) ++ List.replicate (l.length - (i + 1)) z := by
  have e : l.length - i = (l.length - (i + 1)) + 1 := by omega
  rw [List.set_append_right _ _ (by simp; omega), e, List.replicate_succ]
  have e2 : i - (l.take i).length = 0 := by simp; omega
  rw [e2, List.set_cons_zero, take_snoc l i h, List.append_assoc]
  rfl
theorem fill_len {α : Type} (l : List α) (z : α) (i : Nat) (h : i ≤ l.length) : (l.take i ++ List.replicate (l.length - i) z).length = l.length := by simp; omega
noncomputable def sp_toFrN : List AV → Option (AV × List (Option (List AV))) := pf (ι := (List Fr)) (α := AV × List (Option (List AV))) (fun ps => ps.length ≤ 1048576) (fun ps => [.sl (frsA ps) false]) (fun ps => (.ref 0 2 0 ps.length .tight, [some (flatA (frsA ps))]))
theorem sp_toFrN_eq (ps : List Fr) (h : ps.length ≤ 1048576) : sp_toFrN [.sl (frsA ps) false] = some ((.ref 0 2 0 ps.length .tight, [some (flatA (frsA ps))])) := by
  unfold sp_toFrN
  exact pf_eq (ι := (List Fr)) (α := AV × List (Option (List AV))) ps h (by rintro ps' _ e; simp_all [Int.natCast_inj])
theorem n_laws_toFractionS : QN PP 64 sp_toFrN := by
  refine QN_pf (fun ps h => ?_) fun ps h => ?_
  · first | rfl | simp
  replace h : ps.length ≤ 1048576 := h
  show T PP 64 [.sl (frsA ps) false] .nil fun r' A' => r' = (((.ref 0 2 0 ps.length .tight, [some (flatA (frsA ps))]) : AV × List (Option (List AV)))).1 ∧ A' = ⟨(((.ref 0 2 0 ps.length .tight, [some (flatA (frsA ps))]) : AV × List (Option (List AV)))).2⟩
  have hm : (ps.length : Int) * 17 ≤ (mostBytes : Int) := by simp only [mostBytes]; omega
  refine H_code (Quiet.q1 q_laws_toFraction Quiet.nil) hmix k_laws_toFractionS rfl (fun b => b) (by simp [AHeap.n, AHeap.nil]) (by intro b hb; simp [AHeap.n, AHeap.nil] at hb <;> subst hb <;> rfl) (by rfl) (by first | rfl | simp) ?_
  simp -dsimp -implicitDefEqProofs [c_laws_toFractionS, r_laws_toFractionS, hm]
  refine wpLoop_st (fun (i : Nat × List Fr) => ⟨tl [(0, .sl (frsA ps) false), (3, .ref 0 2 0 ps.length .tight), (4, .int .i64 i.1)], ⟨[some (flatA (frsA i.2))]⟩⟩) (fun i => i.1 ≤ ps.length ∧ i.2.length = ps.length ∧ i.2 = ps.take i.1 ++ List.replicate (ps.length - i.1) ⟨0, 0⟩) (fun i => ps.length - i.1) (0, List.replicate ps.length ⟨0, 0⟩) ⟨by simp, by simp, by simp⟩ (Sub.keep (by simp) (by simp [hsub]) (by simp)) ?_
  rintro ⟨i, L⟩ ⟨h1, h2, h3⟩
  simp only at h1 h2 h3
  simp -dsimp -implicitDefEqProofs
  refine brW_of (fun h => ?_) (fun h => ?_) <;> simp only [decide_eq_true_eq, decide_eq_false_iff_not] at h
  · have hi : i < ps.length := by omega
    have hw := wrapNat (i := i) (by omega)
    have f1 : i * 2 + 2 ≤ L.length * 2 := by omega
    have hs := set_fr L i ps[i].p ps[i].q (by omega)
    simp -dsimp -implicitDefEqProofs [hi, f1, hw, hs]
    refine .mk (i + 1, L.set i ps[i]) ⟨by simp only; omega, by simp [h2], ?_⟩ (by simp only; omega) (Sub.keep (by simp) (by simp [hsub]) (by simp))
    simp only
    rw [h3]
    exact fill_step ps ⟨0, 0⟩ i hi
  · have hi : i = ps.length := by omega
    subst hi
    simp at h3
    subst h3
    simp -dsimp -implicitDefEqProofs [hsub]
    refine ⟨_, Shift.refl _, ?_⟩
    simp -dsimp -implicitDefEqProofs [hsub]
noncomputable def sp_toPatN : List AV → Option (AV × List (Option (List AV))) := pf (ι := (Int) × (Int) × (Int) × (List Fr)) (α := AV × List (Option (List AV))) (fun ⟨n, e, l, ps⟩ => ps.length ≤ 1048576) (fun ⟨n, e, l, ps⟩ => [.agg [.int .i64 n, .int .u32 e, .int .u32 l, .sl (frsA ps) false]]) (fun ⟨n, e, l, ps⟩ => (.agg [.int .i64 n, .int .u32 e, .int .u32 l, .ref 0 2 0 ps.length .tight], [some (flatA (frsA ps))]))
theorem sp_toPatN_eq (n e l : Int) (ps : List Fr) (h : ps.length ≤ 1048576) : sp_toPatN [.agg [.int .i64 n, .int .u32 e, .int .u32 l, .sl (frsA ps) false]] = some ((.agg [.int .i64 n, .int .u32 e, .int .u32 l, .ref 0 2 0 ps.length .tight], [some (flatA (frsA ps))])) := by
  unfold sp_toPatN
  exact pf_eq (ι := (Int) × (Int) × (Int) × (List Fr)) (α := AV × List (Option (List AV))) (n, e, l, ps) h (by rintro ⟨n', e', l', ps'⟩ _ e; simp_all [Int.natCast_inj])
theorem n_laws_toPattern : QN PP 16 sp_toPatN := by
  refine QN_pf (fun i h => ?_) fun i h => ?_
  · obtain ⟨n, e, l, ps⟩ := i; first | rfl | simp
  obtain ⟨n, e, l, ps⟩ := i
  replace h : ps.length ≤ 1048576 := h
  show T PP 16 [.agg [.int .i64 n, .int .u32 e, .int .u32 l, .sl (frsA ps) false]] .nil fun r' A' => r' = (((.agg [.int .i64 n, .int .u32 e, .int .u32 l, .ref 0 2 0 ps.length .tight], [some (flatA (frsA ps))]) : AV × List (Option (List AV)))).1 ∧ A' = ⟨(((.agg [.int .i64 n, .int .u32 e, .int .u32 l, .ref 0 2 0 ps.length .tight], [some (flatA (frsA ps))]) : AV × List (Option (List AV)))).2⟩
  refine H_code (Quiet.q1 q_laws_toGraph (Quiet.e1 n_laws_toFractionS.toE Quiet.nil)) hmix k_laws_toPatternN rfl (fun _ => 3) (by simp [AHeap.n, AHeap.nil]) (by intro b hb; simp [AHeap.n, AHeap.nil] at hb <;> subst hb <;> rfl) (by rfl) (by first | rfl | simp) ?_
  simp -dsimp -implicitDefEqProofs [c_laws_toPatternN, r_laws_toPatternN, sp_toFrN_eq ps h, hsub]
end Go.Proofs.YtkgodhdpcomjbaaAi
