/- Contracts: marks in patterns. -/
import Derived.Test.YtkgodhdpcomjbaaAdB4
namespace Go.Proofs.YtkgodhdpcomjbaaAi
open Go Go.RowKit
set_option linter.unusedVariables false
set_option linter.unusedSimpArgs false
set_option maxRecDepth 20000

def kOk (k : Int) : Prop := 0 ≤ k ∧ k ≤ 1099511627776
noncomputable def sp_markFr : List (Option (List AV)) → List AV → Option (AV × List (Option (List AV))) := pv (pf (ι := (List Fr) × (Int) × (Cp)) (α := AV × List (Option (List AV))) (fun ⟨ps, k, t⟩ => kOk k ∧ ps.length ≤ 1048576) (fun i => .agg (((fun ⟨ps, k, t⟩ => [some (flatA (frsA ps))] : (List Fr) × (Int) × (Cp) → List (Option (List AV))) i).map enO) :: (fun ⟨ps, k, t⟩ => [.ref 0 2 0 ps.length t, .int .i64 k] : (List Fr) × (Int) × (Cp) → List AV) i) (fun ⟨ps, k, t⟩ => (.int .i64 (k + 2 * ps.length), [some (flatA (frsA (marksF ps.length k)))])))
theorem sp_markFr_eq (ps : List Fr) (k : Int) (t : Cp) (h : kOk k ∧ ps.length ≤ 1048576) : sp_markFr [some (flatA (frsA ps))] [.ref 0 2 0 ps.length t, .int .i64 k] = some (.int .i64 (k + 2 * ps.length), [some (flatA (frsA (marksF ps.length k)))]) := by
  unfold sp_markFr pv
  exact pf_eq (ι := (List Fr) × (Int) × (Cp)) (α := AV × List (Option (List AV))) (ps, k, t) h (by rintro ⟨ps', k', t'⟩ _ e; simp_all [enO])
theorem v_laws_markFractionS : QV PP 51 sp_markFr := by
  refine QV_pf fun i h => ?_
  obtain ⟨ps, k, t⟩ := i
  replace h : kOk k ∧ ps.length ≤ 1048576 := h
  refine H_code Quiet.nil hmix k_laws_markFractionS rfl (fun b => b) (by simp [AHeap.n]) (fun _ _ => rfl) (by rfl) (by first | rfl | simp) ?_
  show wpc _ PP _ c_laws_markFractionS (initSt [.ref 0 2 0 ps.length t, .int .i64 k] ⟨[some (flatA (frsA ps))]⟩) (endH (fun b => b) r_laws_markFractionS (.int .i64 (k + 2 * ps.length)) [some (flatA (frsA (marksF ps.length k)))])
  obtain ⟨hk, hl⟩ := h
  unfold kOk at hk
  simp -dsimp -implicitDefEqProofs [c_laws_markFractionS, r_laws_markFractionS]
  refine wpLoop_st (fun (i : Nat × List Fr) => ⟨tl [(0, .ref 0 2 0 ps.length t), (1, .int .i64 (k + 2 * i.1)), (5, .int .i64 i.1)], ⟨[some (flatA (frsA i.2))]⟩⟩) (fun i => i.1 ≤ ps.length ∧ i.2.length = ps.length ∧ i.2 = (marksF ps.length k).take i.1 ++ ps.drop i.1) (fun i => ps.length - i.1) (0, ps) ⟨by simp, rfl, by simp⟩ (Sub.keep (by simp) (by simp [hsub]) (by simp)) ?_
  rintro ⟨i, L⟩ ⟨h1, h2, h3⟩
  simp only at h1 h2 h3
  simp -dsimp -implicitDefEqProofs
  refine brW_of (fun h => ?_) (fun h => ?_) <;> simp only [decide_eq_true_eq, decide_eq_false_iff_not] at h
  · have hi : i < ps.length := by simpa using h
    have w1 : IntKind.i64.wrap (k + 2 * (i : Int) + 1) = k + 2 * i + 1 := wrapI64 (by omega) (by omega)
    have w2 : IntKind.i64.wrap (k + 2 * (i : Int) + 1 + 1) = k + 2 * i + 1 + 1 := wrapI64 (by omega) (by omega)
    have hw := wrapNat (i := i) (by omega)
    have f1 : i * 2 + 1 ≤ L.length * 2 := by omega
    have f2 : i * 2 + 1 + 1 ≤ L.length * 2 := by omega
    have hs := set_fr L i (k + 2 * i) (k + 2 * i + 1) (by omega)
    simp -dsimp -implicitDefEqProofs [hi, w1, w2, hw, f1, f2, hs]
    refine .mk (i + 1, L.set i ⟨k + 2 * i, k + 2 * i + 1⟩) ⟨by simp only; omega, by simp [h2], ?_⟩ (by simp only; omega) (Sub.keep (by simp) (by simp [hsub]) (by simp [w2, hw]; omega))
    simp only
    rw [h3]
    exact marks_step ps k i hi
  · have hi : i = ps.length := by simp at h; omega
    subst hi
    rw [marks_end] at h3
    subst h3
    simp -dsimp -implicitDefEqProofs [hsub]
noncomputable def sp_markFr0 : List AV → Option (AV) := pf (ι := (Int)) (α := AV) (fun k => True) (fun k => [.sl [] false, .int .i64 k]) (fun k => .int .i64 k)
theorem sp_markFr0_eq (k : Int) : sp_markFr0 [.sl [] false, .int .i64 k] = some (.int .i64 k) := by
  unfold sp_markFr0
  exact pf_eq (ι := (Int)) (α := AV) k trivial (by rintro k' _ e; simp_all [Int.natCast_inj])
attribute [simp] sp_markFr0_eq
theorem q_laws_markFractionS : QP PP 51 sp_markFr0 := by
  refine QP_pf (fun k h => ?_) fun k h => ?_
  · exact ⟨by first | rfl | simp, by first | rfl | simp⟩
  replace h : True := h
  refine P_code Quiet.nil hmix k_laws_markFractionS rfl ?_ ?_
  · first | rfl | simp
  show wpc 0 PP _ c_laws_markFractionS (initSt [.sl [] false, .int .i64 k] .nil) (endP r_laws_markFractionS (.int .i64 k))
  simp -dsimp -implicitDefEqProofs [c_laws_markFractionS, r_laws_markFractionS]
  refine wpLoop_st (fun (_ : Unit) => ⟨tl [(0, .sl [] false), (1, .int .i64 k), (5, .int .i64 0)], ⟨[]⟩⟩) (fun _ => True) (fun _ => 0) () trivial (Sub.keep (by simp) (by simp [hsub]) (by simp)) ?_
  intro _ _
  simp -dsimp -implicitDefEqProofs
theorem e_laws_markFractionS : QE PP 51 (refE (spV sp_markFr) (spR sp_markFr0)) := QE.ref v_laws_markFractionS.toE q_laws_markFractionS.toR
noncomputable def sp_heldFr : List AV → Option (AV) := pf (ι := (Nat) × (Int)) (α := AV) (fun ⟨n, k⟩ => kOk k ∧ n ≤ 1048576) (fun ⟨n, k⟩ => [.sl (frsA (marksF n k)) false, .int .i64 k]) (fun ⟨n, k⟩ => .int .i64 (k + 2 * n))
theorem sp_heldFr_eq (n : Nat) (k : Int) (h : kOk k ∧ n ≤ 1048576) : sp_heldFr [.sl (frsA (marksF n k)) false, .int .i64 k] = some (.int .i64 (k + 2 * n)) := by
  unfold sp_heldFr
  exact pf_eq (ι := (Nat) × (Int)) (α := AV) (n, k) h (by rintro ⟨n', k'⟩ _ e; simp_all [Int.natCast_inj])
theorem q_laws_heldFractionS : QP PP 52 sp_heldFr := by
  refine QP_pf (fun i h => ?_) fun i h => ?_
  · obtain ⟨n, k⟩ := i; exact ⟨by first | rfl | simp, by first | rfl | simp⟩
  obtain ⟨n, k⟩ := i
  replace h : kOk k ∧ n ≤ 1048576 := h
  refine P_code Quiet.nil hmix k_laws_heldFractionS rfl ?_ ?_
  · first | rfl | simp
  show wpc 0 PP _ c_laws_heldFractionS (initSt [.sl (frsA (marksF n k)) false, .int .i64 k] .nil) (endP r_laws_heldFractionS (.int .i64 (k + 2 * n)))
  obtain ⟨hk, hl⟩ := h
  unfold kOk at hk
  simp -dsimp -implicitDefEqProofs [c_laws_heldFractionS, r_laws_heldFractionS]
  refine wpLoop_st (fun (i : Nat) => ⟨tl [(0, .sl (frsA (marksF n k)) false), (1, .int .i64 (k + 2 * i)), (5, .int .i64 i)], ⟨[]⟩⟩) (fun i => i ≤ n) (fun i => n - i) 0 (by omega) (Sub.keep (by simp) (by simp [hsub]) (by simp)) ?_
  intro i hi
  simp -dsimp -implicitDefEqProofs
  refine brW_of (fun h => ?_) (fun h => ?_) <;> simp only [decide_eq_true_eq, decide_eq_false_iff_not] at h
  · have hi : i < n := by simpa using h
    have w1 : IntKind.i64.wrap (k + 2 * (i : Int) + 1) = k + 2 * i + 1 := wrapI64 (by omega) (by omega)
    have w2 : IntKind.i64.wrap (k + 2 * (i : Int) + 1 + 1) = k + 2 * i + 1 + 1 := wrapI64 (by omega) (by omega)
    have hw := wrapNat (i := i) (by omega)
    have hg := marksF_get n k i (by simpa using hi)
    simp -dsimp -implicitDefEqProofs [hi, w1, w2, hw, hg]
    exact .mk (i + 1) (by omega) (by omega) (Sub.keep (by simp) (by simp [hsub]) (by simp [w2, hw]; omega))
  · have hi : i = n := by simp at h; omega
    subst hi
    simp -dsimp -implicitDefEqProofs

noncomputable def sp_markPat : List (Option (List AV)) → List AV → Option (AV × List (Option (List AV))) := pv (pf (ι := (Int) × (Int) × (Int) × (List Fr) × (Int) × (Cp)) (α := AV × List (Option (List AV))) (fun ⟨a, b, c, ps, k, t⟩ => kOk k ∧ ps.length ≤ 1048576) (fun i => .agg (((fun ⟨a, b, c, ps, k, t⟩ => [some (flatA (frsA ps))] : (Int) × (Int) × (Int) × (List Fr) × (Int) × (Cp) → List (Option (List AV))) i).map enO) :: (fun ⟨a, b, c, ps, k, t⟩ => [.agg [.int .i64 a, .int .u32 b, .int .u32 c, .ref 0 2 0 ps.length t], .int .i64 k] : (Int) × (Int) × (Int) × (List Fr) × (Int) × (Cp) → List AV) i) (fun ⟨a, b, c, ps, k, t⟩ => (.int .i64 (k + 2 * ps.length), [some (flatA (frsA (marksF ps.length k)))])))
theorem sp_markPat_eq (a b c : Int) (ps : List Fr) (k : Int) (t : Cp) (h : kOk k ∧ ps.length ≤ 1048576) : sp_markPat [some (flatA (frsA ps))] [.agg [.int .i64 a, .int .u32 b, .int .u32 c, .ref 0 2 0 ps.length t], .int .i64 k] = some (.int .i64 (k + 2 * ps.length), [some (flatA (frsA (marksF ps.length k)))]) := by
  unfold sp_markPat pv
  exact pf_eq (ι := (Int) × (Int) × (Int) × (List Fr) × (Int) × (Cp)) (α := AV × List (Option (List AV))) (a, b, c, ps, k, t) h (by rintro ⟨a', b', c', ps', k', t'⟩ _ e; simp_all [enO])
theorem v_laws_markPattern : QV PP 19 sp_markPat := by
  refine QV_pf fun i h => ?_
  obtain ⟨a, b, c, ps, k, t⟩ := i
  replace h : kOk k ∧ ps.length ≤ 1048576 := h
  refine H_code (Quiet.e1 e_laws_markFractionS Quiet.nil) hmix k_laws_markPattern rfl (fun b => b) (by simp [AHeap.n]) (fun _ _ => rfl) (by rfl) (by first | rfl | simp) ?_
  show wpc _ PP _ c_laws_markPattern (initSt [.agg [.int .i64 a, .int .u32 b, .int .u32 c, .ref 0 2 0 ps.length t], .int .i64 k] ⟨[some (flatA (frsA ps))]⟩) (endH (fun b => b) r_laws_markPattern (.int .i64 (k + 2 * ps.length)) [some (flatA (frsA (marksF ps.length k)))])
  simp -dsimp -implicitDefEqProofs [c_laws_markPattern, r_laws_markPattern, sp_markFr_eq ps k t h, hsub]
noncomputable def sp_markPat0 : List AV → Option (AV) := pf (ι := (Int) × (Int) × (Int) × (Int)) (α := AV) (fun ⟨a, b, c, k⟩ => True) (fun ⟨a, b, c, k⟩ => [.agg [.int .i64 a, .int .u32 b, .int .u32 c, .sl [] false], .int .i64 k]) (fun ⟨a, b, c, k⟩ => .int .i64 k)
theorem sp_markPat0_eq (a b c k : Int) : sp_markPat0 [.agg [.int .i64 a, .int .u32 b, .int .u32 c, .sl [] false], .int .i64 k] = some (.int .i64 k) := by
  unfold sp_markPat0
  exact pf_eq (ι := (Int) × (Int) × (Int) × (Int)) (α := AV) (a, b, c, k) trivial (by rintro ⟨a', b', c', k'⟩ _ e; simp_all [Int.natCast_inj])
attribute [simp] sp_markPat0_eq
theorem q_laws_markPattern : QP PP 19 sp_markPat0 := by
  refine QP_pf (fun i h => ?_) fun i h => ?_
  · obtain ⟨a, b, c, k⟩ := i; exact ⟨by first | rfl | simp, by first | rfl | simp⟩
  obtain ⟨a, b, c, k⟩ := i
  replace h : True := h
  refine P_code (Quiet.e1 e_laws_markFractionS Quiet.nil) hmix k_laws_markPattern rfl ?_ ?_
  · first | rfl | simp
  show wpc 0 PP _ c_laws_markPattern (initSt [.agg [.int .i64 a, .int .u32 b, .int .u32 c, .sl [] false], .int .i64 k] .nil) (endP r_laws_markPattern (.int .i64 k))
  simp -dsimp -implicitDefEqProofs [c_laws_markPattern, r_laws_markPattern]
theorem e_laws_markPattern : QE PP 19 (refE (spV sp_markPat) (spR sp_markPat0)) := QE.ref v_laws_markPattern.toE q_laws_markPattern.toR
noncomputable def sp_heldPat : List AV → Option (AV) := pf (ι := (Int) × (Int) × (Int) × (Nat) × (Int)) (α := AV) (fun ⟨a, b, c, n, k⟩ => kOk k ∧ n ≤ 1048576) (fun ⟨a, b, c, n, k⟩ => [.agg [.int .i64 a, .int .u32 b, .int .u32 c, .sl (frsA (marksF n k)) false], .int .i64 k]) (fun ⟨a, b, c, n, k⟩ => .int .i64 (k + 2 * n))
theorem sp_heldPat_eq (a b c : Int) (n : Nat) (k : Int) (h : kOk k ∧ n ≤ 1048576) : sp_heldPat [.agg [.int .i64 a, .int .u32 b, .int .u32 c, .sl (frsA (marksF n k)) false], .int .i64 k] = some (.int .i64 (k + 2 * n)) := by
  unfold sp_heldPat
  exact pf_eq (ι := (Int) × (Int) × (Int) × (Nat) × (Int)) (α := AV) (a, b, c, n, k) h (by rintro ⟨a', b', c', n', k'⟩ _ e; simp_all [Int.natCast_inj])
theorem q_laws_heldPattern : QP PP 20 sp_heldPat := by
  refine QP_pf (fun i h => ?_) fun i h => ?_
  · obtain ⟨a, b, c, n, k⟩ := i; exact ⟨by first | rfl | simp, by first | rfl | simp⟩
  obtain ⟨a, b, c, n, k⟩ := i
  replace h : kOk k ∧ n ≤ 1048576 := h
  refine P_code (Quiet.q1 q_laws_heldFractionS Quiet.nil) hmix k_laws_heldPattern rfl ?_ ?_
  · first | rfl | simp
  show wpc 0 PP _ c_laws_heldPattern (initSt [.agg [.int .i64 a, .int .u32 b, .int .u32 c, .sl (frsA (marksF n k)) false], .int .i64 k] .nil) (endP r_laws_heldPattern (.int .i64 (k + 2 * n)))
  have hn : ¬ (k + 2 * (n : Int) < 0) := by unfold kOk at h; omega
  simp -dsimp -implicitDefEqProofs [c_laws_heldPattern, r_laws_heldPattern, sp_heldFr_eq n k h, hn]
end Go.Proofs.YtkgodhdpcomjbaaAi
