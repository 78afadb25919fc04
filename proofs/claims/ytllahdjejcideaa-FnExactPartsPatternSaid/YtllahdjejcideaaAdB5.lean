/- Contracts: patterns of equal weights. -/
import Derived.Test.YtllahdjejcideaaAdB4
namespace Go.Proofs.YtllahdjejcideaaAi
open Go Go.RowKit
set_option linter.unusedVariables false
set_option linter.unusedSimpArgs false
set_option maxRecDepth 20000

def noPat (c : Int) : AV := .tup [.agg [.int .i64 0, .int .u32 0, .int .u32 0, .sl [] true], .int .i64 c]
def evenR (t : Cp) (n e l : Int) : AV × List (Option (List AV)) :=
  if graphOk n e = false then (noPat 1, []) else if loopsOk n l = false then (noPat 2, [])
  else (.tup [.agg [.int .i64 n, .int .u32 e, .int .u32 l, .ref 0 2 0 n.toNat t], .int .i64 0], [some (flatA (frsA (evenL n)))])
theorem loops_n {n l : Int} (h : loopsOk n l = true) : 1 ≤ n ∧ n ≤ 4 := (of_decide_eq_true h).1
noncomputable def sp_evenI : List AV → Option (AV × List (Option (List AV))) := pf (ι := (Int) × (Int) × (Int)) (α := AV × List (Option (List AV))) (fun ⟨n, e, l⟩ => (0 ≤ e ∧ e ≤ 4294967295) ∧ (0 ≤ l ∧ l ≤ 4294967295)) (fun ⟨n, e, l⟩ => [.agg [.int .i64 n, .int .u32 e], .int .u32 l]) (fun ⟨n, e, l⟩ => evenR .tight n e l)
theorem sp_evenI_eq (n e l : Int) (h : (0 ≤ e ∧ e ≤ 4294967295) ∧ (0 ≤ l ∧ l ≤ 4294967295)) : sp_evenI [.agg [.int .i64 n, .int .u32 e], .int .u32 l] = some (evenR .tight n e l) := by
  unfold sp_evenI
  exact pf_eq (ι := (Int) × (Int) × (Int)) (α := AV × List (Option (List AV))) (n, e, l) h (by rintro ⟨n', e', l'⟩ _ e; simp_all)
noncomputable def sp_evenS : List AV → Option (AV × List (Option (List AV))) := pf (ι := (Int) × (Int) × (Int)) (α := AV × List (Option (List AV))) (fun ⟨n, e, l⟩ => (0 ≤ e ∧ e ≤ 4294967295) ∧ (0 ≤ l ∧ l ≤ 4294967295)) (fun ⟨n, e, l⟩ => [.agg [.int .i64 n, .int .u32 e], .int .u32 l]) (fun ⟨n, e, l⟩ => evenR .full n e l)
theorem sp_evenS_eq (n e l : Int) (h : (0 ≤ e ∧ e ≤ 4294967295) ∧ (0 ≤ l ∧ l ≤ 4294967295)) : sp_evenS [.agg [.int .i64 n, .int .u32 e], .int .u32 l] = some (evenR .full n e l) := by
  unfold sp_evenS
  exact pf_eq (ι := (Int) × (Int) × (Int)) (α := AV × List (Option (List AV))) (n, e, l) h (by rintro ⟨n', e', l'⟩ _ e; simp_all)
theorem n_impl_EvenPattern : QN PP 18 sp_evenI := by
  refine QN_pf (fun i h => ?_) fun i h => ?_
  · obtain ⟨n, e, l⟩ := i; first | rfl | simp
  obtain ⟨n, e, l⟩ := i
  replace h : (0 ≤ e ∧ e ≤ 4294967295) ∧ (0 ≤ l ∧ l ≤ 4294967295) := h
  show T PP 18 [.agg [.int .i64 n, .int .u32 e], .int .u32 l] .nil fun r' A' => r' = ((evenR .tight n e l : AV × List (Option (List AV)))).1 ∧ A' = ⟨((evenR .tight n e l : AV × List (Option (List AV)))).2⟩
  cases hg : graphOk n e with
  | false =>
    rw [show evenR .tight n e l = (noPat 1, []) by simp [evenR, hg]]
    refine H_code (Quiet.q1 q_impl_badGraph (Quiet.q1 q_impl_shapeOk (Quiet.e1 n_impl_even.toE Quiet.nil))) hmix k_impl_EvenPattern rfl (fun _ => 0) (by simp [AHeap.n, AHeap.nil]) (by intro b hb; simp [AHeap.n, AHeap.nil] at hb <;> subst hb <;> rfl) (by rfl) (by first | rfl | simp) ?_
    simp -dsimp -implicitDefEqProofs [c_impl_EvenPattern, r_impl_EvenPattern, sp_badGraph_eq n e h.1, hg, hsub, noPat]
  | true =>
    cases hl : loopsOk n l with
    | false =>
      rw [show evenR .tight n e l = (noPat 2, []) by simp [evenR, hg, hl]]
      refine H_code (Quiet.q1 q_impl_badGraph (Quiet.q1 q_impl_shapeOk (Quiet.e1 n_impl_even.toE Quiet.nil))) hmix k_impl_EvenPattern rfl (fun _ => 0) (by simp [AHeap.n, AHeap.nil]) (by intro b hb; simp [AHeap.n, AHeap.nil] at hb <;> subst hb <;> rfl) (by rfl) (by first | rfl | simp) ?_
      simp -dsimp -implicitDefEqProofs [c_impl_EvenPattern, r_impl_EvenPattern, sp_badGraph_eq n e h.1, sp_shapeOk_eq n e l h, hg, hl, hsub, noPat]
    | true =>
      rw [show evenR .tight n e l = (.tup [.agg [.int .i64 n, .int .u32 e, .int .u32 l, .ref 0 2 0 n.toNat .tight], .int .i64 0], [some (flatA (frsA (evenL n)))]) by simp [evenR, hg, hl]]
      refine H_code (Quiet.q1 q_impl_badGraph (Quiet.q1 q_impl_shapeOk (Quiet.e1 n_impl_even.toE Quiet.nil))) hmix k_impl_EvenPattern rfl (fun _ => 2) (by simp [AHeap.n, AHeap.nil]) (by intro b hb; simp [AHeap.n, AHeap.nil] at hb <;> subst hb <;> rfl) (by rfl) (by first | rfl | simp) ?_
      simp -dsimp -implicitDefEqProofs [c_impl_EvenPattern, r_impl_EvenPattern, sp_badGraph_eq n e h.1, sp_shapeOk_eq n e l h, hg, hl, hsub, sp_even_eq n e l (loops_n hl)]

def evSt (n e l : Int) : Nat → St
  | 0 => ⟨tl [(2, .ptr 0 0), (4, .ptr 1 0), (5, .int .i64 0), (6, .ptr 2 0), (7, .int .i64 0)], ⟨[some [.int .i64 n, .int .u32 e], some [.int .i64 0, .int .u32 0, .int .u32 0, .sl [] true], some [.int .i64 n, .int .u32 e, .int .u32 l, .sl [] true]]⟩⟩
  | i + 1 => ⟨tl [(2, .ptr 0 0), (4, .ptr 1 0), (5, .int .i64 0), (6, .ptr 2 0), (7, .int .i64 (i + 1 : Nat))], ⟨[some [.int .i64 n, .int .u32 e], some [.int .i64 0, .int .u32 0, .int .u32 0, .sl [] true], some [.int .i64 n, .int .u32 e, .int .u32 l, .ref 3 2 0 (i + 1) .full], some (flatA (frsA (List.replicate (i + 1) ⟨1, n⟩)))]⟩⟩
theorem reps_snoc (k : Nat) (x : Fr) : flatA (frsA (List.replicate k x)) ++ [.int .i64 x.p, .int .i64 x.q] = flatA (frsA (List.replicate (k + 1) x)) := by
  rw [List.replicate_succ', flatA_append]; rfl
theorem n_spec_EvenPattern : QN PP 16 sp_evenS := by
  refine QN_pf (fun i h => ?_) fun i h => ?_
  · obtain ⟨n, e, l⟩ := i; first | rfl | simp
  obtain ⟨n, e, l⟩ := i
  replace h : (0 ≤ e ∧ e ≤ 4294967295) ∧ (0 ≤ l ∧ l ≤ 4294967295) := h
  show T PP 16 [.agg [.int .i64 n, .int .u32 e], .int .u32 l] .nil fun r' A' => r' = ((evenR .full n e l : AV × List (Option (List AV)))).1 ∧ A' = ⟨((evenR .full n e l : AV × List (Option (List AV)))).2⟩
  cases hg : graphOk n e with
  | false =>
    rw [show evenR .full n e l = (noPat 1, []) by simp [evenR, hg]]
    refine H_code (Quiet.q1 q_spec_l01Ok (Quiet.q1 q_spec_l07Form Quiet.nil)) hmix k_spec_EvenPattern rfl (fun _ => 0) (by simp [AHeap.n, AHeap.nil]) (by intro b hb; simp [AHeap.n, AHeap.nil] at hb <;> subst hb <;> rfl) (by rfl) (by first | rfl | simp) ?_
    simp -dsimp -implicitDefEqProofs [c_spec_EvenPattern, r_spec_EvenPattern, sp_graphOk_eq n e h.1, hg, hsub, noPat]
  | true =>
    cases hl : loopsOk n l with
    | false =>
      rw [show evenR .full n e l = (noPat 2, []) by simp [evenR, hg, hl]]
      refine H_code (Quiet.q1 q_spec_l01Ok (Quiet.q1 q_spec_l07Form Quiet.nil)) hmix k_spec_EvenPattern rfl (fun _ => 0) (by simp [AHeap.n, AHeap.nil]) (by intro b hb; simp [AHeap.n, AHeap.nil] at hb <;> subst hb <;> rfl) (by rfl) (by first | rfl | simp) ?_
      simp -dsimp -implicitDefEqProofs [c_spec_EvenPattern, r_spec_EvenPattern, sp_graphOk_eq n e h.1, sp_form_eq n e l h.2, hg, hl, hsub, noPat]
    | true =>
      rw [show evenR .full n e l = (.tup [.agg [.int .i64 n, .int .u32 e, .int .u32 l, .ref 0 2 0 n.toNat .full], .int .i64 0], [some (flatA (frsA (evenL n)))]) by simp [evenR, hg, hl]]
      have hn := loops_n hl
      obtain ⟨m, rfl⟩ := Int.eq_ofNat_of_zero_le (show 0 ≤ n by omega)
      refine H_code (Quiet.q1 q_spec_l01Ok (Quiet.q1 q_spec_l07Form Quiet.nil)) hmix k_spec_EvenPattern rfl (fun _ => 3) (by simp [AHeap.n, AHeap.nil]) (by intro b hb; simp [AHeap.n, AHeap.nil] at hb <;> subst hb <;> rfl) (by rfl) (by first | rfl | simp) ?_
      simp -dsimp -implicitDefEqProofs [c_spec_EvenPattern, r_spec_EvenPattern, sp_graphOk_eq m e h.1, sp_form_eq m e l h.2, hg, hl, hsub]
      refine wpLoop_st (evSt m e l) (fun i => i ≤ m) (fun i => m - i) 0 (by omega) (Sub.keep (by simp) (by simp [hsub]) (by simp)) ?_
      intro i hi
      cases i with
      | zero =>
        simp -dsimp -implicitDefEqProofs [evSt]
        refine brW_of (fun h => ?_) (fun h => ?_) <;> simp only [decide_eq_true_eq, decide_eq_false_iff_not] at h
        · have w1 : IntKind.i64.wrap 1 = 1 := rfl
          have l1 : 1 * 17 ≤ mostBytes := by decide
          simp -dsimp -implicitDefEqProofs [w1, l1]
          exact .mk 1 (by omega) (by omega) (Sub.mk' (fun b => if b = 3 then 4 else b) (by simp) (by intro b hb; omega) (by rfl) (by simp [hsub, flatA_cons]) (by simp))
        · omega
      | succ i =>
        simp -dsimp -implicitDefEqProofs [evSt]
        refine brW_of (fun h => ?_) (fun h => ?_) <;> simp only [decide_eq_true_eq, decide_eq_false_iff_not] at h
        · have w1 : IntKind.i64.wrap ((i : Int) + 1 + 1) = (i : Int) + 1 + 1 := wrapI64 (by omega) (by omega)
          have l1 : (i + 1 + 1) * 17 ≤ mostBytes := by simp only [mostBytes]; omega
          have l2 : ¬ ((i + 1 + 1) * 2 ≤ (i + 1) * 2) := by omega
          have l3 : (flatA (frsA (List.replicate (i + 1) ⟨1, (m : Int)⟩))).take ((i + 1) * 2) = flatA (frsA (List.replicate (i + 1) ⟨1, (m : Int)⟩)) := List.take_of_length_le (by simp)
          have l4 := reps_snoc (i + 1) ⟨1, (m : Int)⟩
          simp -dsimp -implicitDefEqProofs [w1, l1, l2, l3, l4]
          exact .mk (i + 1 + 1) (by omega) (by omega) (Sub.mk' (fun b => if b = 3 then 5 else b) (by simp) (by intro b hb; omega) (by rfl) (by simp [hsub]) (by simp))
        · have : i + 1 = m := by omega
          subst this
          simp -dsimp -implicitDefEqProofs [hsub, evenL]

end Go.Proofs.YtllahdjejcideaaAi
