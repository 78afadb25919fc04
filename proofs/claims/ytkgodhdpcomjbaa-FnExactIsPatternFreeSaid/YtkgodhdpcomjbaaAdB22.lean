/- Contracts: lists of numbers in the laws. -/
import Derived.Test.YtkgodhdpcomjbaaAdB21
import Derived.Test.YtkgodhdpcomjbaaAdB15
import Derived.Test.YtkgodhdpcomjbaaAdB3
import Derived.Test.YtkgodhdpcomjbaaAdB10
namespace Go.Proofs.YtkgodhdpcomjbaaAi
open Go Go.RowKit
set_option linter.unusedVariables false
set_option linter.unusedSimpArgs false
set_option maxRecDepth 20000

noncomputable def sp_toIntN : List AV → Option (AV × List (Option (List AV))) := pf (ι := (List Int)) (α := AV × List (Option (List AV))) (fun zs => zs.length ≤ 1048576) (fun zs => [.sl (insA zs) false]) (fun zs => (.ref 0 1 0 zs.length .tight, [some (flatA (insA zs))]))
theorem sp_toIntN_eq (zs : List Int) (h : zs.length ≤ 1048576) : sp_toIntN [.sl (insA zs) false] = some ((.ref 0 1 0 zs.length .tight, [some (flatA (insA zs))])) := by
  unfold sp_toIntN
  exact pf_eq (ι := (List Int)) (α := AV × List (Option (List AV))) zs h (by rintro zs' _ e; simp_all [Int.natCast_inj])
theorem n_laws_toInt64S : QN PP 26 sp_toIntN := by
  refine QN_pf (fun zs h => ?_) fun zs h => ?_
  · first | rfl | simp
  replace h : zs.length ≤ 1048576 := h
  show T PP 26 [.sl (insA zs) false] .nil fun r' A' => r' = (((.ref 0 1 0 zs.length .tight, [some (flatA (insA zs))]) : AV × List (Option (List AV)))).1 ∧ A' = ⟨(((.ref 0 1 0 zs.length .tight, [some (flatA (insA zs))]) : AV × List (Option (List AV)))).2⟩
  have hm : (zs.length : Int) * 9 ≤ (mostBytes : Int) := by simp only [mostBytes]; omega
  refine H_code Quiet.nil hmix k_laws_toInt64S rfl (fun b => b) (by simp [AHeap.n, AHeap.nil]) (by intro b hb; simp [AHeap.n, AHeap.nil] at hb <;> subst hb <;> rfl) (by rfl) (by first | rfl | simp) ?_
  simp -dsimp -implicitDefEqProofs [c_laws_toInt64S, r_laws_toInt64S, hm, news_in1]
  refine wpLoop_st (fun (i : Nat × List Int) => ⟨tl [(0, .sl (insA zs) false), (3, .ref 0 1 0 zs.length .tight), (4, .int .i64 i.1)], ⟨[some (flatA (insA i.2))]⟩⟩) (fun i => i.1 ≤ zs.length ∧ i.2.length = zs.length ∧ i.2 = zs.take i.1 ++ List.replicate (zs.length - i.1) 0) (fun i => zs.length - i.1) (0, List.replicate zs.length 0) ⟨by simp, by simp, by simp⟩ (Sub.keep (by simp) (by simp [hsub]) (by simp)) ?_
  rintro ⟨i, L⟩ ⟨h1, h2, h3⟩
  simp only at h1 h2 h3
  simp -dsimp -implicitDefEqProofs
  refine brW_of (fun h => ?_) (fun h => ?_) <;> simp only [decide_eq_true_eq, decide_eq_false_iff_not] at h
  · have hi : i < zs.length := by omega
    have hw := wrapNat (i := i) (by omega)
    have f1 : i + 1 ≤ L.length := by omega
    have hs := set_in L i zs[i] (by omega)
    simp -dsimp -implicitDefEqProofs [hi, f1, hw, hs]
    refine .mk (i + 1, L.set i zs[i]) ⟨by simp only; omega, by simp [h2], ?_⟩ (by simp only; omega) (Sub.keep (by simp) (by simp [hsub]) (by simp))
    simp only
    rw [h3]
    exact fill_step zs 0 i hi
  · have hi : i = zs.length := by omega
    subst hi
    simp at h3
    subst h3
    simp -dsimp -implicitDefEqProofs [hsub]
    try
      refine ⟨_, Shift.refl _, ?_⟩
      simp -dsimp -implicitDefEqProofs [hsub]
noncomputable def sp_eqInt : List AV → Option (AV) := pf (ι := (List Int) × (List Int)) (α := AV) (fun ⟨xs, ys⟩ => xs.length ≤ maxLen) (fun ⟨xs, ys⟩ => [.sl (insA xs) false, .sl (insA ys) false]) (fun ⟨xs, ys⟩ => .bool (decide (xs = ys)))
theorem sp_eqInt_eq (xs ys : List Int) (h : xs.length ≤ maxLen) : sp_eqInt [.sl (insA xs) false, .sl (insA ys) false] = some (.bool (decide (xs = ys))) := by
  unfold sp_eqInt
  exact pf_eq (ι := (List Int) × (List Int)) (α := AV) (xs, ys) h (by rintro ⟨xs', ys'⟩ _ e; simp_all [Int.natCast_inj])
theorem q_laws_eqInt64S : QP PP 29 sp_eqInt := by
  refine QP_pf (fun i h => ?_) fun i h => ?_
  · obtain ⟨xs, ys⟩ := i; exact ⟨by first | rfl | simp, by first | rfl | simp⟩
  obtain ⟨xs, ys⟩ := i
  replace h : xs.length ≤ maxLen := h
  refine P_code Quiet.nil hmix k_laws_eqInt64S rfl ?_ ?_
  · first | rfl | simp
  show wpc 0 PP _ c_laws_eqInt64S (initSt [.sl (insA xs) false, .sl (insA ys) false] .nil) (endP r_laws_eqInt64S (.bool (decide (xs = ys))))
  simp only [maxLen] at h
  by_cases hl : xs.length = ys.length
  · have hl' : ((xs.length : Int) != ys.length) = false := by simp [hl]
    simp -dsimp -implicitDefEqProofs [c_laws_eqInt64S, r_laws_eqInt64S, hl']
    refine wpLoop_st (fun (i : Nat) => ⟨tl [(0, .sl (insA xs) false), (1, .sl (insA ys) false), (5, .int .i64 i)], ⟨[]⟩⟩) (fun i => i ≤ xs.length ∧ xs.take i = ys.take i) (fun i => xs.length - i) 0 ⟨by omega, rfl⟩ (Sub.keep (by simp) (by simp [hsub]) (by simp)) ?_
    rintro i ⟨h1, h2⟩
    simp -dsimp -implicitDefEqProofs
    refine brW_of (fun h => ?_) (fun h => ?_) <;> simp only [decide_eq_true_eq, decide_eq_false_iff_not] at h
    · have hi : i < xs.length := by omega
      have hj : i < ys.length := by omega
      have hw := wrapNat (i := i) (by omega)
      by_cases he : xs[i] = ys[i]
      · have he' : (xs[i] != ys[i]) = false := by simp [he]
        simp -dsimp -implicitDefEqProofs [hi, hj, he', hw]
        refine .mk (i + 1) ⟨by omega, ?_⟩ (by omega) (Sub.keep (by simp) (by simp [hsub]) (by simp [hw]))
        rw [take_snoc xs i hi, take_snoc ys i hj, h2, he]
      · have he' : (xs[i] != ys[i]) = true := by simp [he]
        have hne : ¬ xs = ys := fun e => he (by subst e; rfl)
        simp -dsimp -implicitDefEqProofs [hi, hj, he', hne]
    · have hi : i = xs.length := by omega
      subst hi
      rw [List.take_length, hl, List.take_length] at h2
      simp -dsimp -implicitDefEqProofs [h2]
  · have hl' : ((xs.length : Int) != ys.length) = true := by simp; omega
    have hne : ¬ xs = ys := fun e => hl (by rw [e])
    simp -dsimp -implicitDefEqProofs [c_laws_eqInt64S, r_laws_eqInt64S, hl', hne]

theorem wt_int (y : AV) (h : WtV (.int .i64) y) : ∃ x, y = inA x := by
  simp only [WtV_int] at h
  obtain ⟨n, rfl, _⟩ := h
  exact ⟨n, rfl⟩
theorem eqInt_refl (xs : List Int) (h : xs.length ≤ maxLen) : sp_eqInt [.sl (insA xs) false, .sl (insA xs) false] = some (.bool true) := by
  rw [sp_eqInt_eq xs xs h]; simp
set_option maxHeartbeats 2000000 in
theorem law_blowUp (xs : List AV) (h : WtA [tyPattern, .sl (.int .i64)] xs) : T PP 5 xs .nil fun r _ => r = .bool true := by
  simp only [WtA_cons, WtA_nil] at h
  obtain ⟨x, _, rfl, hx, y, _, rfl, hy, rfl⟩ := h
  obtain ⟨n, e, l, ps, rfl, h⟩ := wt_pattern hx
  simp only [WtV_sl] at hy
  obtain ⟨ys, rfl, hlen, hy⟩ := hy
  obtain ⟨zs, rfl⟩ := wt_list (t := .int .i64) wt_int hy
  simp only [mapA_length] at hlen
  refine (P_code (r := .bool true) (Quiet.q1 q_laws_szPattern (Quiet.q1 q_laws_eqGraph (Quiet.e1 q_spec_BlowUp.toR (Quiet.e1 n_laws_toPattern.toE (Quiet.e1 n_laws_toInt64S.toE (Quiet.e1 q_impl_BlowUp.toR (Quiet.e1 q_laws_eqPattern.toR (Quiet.e1 q_laws_eqInt64S.toR Quiet.nil)))))))) hmix k_laws_FnExactBlowUp rfl rfl ?_).mono fun r A' h => h.1
  by_cases cz : (zs.length : Int) ≤ 1048576
  · have cz' : ¬ (1048576 : Int) < zs.length := by omega
    by_cases c : (ps.length : Int) ≤ 1048576
    · have c2 : ¬ ((1048576 : Int) - ps.length < 0) := by omega
      have hT := sp_toPatN_eq n e l ps (by omega)
      have hI := sp_toIntN_eq zs (by omega)
      have hq := eqPat_refl n e l ps h.2.2
      have hq2 := eqInt_refl zs hlen
      have hB := sp_blowP_eq n e l ps zs ⟨⟨h.1, h.2.1⟩, h.2.2, by omega⟩
      unfold blowR at hB
      cases hv : patOk n e l ps with
      | false =>
        simp only [hv, if_true] at hB
        simp -dsimp -implicitDefEqProofs [c_laws_FnExactBlowUp, r_laws_FnExactBlowUp, sp_szPattern_eq n e l ps 1048576 ⟨by omega, by omega, h.2.2⟩, c, c2, cz', hT, hI, hq, hq2, hB]
      | true =>
        simp only [hv, Bool.true_eq_false, if_false] at hB
        by_cases hz : (zs.length = ps.length ∧ sizesOk zs = true) ∧ (partsN 0 zs).length ≤ 5
        · rw [if_pos hz] at hB
          generalize (blowE e l (partsN 0 zs) : Int) = E at hB
          generalize ((partsN 0 zs).length : Int) = N at hB
          simp -dsimp -implicitDefEqProofs [c_laws_FnExactBlowUp, r_laws_FnExactBlowUp, sp_szPattern_eq n e l ps 1048576 ⟨by omega, by omega, h.2.2⟩, c, c2, cz', hT, hI, hq, hq2, hB]
        · rw [if_neg hz] at hB
          simp -dsimp -implicitDefEqProofs [c_laws_FnExactBlowUp, r_laws_FnExactBlowUp, sp_szPattern_eq n e l ps 1048576 ⟨by omega, by omega, h.2.2⟩, c, c2, cz', hT, hI, hq, hq2, hB]
    · simp -dsimp -implicitDefEqProofs [c_laws_FnExactBlowUp, r_laws_FnExactBlowUp, sp_szPattern_eq n e l ps 1048576 ⟨by omega, by omega, h.2.2⟩, c, cz']
  · have cz' : (1048576 : Int) < zs.length := by omega
    simp -dsimp -implicitDefEqProofs [c_laws_FnExactBlowUp, r_laws_FnExactBlowUp, cz']
end Go.Proofs.YtkgodhdpcomjbaaAi
