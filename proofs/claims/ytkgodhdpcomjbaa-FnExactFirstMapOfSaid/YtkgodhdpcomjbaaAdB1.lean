/- Contracts: validity of patterns. -/
import Derived.Test.YtkgodhdpcomjbaaAdA5
import Derived.Test.YtkgodhdpcomjbaaAcC
namespace Go.Proofs.YtkgodhdpcomjbaaAi
open Go Go.RowKit
set_option linter.unusedVariables false
set_option linter.unusedSimpArgs false

noncomputable def sp_l02List : List AV → Option (AV) := pf (ι := (List Fr)) (α := AV) (fun l => l.length ≤ maxLen) (fun l => [.sl (frsA l) false]) (fun l => .bool (allOk l && decide (l.length ≤ 256)))
theorem sp_l02List_eq (l : List Fr) (h : l.length ≤ maxLen) : sp_l02List [.sl (frsA l) false] = some (.bool (allOk l && decide (l.length ≤ 256))) := by
  unfold sp_l02List
  exact pf_eq (ι := (List Fr)) (α := AV) l h (by rintro l' _ e; simp_all [Int.natCast_inj])
theorem q_spec_l02List : QP PP 128 sp_l02List := by
  refine QP_pf (fun l h => ?_) fun l h => ?_
  · exact ⟨by first | rfl | simp, by first | rfl | simp⟩
  replace h : l.length ≤ maxLen := h
  refine P_code (Quiet.q1 q_spec_l02Ok Quiet.nil) hmix k_spec_l02List rfl ?_ ?_
  · first | rfl | simp
  show wpc 0 PP _ c_spec_l02List (initSt [.sl (frsA l) false] .nil) (endP r_spec_l02List (.bool (allOk l && decide (l.length ≤ 256))))
  simp only [maxLen] at h
  simp -dsimp -implicitDefEqProofs [c_spec_l02List, r_spec_l02List]
  refine wpLoop_st (fun (i : Nat) => ⟨tl [(0, .sl (frsA l) false), (3, .int .i64 i)], ⟨[]⟩⟩) (fun i => i ≤ l.length ∧ allOk (l.take i) = true) (fun i => l.length - i) 0 ⟨Nat.zero_le _, rfl⟩ (Sub.keep (by simp) (by simp [hsub]) (by simp)) ?_
  rintro i ⟨h1, h2⟩
  simp -dsimp -implicitDefEqProofs
  refine brW_of (fun h => ?_) (fun h => ?_) <;> simp only [decide_eq_true_eq, decide_eq_false_iff_not] at h
  · have hi : i < l.length := by omega
    have hw := wrapNat (i := i) (by omega)
    cases hv : frOk l[i].p l[i].q with
    | false => simp -dsimp -implicitDefEqProofs [hi, hw, hv, allOk_false hi hv]
    | true =>
      simp -dsimp -implicitDefEqProofs [hi, hw, hv]
      exact .mk (i + 1) ⟨by omega, allOk_step hi h2 hv⟩ (by omega) (Sub.keep (by simp) (by simp [hsub]) (by simp))
  · have hi' : i = l.length := by omega
    rw [hi', List.take_length] at h2
    simp -dsimp -implicitDefEqProofs [h2]
    omega

def sumO : Fr → List Fr → Option Fr
  | a, [] => some a
  | a, x :: xs => (add2 a x).bind fun s => sumO s xs
def sumA (l : List Fr) : AV := if allOk l = true ∧ l.length ≤ 256 then frO (sumO ⟨0, 1⟩ l) else .tup [.agg [.int .i64 0, .int .i64 0], .int .i64 1]
@[simp] theorem sumA_lt (l : List Fr) (n : Nat) : (sumA l).lt n = true := by unfold sumA; split <;> first | simp | rfl
noncomputable def sp_Sum : List AV → Option (AV) := pf (ι := (List Fr)) (α := AV) (fun l => l.length ≤ maxLen) (fun l => [.sl (frsA l) false]) (fun l => sumA l)
theorem sp_Sum_eq (l : List Fr) (h : l.length ≤ maxLen) : sp_Sum [.sl (frsA l) false] = some (sumA l) := by
  unfold sp_Sum
  exact pf_eq (ι := (List Fr)) (α := AV) l h (by rintro l' _ e; simp_all [Int.natCast_inj])
theorem q_spec_SumOfFractions : QP PP 129 sp_Sum := by
  refine QP_pf (fun l h => ?_) fun l h => ?_
  · exact ⟨by first | rfl | simp, by first | rfl | simp⟩
  replace h : l.length ≤ maxLen := h
  refine P_code (Quiet.q1 q_spec_l02List (Quiet.q1 q_spec_l02Zero (Quiet.q1 q_spec_l02Add Quiet.nil))) hmix k_spec_SumOfFractions rfl ?_ ?_
  · first | rfl | simp
  show wpc 0 PP _ c_spec_SumOfFractions (initSt [.sl (frsA l) false] .nil) (endP r_spec_SumOfFractions (sumA l))
  simp -dsimp -implicitDefEqProofs [c_spec_SumOfFractions, r_spec_SumOfFractions, sp_l02List_eq l h]
  by_cases hv : allOk l = true ∧ l.length ≤ 256
  · have hs : sumA l = frO (sumO ⟨0, 1⟩ l) := if_pos hv
    simp -dsimp -implicitDefEqProofs [hv.1, hv.2]
    refine wpLoop_st (fun (i : Nat × Fr) => ⟨tl [(0, .sl (frsA l) false), (2, .ptr 0 0), (4, .ptr 1 0), (5, .int .i64 i.1)], ⟨[some [.int .i64 0, .int .i64 0], some [.int .i64 i.2.p, .int .i64 i.2.q]]⟩⟩) (fun i => i.1 ≤ l.length ∧ frIn i.2.p i.2.q ∧ sumO i.2 (l.drop i.1) = sumO ⟨0, 1⟩ l) (fun i => l.length - i.1) (0, ⟨0, 1⟩) ⟨Nat.zero_le _, zero_in, rfl⟩ (Sub.keep (by simp) (by simp [hsub]) (by simp)) ?_
    rintro ⟨i, a⟩ ⟨h1, h2, h3⟩
    simp -dsimp -implicitDefEqProofs
    refine brW_of (fun h => ?_) (fun h => ?_) <;> simp only [decide_eq_true_eq, decide_eq_false_iff_not] at h
    · have hi : i < l.length := by omega
      have hw := wrapNat (i := i) (by omega)
      have hx := (allOk_in hv.1).get hi
      have e1 := sp_l02Add_eq a.p a.q l[i].p l[i].q ⟨h2, hx⟩
      rw [drop_cons hi, sumO, add2] at h3
      cases ha : addO a.p a.q l[i].p l[i].q with
      | none =>
        rw [ha] at e1 h3
        simp -dsimp -implicitDefEqProofs [hi, hw, e1, frO, hs, ← h3]
      | some s =>
        rw [ha] at e1 h3
        simp -dsimp -implicitDefEqProofs [hi, hw, e1, frO]
        exact .mk (i + 1, s) ⟨by simp only; omega, add2_some h2 hx ha, h3⟩ (by simp only; omega) (Sub.keep (by simp) (by simp [hsub]) (by simp [hw]))
    · have hi : ¬ i < l.length := by omega
      rw [drop_end hi, sumO] at h3
      simp -dsimp -implicitDefEqProofs [hs, ← h3, frO]
  · have hv' : (!allOk l || !decide (l.length ≤ 256)) = true := by cases e : allOk l <;> simp_all
    have hs : sumA l = .tup [.agg [.int .i64 0, .int .i64 0], .int .i64 1] := if_neg hv
    simp -dsimp -implicitDefEqProofs [hv', hs]

def loopsOk (n l : Int) : Bool := decide ((1 ≤ n ∧ n ≤ 4) ∧ l < 2 ^ n.toNat)
noncomputable def sp_form : List AV → Option (AV) := pf (ι := (Int) × (Int) × (Int)) (α := AV) (fun ⟨n, e, l⟩ => 0 ≤ l ∧ l ≤ 4294967295) (fun ⟨n, e, l⟩ => [.agg [.int .i64 n, .int .u32 e], .int .u32 l]) (fun ⟨n, e, l⟩ => .bool (loopsOk n l))
theorem sp_form_eq (n e l : Int) (h : 0 ≤ l ∧ l ≤ 4294967295) : sp_form [.agg [.int .i64 n, .int .u32 e], .int .u32 l] = some (.bool (loopsOk n l)) := by
  unfold sp_form
  exact pf_eq (ι := (Int) × (Int) × (Int)) (α := AV) (n, e, l) h (by rintro ⟨n', e', l'⟩ _ e; simp_all [Int.natCast_inj])
theorem q_spec_l07Form : QP PP 112 sp_form := by
  refine QP_pf (fun i h => ?_) fun i h => ?_
  · obtain ⟨n, e, l⟩ := i; exact ⟨by first | rfl | simp, by first | rfl | simp⟩
  obtain ⟨n, e, l⟩ := i
  replace h : 0 ≤ l ∧ l ≤ 4294967295 := h
  refine P_code (Quiet.q1 q_spec_l00In Quiet.nil) hmix k_spec_l07Form rfl ?_ ?_
  · first | rfl | simp
  show wpc 0 PP _ c_spec_l07Form (initSt [.agg [.int .i64 n, .int .u32 e], .int .u32 l] .nil) (endP r_spec_l07Form (.bool (loopsOk n l)))
  have em : l % 18446744073709551616 = l := by omega
  simp -dsimp -implicitDefEqProofs [c_spec_l07Form, r_spec_l07Form]
  by_cases hn : 1 ≤ n ∧ n ≤ 4
  · have h5 : n = 1 ∨ n = 2 ∨ n = 3 ∨ n = 4 := by omega
    rcases h5 with rfl | rfl | rfl | rfl <;> simp -dsimp -implicitDefEqProofs [IntKind.bits, IntKind.wrap, IntKind.signed]
    all_goals (rw [em, if_neg (by omega), Bool.eq_iff_iff]; simp [loopsOk] <;> omega)
  · have hv : loopsOk n l = false := decide_eq_false fun h => hn h.1
    have hv' : (decide (1 ≤ n) && decide (n ≤ 4)) = false := by simpa using hn
    simp -dsimp -implicitDefEqProofs [hv, hv']
noncomputable def sp_shapeOk : List AV → Option (AV) := pf (ι := (Int) × (Int) × (Int)) (α := AV) (fun ⟨n, e, l⟩ => (0 ≤ e ∧ e ≤ 4294967295) ∧ (0 ≤ l ∧ l ≤ 4294967295)) (fun ⟨n, e, l⟩ => [.agg [.int .i64 n, .int .u32 e], .int .u32 l]) (fun ⟨n, e, l⟩ => .bool (graphOk n e && loopsOk n l))
theorem sp_shapeOk_eq (n e l : Int) (h : (0 ≤ e ∧ e ≤ 4294967295) ∧ (0 ≤ l ∧ l ≤ 4294967295)) : sp_shapeOk [.agg [.int .i64 n, .int .u32 e], .int .u32 l] = some (.bool (graphOk n e && loopsOk n l)) := by
  unfold sp_shapeOk
  exact pf_eq (ι := (Int) × (Int) × (Int)) (α := AV) (n, e, l) h (by rintro ⟨n', e', l'⟩ _ e; simp_all [Int.natCast_inj])
theorem q_impl_shapeOk : QP PP 117 sp_shapeOk := by
  refine QP_pf (fun i h => ?_) fun i h => ?_
  · obtain ⟨n, e, l⟩ := i; exact ⟨by first | rfl | simp, by first | rfl | simp⟩
  obtain ⟨n, e, l⟩ := i
  replace h : (0 ≤ e ∧ e ≤ 4294967295) ∧ (0 ≤ l ∧ l ≤ 4294967295) := h
  refine P_code (Quiet.q1 q_impl_ValidGraph (Quiet.q1 q_impl_in Quiet.nil)) hmix k_impl_shapeOk rfl ?_ ?_
  · first | rfl | simp
  show wpc 0 PP _ c_impl_shapeOk (initSt [.agg [.int .i64 n, .int .u32 e], .int .u32 l] .nil) (endP r_impl_shapeOk (.bool (graphOk n e && loopsOk n l)))
  simp -dsimp -implicitDefEqProofs [c_impl_shapeOk, r_impl_shapeOk, sp_graphOk_eq n e h.1]
  cases hg : graphOk n e with
  | false => simp -dsimp -implicitDefEqProofs
  | true =>
    by_cases hn : 1 ≤ n ∧ n ≤ 4
    · have h5 : n = 1 ∨ n = 2 ∨ n = 3 ∨ n = 4 := by omega
      rcases h5 with rfl | rfl | rfl | rfl <;> simp -dsimp -implicitDefEqProofs [IntKind.bits]
      all_goals (rw [fdiv_zero (by decide) h.2.1, Bool.eq_iff_iff]; simp [loopsOk] <;> omega)
    · have hv : loopsOk n l = false := decide_eq_false fun h => hn h.1
      have hv' : (decide (1 ≤ n) && decide (n ≤ 4)) = false := by simpa using hn
      simp -dsimp -implicitDefEqProofs [hv, hv']

def nnAll (ps : List Fr) : Bool := ps.all fun x => decide (0 ≤ x.p)
def patOk (n e l : Int) (ps : List Fr) : Bool := graphOk n e && loopsOk n l && decide ((ps.length : Int) = n) && allOk ps && nnAll ps && decide (sumO ⟨0, 1⟩ ps = some ⟨1, 1⟩)
theorem nnAll_false {ps : List Fr} {i : Nat} (h : i < ps.length) (hf : ps[i].p < 0) : nnAll ps = false := by
  unfold nnAll
  rw [List.all_eq_false]
  exact ⟨ps[i], List.getElem_mem h, by simp; omega⟩
theorem nnAll_step {ps : List Fr} {i : Nat} (h : i < ps.length) (h1 : nnAll (ps.take i) = true) (hf : ¬ ps[i].p < 0) : nnAll (ps.take (i + 1)) = true := by
  rw [take_snoc ps i h]
  unfold nnAll at *
  rw [List.all_append, h1]
  simp
  omega

noncomputable def sp_l07Ok : List AV → List AV → Option (AV × List AV) := pm (pf (ι := (Int) × (Int) × (Int) × (List Fr)) (α := AV × List AV) (fun ⟨n, e, l, ps⟩ => (0 ≤ e ∧ e ≤ 4294967295) ∧ (0 ≤ l ∧ l ≤ 4294967295) ∧ ps.length ≤ maxLen) (fun i => .agg ((fun ⟨n, e, l, ps⟩ => [.int .i64 n, .int .u32 e, .int .u32 l, .sl (frsA ps) false] : (Int) × (Int) × (Int) × (List Fr) → List AV) i) :: (fun ⟨n, e, l, ps⟩ => [] : (Int) × (Int) × (Int) × (List Fr) → List AV) i) (fun ⟨n, e, l, ps⟩ => (.bool (patOk n e l ps), [.int .i64 n, .int .u32 e, .int .u32 l, .sl (frsA ps) false])))
theorem sp_l07Ok_eq (n e l : Int) (ps : List Fr) (h : (0 ≤ e ∧ e ≤ 4294967295) ∧ (0 ≤ l ∧ l ≤ 4294967295) ∧ ps.length ≤ maxLen) : sp_l07Ok [.int .i64 n, .int .u32 e, .int .u32 l, .sl (frsA ps) false] [] = some (.bool (patOk n e l ps), [.int .i64 n, .int .u32 e, .int .u32 l, .sl (frsA ps) false]) := by
  unfold sp_l07Ok pm
  exact pf_eq (ι := (Int) × (Int) × (Int) × (List Fr)) (α := AV × List AV) (n, e, l, ps) h (by rintro ⟨n', e', l', ps'⟩ _ e; simp_all [Int.natCast_inj])
theorem m_spec_l07Ok : QM PP 61 sp_l07Ok := by
  refine QM_pf (fun i h => ?_) fun i h => ?_
  · obtain ⟨n, e, l, ps⟩ := i; exact ⟨⟨by first | rfl | simp, by first | rfl | simp⟩, by first | rfl | simp, by first | rfl | simp⟩
  obtain ⟨n, e, l, ps⟩ := i
  replace h : (0 ≤ e ∧ e ≤ 4294967295) ∧ (0 ≤ l ∧ l ≤ 4294967295) ∧ ps.length ≤ maxLen := h
  refine H_code (Quiet.q1 q_spec_l01Ok (Quiet.q1 q_spec_l07Form (Quiet.q1 q_spec_l02List (Quiet.q1 q_spec_SumOfFractions (Quiet.q1 q_spec_l02One Quiet.nil))))) hmix k_spec_l07Ok rfl (fun b => b) (Nat.le_refl _) (fun _ _ => rfl) rfl (by first | rfl | simp) ?_
  show wpc 1 PP _ c_spec_l07Ok (initSt [.ptr 0 0] ⟨[some [.int .i64 n, .int .u32 e, .int .u32 l, .sl (frsA ps) false]]⟩) (endH (fun b => b) r_spec_l07Ok (.bool (patOk n e l ps)) [some [.int .i64 n, .int .u32 e, .int .u32 l, .sl (frsA ps) false]])
  obtain ⟨he, hl, hp⟩ := h
  have hlen4 : loopsOk n l = true → n ≤ 4 := fun h => (of_decide_eq_true h).1.2
  simp -dsimp -implicitDefEqProofs [c_spec_l07Ok, r_spec_l07Ok, sp_graphOk_eq n e he]
  cases hg : graphOk n e with
  | false => simp -dsimp -implicitDefEqProofs [patOk, hg, hsub]
  | true =>
    cases hf : loopsOk n l with
    | false => simp -dsimp -implicitDefEqProofs [sp_form_eq n e l hl, hf, patOk, hsub]
    | true =>
      by_cases hn : (ps.length : Int) = n
      · have hn4 := hlen4 hf
        have h256 : ps.length ≤ 256 := by omega
        cases ha : allOk ps with
        | false => simp -dsimp -implicitDefEqProofs [sp_form_eq n e l hl, hf, hn, sp_l02List_eq ps hp, ha, patOk, hsub]
        | true =>
          simp -dsimp -implicitDefEqProofs [sp_form_eq n e l hl, hf, hn, sp_l02List_eq ps hp, ha, h256]
          refine wpLoop_st (fun (i : Nat) => ⟨tl [(0, .ptr 0 0), (3, .int .i64 i)], ⟨[some [.int .i64 n, .int .u32 e, .int .u32 l, .sl (frsA ps) false]]⟩⟩) (fun i => i ≤ ps.length ∧ nnAll (ps.take i) = true) (fun i => ps.length - i) 0 ⟨Nat.zero_le _, rfl⟩ (Sub.keep (by simp) (by simp [hsub]) (by simp)) ?_
          rintro i ⟨h1, h2⟩
          simp -dsimp -implicitDefEqProofs
          refine brW_of (fun h => ?_) (fun h => ?_) <;> simp only [decide_eq_true_eq, decide_eq_false_iff_not] at h
          · have hi : i < ps.length := by omega
            have hw := wrapNat (i := i) (by omega)
            by_cases hneg : ps[i].p < 0
            · simp -dsimp -implicitDefEqProofs [hi, hw, hneg, patOk, nnAll_false hi hneg, hsub]
            · simp -dsimp -implicitDefEqProofs [hi, hw, hneg]
              exact .mk (i + 1) ⟨by omega, nnAll_step hi h2 hneg⟩ (by omega) (Sub.keep (by simp) (by simp [hsub]) (by simp))
          · have hi : i = ps.length := by omega
            rw [hi, List.take_length] at h2
            have hs : sumA ps = frO (sumO ⟨0, 1⟩ ps) := if_pos ⟨ha, h256⟩
            cases hsum : sumO ⟨0, 1⟩ ps with
            | none => simp -dsimp -implicitDefEqProofs [sp_Sum_eq ps hp, hs, hsum, frO, patOk, hsub]
            | some s =>
              simp -dsimp -implicitDefEqProofs [sp_Sum_eq ps hp, hs, hsum, frO, patOk, hsub, hg, hf, hn, ha, h2]
              cases s
              rw [Bool.eq_iff_iff]
              simp
      · have hn' : ((ps.length : Int) != n) = true := by simpa using hn
        simp -dsimp -implicitDefEqProofs [sp_form_eq n e l hl, hf, hn', hn, patOk, hsub]

noncomputable def sp_patOk : List AV → Option (AV) := pf (ι := (Int) × (Int) × (Int) × (List Fr)) (α := AV) (fun ⟨n, e, l, ps⟩ => (0 ≤ e ∧ e ≤ 4294967295) ∧ (0 ≤ l ∧ l ≤ 4294967295) ∧ ps.length ≤ maxLen) (fun ⟨n, e, l, ps⟩ => [.agg [.int .i64 n, .int .u32 e, .int .u32 l, .sl (frsA ps) false]]) (fun ⟨n, e, l, ps⟩ => .bool (patOk n e l ps))
theorem sp_patOk_eq (n e l : Int) (ps : List Fr) (h : (0 ≤ e ∧ e ≤ 4294967295) ∧ (0 ≤ l ∧ l ≤ 4294967295) ∧ ps.length ≤ maxLen) : sp_patOk [.agg [.int .i64 n, .int .u32 e, .int .u32 l, .sl (frsA ps) false]] = some (.bool (patOk n e l ps)) := by
  unfold sp_patOk
  exact pf_eq (ι := (Int) × (Int) × (Int) × (List Fr)) (α := AV) (n, e, l, ps) h (by rintro ⟨n', e', l', ps'⟩ _ e; simp_all [Int.natCast_inj])
theorem q_spec_ValidPattern : QP PP 59 sp_patOk := by
  refine QP_pf (fun i h => ?_) fun i h => ?_
  · obtain ⟨n, e, l, ps⟩ := i; exact ⟨by first | rfl | simp, by first | rfl | simp⟩
  obtain ⟨n, e, l, ps⟩ := i
  replace h : (0 ≤ e ∧ e ≤ 4294967295) ∧ (0 ≤ l ∧ l ≤ 4294967295) ∧ ps.length ≤ maxLen := h
  refine P_code (Quiet.e1 m_spec_l07Ok.toE Quiet.nil) hmix k_spec_ValidPattern rfl ?_ ?_
  · first | rfl | simp
  show wpc 0 PP _ c_spec_ValidPattern (initSt [.agg [.int .i64 n, .int .u32 e, .int .u32 l, .sl (frsA ps) false]] .nil) (endP r_spec_ValidPattern (.bool (patOk n e l ps)))
  simp -dsimp -implicitDefEqProofs [c_spec_ValidPattern, r_spec_ValidPattern, sp_l07Ok_eq n e l ps h]

end Go.Proofs.YtkgodhdpcomjbaaAi
