/- Contracts: maps that fit, the chance of a graph, as the reference makes them. -/
import Derived.Test.YtkgodhdpcomjbaaAdB24
namespace Go.Proofs.YtkgodhdpcomjbaaAi
open Go Go.RowKit
set_option linter.unusedVariables false
set_option linter.unusedSimpArgs false
set_option maxRecDepth 20000

def fitS (just edge joined : Bool) : Bool := !(edge && !joined || just && joined && !edge)
def fitL (just : Bool) (he e l : Int) (L : List Int) (m : Nat) : Bool := pairsB (fun i j => fitS just (hasB he i j) (joinB e l (atI L i) (atI L j))) m
noncomputable def sp_fitsP : List (Option (List AV)) → List AV → Option (AV × List (Option (List AV))) := pv (pf (ι := (Int) × (Int) × (Int) × (List Fr) × (Nat) × (Int) × (List Int) × (Bool) × (Cp)) (α := AV × List (Option (List AV))) (fun ⟨n, e, l, ps, m, he, L, just, t⟩ => ((0 ≤ e ∧ e ≤ 4294967295) ∧ (0 ≤ l ∧ l ≤ 4294967295)) ∧ (m ≤ 5 ∧ 0 ≤ he ∧ he ≤ 4294967295) ∧ allPart L ∧ L.length = m) (fun i => .agg (((fun ⟨n, e, l, ps, m, he, L, just, t⟩ => [some [.int .i64 n, .int .u32 e, .int .u32 l, .sl (frsA ps) false], some (flatA (insA L))] : (Int) × (Int) × (Int) × (List Fr) × (Nat) × (Int) × (List Int) × (Bool) × (Cp) → List (Option (List AV))) i).map enO) :: (fun ⟨n, e, l, ps, m, he, L, just, t⟩ => [.ptr 0 0, .agg [.int .i64 m, .int .u32 he], .ref 1 1 0 m t, .bool just] : (Int) × (Int) × (Int) × (List Fr) × (Nat) × (Int) × (List Int) × (Bool) × (Cp) → List AV) i) (fun ⟨n, e, l, ps, m, he, L, just, t⟩ => (.bool (fitL just he e l L m), [some [.int .i64 n, .int .u32 e, .int .u32 l, .sl (frsA ps) false], some (flatA (insA L))])))
theorem sp_fitsP_eq (n e l : Int) (ps : List Fr) (m : Nat) (he : Int) (L : List Int) (just : Bool) (t : Cp) (h : ((0 ≤ e ∧ e ≤ 4294967295) ∧ (0 ≤ l ∧ l ≤ 4294967295)) ∧ (m ≤ 5 ∧ 0 ≤ he ∧ he ≤ 4294967295) ∧ allPart L ∧ L.length = m) : sp_fitsP [some [.int .i64 n, .int .u32 e, .int .u32 l, .sl (frsA ps) false], some (flatA (insA L))] [.ptr 0 0, .agg [.int .i64 m, .int .u32 he], .ref 1 1 0 m t, .bool just] = some (.bool (fitL just he e l L m), [some [.int .i64 n, .int .u32 e, .int .u32 l, .sl (frsA ps) false], some (flatA (insA L))]) := by
  unfold sp_fitsP pv
  exact pf_eq (ι := (Int) × (Int) × (Int) × (List Fr) × (Nat) × (Int) × (List Int) × (Bool) × (Cp)) (α := AV × List (Option (List AV))) (n, e, l, ps, m, he, L, just, t) h (by rintro ⟨n', e', l', ps', m', he', L', just', t'⟩ _ e; simp_all [enO, Int.natCast_inj])
set_option maxHeartbeats 1000000 in
theorem v_spec_l07Fits : QV PP 137 sp_fitsP := by
  refine QV_pf fun i h => ?_
  obtain ⟨n, e, l, ps, m, he, L, just, t⟩ := i
  replace h : ((0 ≤ e ∧ e ≤ 4294967295) ∧ (0 ≤ l ∧ l ≤ 4294967295)) ∧ (m ≤ 5 ∧ 0 ≤ he ∧ he ≤ 4294967295) ∧ allPart L ∧ L.length = m := h
  refine H_code (Quiet.q1 q_spec_l01Joined (Quiet.e1 v_spec_l07Joined.toE Quiet.nil)) hmix k_spec_l07Fits rfl (fun b => b) (by simp [AHeap.n]) (fun _ _ => rfl) (by rfl) (by first | rfl | simp) ?_
  show wpc _ PP _ c_spec_l07Fits (initSt [.ptr 0 0, .agg [.int .i64 m, .int .u32 he], .ref 1 1 0 m t, .bool just] ⟨[some [.int .i64 n, .int .u32 e, .int .u32 l, .sl (frsA ps) false], some (flatA (insA L))]⟩) (endH (fun b => b) r_spec_l07Fits (.bool (fitL just he e l L m)) [some [.int .i64 n, .int .u32 e, .int .u32 l, .sl (frsA ps) false], some (flatA (insA L))])
  obtain ⟨hel, ⟨hm, hhe⟩, hpart, hlen⟩ := h
  simp -dsimp -implicitDefEqProofs [c_spec_l07Fits, r_spec_l07Fits]
  generalize hf : (fun (i j : Nat) => fitS just (hasB he i j) (joinB e l (atI L i) (atI L j))) = f
  have hfv : fitL just he e l L m = pairsB f m := by rw [fitL, hf]
  rw [hfv]
  refine wpLoop_st (fun (j : Nat) => ⟨tl [(0, .ptr 0 0), (2, .ref 1 1 0 m t), (3, .bool just), (5, .ptr 2 0), (9, .int .i64 j)], ⟨[some [.int .i64 n, .int .u32 e, .int .u32 l, .sl (frsA ps) false], some (flatA (insA L)), some [.int .i64 m, .int .u32 he]]⟩⟩) (fun j => 1 ≤ j ∧ j ≤ max m 1 ∧ pairsB f j = true) (fun j => max m 1 - j) 1 ⟨by omega, by omega, by simp [pairsB, rowB]⟩ (Sub.keep (by simp) (by simp [hsub]) (by simp)) ?_
  rintro j ⟨j1, j2, j3⟩
  simp -dsimp -implicitDefEqProofs
  refine brW_of (fun h => ?_) (fun h => ?_) <;> simp only [decide_eq_true_eq, decide_eq_false_iff_not] at h
  · have hj : j < m := by omega
    have hwj := wrapNat (i := j) (by omega)
    simp -dsimp -implicitDefEqProofs
    refine wpLoop_st (fun (i : Nat) => ⟨tl [(0, .ptr 0 0), (2, .ref 1 1 0 m t), (3, .bool just), (5, .ptr 2 0), (9, .int .i64 j), (10, .int .i64 i)], ⟨[some [.int .i64 n, .int .u32 e, .int .u32 l, .sl (frsA ps) false], some (flatA (insA L)), some [.int .i64 m, .int .u32 he]]⟩⟩) (fun i => i ≤ j ∧ rowB f j i = true) (fun i => j - i) 0 ⟨by omega, rfl⟩ (Sub.keep (by simp) (by simp [hsub]) (by simp)) ?_
    rintro i ⟨i1, i2⟩
    simp -dsimp -implicitDefEqProofs
    refine brW_of (fun h => ?_) (fun h => ?_) <;> simp only [decide_eq_true_eq, decide_eq_false_iff_not] at h
    · have hwi := wrapNat (i := i) (by omega)
      have hi : i < m := by omega
      have hiL : i < L.length := by omega
      have hjL : j < L.length := by omega
      have hq := sp_l01Joined_eq m he i j ⟨hhe, by omega, by omega⟩
      have hij : (i : Int) ≠ (j : Int) := by omega
      have hq2 : joinedB he i j = hasB he i j := by simp only [joinedB, hij, ne_eq, not_false_eq_true, decide_true, Bool.true_and]
      rw [hq2] at hq
      have hJ := sp_joinP_eq n e l ps (atI L i) (atI L j) ⟨hel, hpart.at hiL, hpart.at hjL⟩
      have hfij : f i j = fitS just (hasB he i j) (joinB e l (atI L i) (atI L j)) := by rw [← hf]
      generalize hasB he i j = E at hq hfij
      generalize joinB e l (atI L i) (atI L j) = J at hJ hfij
      cases hv : f i j with
      | false =>
        have hres := pairsB_false i j h hj hv
        rw [hv] at hfij
        cases just <;> cases E <;> cases J <;> simp [fitS] at hfij <;> simp -dsimp -implicitDefEqProofs [hi, hj, hiL, hjL, atI_get hiL, atI_get hjL, hq, hJ, hres, hsub]
      | true =>
        rw [hv] at hfij
        have hnext : rowB f j (i + 1) = true := by rw [rowB, i2, hv]; rfl
        cases just <;> cases E <;> cases J <;> simp [fitS] at hfij <;> simp -dsimp -implicitDefEqProofs [hi, hj, hiL, hjL, atI_get hiL, atI_get hjL, hq, hJ, hwi] <;> exact .mk (i + 1) ⟨by omega, hnext⟩ (by omega) (Sub.keep (by simp) (by simp [hsub]) (by simp [hwi]))
    · have : i = j := by omega
      subst this
      simp -dsimp -implicitDefEqProofs [hwj]
      exact .mk (i + 1) ⟨by omega, by omega, by rw [pairsB, j3, i2]; rfl⟩ (by omega) (Sub.keep (by simp) (by simp [hsub]) (by simp [hwj]))
  · have hr : pairsB f m = true := by
      rcases Nat.eq_zero_or_pos m with rfl | hm0
      · rfl
      · have : j = m := by omega
        subst this; exact j3
    simp -dsimp -implicitDefEqProofs [hr, hsub]

/-! ### the chance of a graph -/
def wAt (ps : List Fr) (i : Int) : Fr := ps.getD i.toNat ⟨0, 1⟩
theorem wAt_in {ps : List Fr} (h : allIn ps) (i : Int) : frIn (wAt ps i).p (wAt ps i).q := by
  unfold wAt
  by_cases hi : i.toNat < ps.length
  · rw [List.getD_eq_getElem?_getD, List.getElem?_eq_getElem hi]; exact h.get hi
  · rw [List.getD_eq_getElem?_getD, List.getElem?_eq_none (by omega)]; exact zero_in
def prodO (ps : List Fr) : Fr → List Int → Option Fr
  | x, [] => some x
  | x, i :: r => (mul2 x (wAt ps i)).bind fun y => prodO ps y r
theorem prodO_in {ps : List Fr} (h : allIn ps) : ∀ {L : List Int} {x y : Fr}, frIn x.p x.q → prodO ps x L = some y → frIn y.p y.q
  | [], x, y, hx, e => by rw [prodO] at e; obtain rfl := Option.some.inj e; exact hx
  | i :: r, x, y, hx, e => by
    rw [prodO] at e
    obtain ⟨z, hz, e⟩ := Option.bind_eq_some_iff.1 e
    exact prodO_in h (mul2_some hx (wAt_in h i) hz) e
def chF (fit : List Int → Bool) (ps : List Fr) : Fr → List (List Int) → Option Fr
  | a, [] => some a
  | a, L :: r => if fit L = true then (prodO ps ⟨1, 1⟩ L).bind fun w => (add2 a w).bind fun s => chF fit ps s r else chF fit ps a r
theorem one_in : frIn 1 1 := by unfold frIn; decide
def chanceO (n e l : Int) (ps : List Fr) (m : Nat) (he : Int) : Option Fr := chF (fun L => fitL true he e l L m) ps ⟨0, 1⟩ (allL n.toNat m)
noncomputable def sp_chanceS : List (Option (List AV)) → List AV → Option (AV × List (Option (List AV))) := pv (pf (ι := (Int) × (Int) × (Int) × (List Fr) × (Nat) × (Int)) (α := AV × List (Option (List AV))) (fun ⟨n, e, l, ps, m, he⟩ => ((0 ≤ e ∧ e ≤ 4294967295) ∧ (0 ≤ l ∧ l ≤ 4294967295)) ∧ (m ≤ 5 ∧ 0 ≤ he ∧ he ≤ 4294967295) ∧ (1 ≤ n ∧ n ≤ 4) ∧ (ps.length : Int) = n ∧ allIn ps) (fun i => .agg (((fun ⟨n, e, l, ps, m, he⟩ => [some [.int .i64 n, .int .u32 e, .int .u32 l, .sl (frsA ps) false]] : (Int) × (Int) × (Int) × (List Fr) × (Nat) × (Int) → List (Option (List AV))) i).map enO) :: (fun ⟨n, e, l, ps, m, he⟩ => [.ptr 0 0, .agg [.int .i64 m, .int .u32 he]] : (Int) × (Int) × (Int) × (List Fr) × (Nat) × (Int) → List AV) i) (fun ⟨n, e, l, ps, m, he⟩ => (frO (chanceO n e l ps m he), [some [.int .i64 n, .int .u32 e, .int .u32 l, .sl (frsA ps) false]])))
theorem sp_chanceS_eq (n e l : Int) (ps : List Fr) (m : Nat) (he : Int) (h : ((0 ≤ e ∧ e ≤ 4294967295) ∧ (0 ≤ l ∧ l ≤ 4294967295)) ∧ (m ≤ 5 ∧ 0 ≤ he ∧ he ≤ 4294967295) ∧ (1 ≤ n ∧ n ≤ 4) ∧ (ps.length : Int) = n ∧ allIn ps) : sp_chanceS [some [.int .i64 n, .int .u32 e, .int .u32 l, .sl (frsA ps) false]] [.ptr 0 0, .agg [.int .i64 m, .int .u32 he]] = some (frO (chanceO n e l ps m he), [some [.int .i64 n, .int .u32 e, .int .u32 l, .sl (frsA ps) false]]) := by
  unfold sp_chanceS pv
  exact pf_eq (ι := (Int) × (Int) × (Int) × (List Fr) × (Nat) × (Int)) (α := AV × List (Option (List AV))) (n, e, l, ps, m, he) h (by rintro ⟨n', e', l', ps', m', he'⟩ _ e; simp_all [enO, Int.natCast_inj])
set_option maxHeartbeats 1000000 in
theorem v_spec_l07Chance : QV PP 69 sp_chanceS := by
  refine QV_pf fun i h => ?_
  obtain ⟨n, e, l, ps, m, he⟩ := i
  replace h : ((0 ≤ e ∧ e ≤ 4294967295) ∧ (0 ≤ l ∧ l ≤ 4294967295)) ∧ (m ≤ 5 ∧ 0 ≤ he ∧ he ≤ 4294967295) ∧ (1 ≤ n ∧ n ≤ 4) ∧ (ps.length : Int) = n ∧ allIn ps := h
  refine H_code (Quiet.q1 q_spec_l02Zero (Quiet.q1 q_spec_l02One (Quiet.q1 q_spec_l02Mul (Quiet.q1 q_spec_l02Add (Quiet.e1 v_spec_l07Fits.toE (Quiet.e1 v_spec_l07Map.toE Quiet.nil)))))) hmix k_spec_l07Chance rfl (fun b => b) (by simp [AHeap.n]) (fun _ _ => rfl) (by rfl) (by first | rfl | simp) ?_
  show wpc _ PP _ c_spec_l07Chance (initSt [.ptr 0 0, .agg [.int .i64 m, .int .u32 he]] ⟨[some [.int .i64 n, .int .u32 e, .int .u32 l, .sl (frsA ps) false]]⟩) (endH (fun b => b) r_spec_l07Chance (frO (chanceO n e l ps m he)) [some [.int .i64 n, .int .u32 e, .int .u32 l, .sl (frsA ps) false]])
  obtain ⟨hel, ⟨hm, hhe⟩, hn, hps, hin⟩ := h
  obtain ⟨k, rfl⟩ := Int.eq_ofNat_of_zero_le (show 0 ≤ n by omega)
  have hch := allL_chain k (by omega) (by omega) m hm
  have hfi := allL_first k (by omega) (by omega) m hm
  have hmem : ∀ (i : Nat) (L : List Int), (allL k m)[i]? = some L → L.length = m ∧ ∀ x ∈ L, 0 ≤ x ∧ x < (k : Int) := fun i L h => ⟨allL_len (List.mem_of_getElem? h), allL_range (List.mem_of_getElem? h)⟩
  have hco : chanceO k e l ps m he = chF (fun L => fitL true he e l L m) ps ⟨0, 1⟩ (allL k m) := by rw [chanceO]; rfl
  rw [hco]
  clear hco
  generalize allL k m = AL at hch hfi hmem ⊢
  have hm9 : (m : Int) * 9 ≤ (mostBytes : Int) := by simp only [mostBytes]; omega
  have hAL : 0 < AL.length := by
    rcases Nat.eq_zero_or_pos AL.length with h0 | h0
    · rw [List.getElem?_eq_none (by omega)] at hfi; cases hfi
    · exact h0
  simp -dsimp -implicitDefEqProofs [c_spec_l07Chance, r_spec_l07Chance, hm9, news_in1]
  refine wpLoop_st (fun (q : Nat × List Int × Fr) => ⟨tl [(0, .ptr 0 0), (3, .ptr 1 0), (4, .ptr 2 0), (6, .ptr 3 0), (7, .ref 4 1 0 m .tight), (8, .bool (decide (q.1 < AL.length)))], ⟨[some [.int .i64 k, .int .u32 e, .int .u32 l, .sl (frsA ps) false], some [.int .i64 m, .int .u32 he], some [.int .i64 0, .int .i64 0], some [.int .i64 q.2.2.p, .int .i64 q.2.2.q], some (flatA (insA q.2.1))]⟩⟩)
    (fun q => q.1 ≤ AL.length ∧ q.2.1.length = m ∧ (q.1 < AL.length → AL[q.1]? = some q.2.1) ∧ frIn q.2.2.p q.2.2.q ∧ chF (fun L => fitL true he e l L m) ps q.2.2 (AL.drop q.1) = chF (fun L => fitL true he e l L m) ps ⟨0, 1⟩ AL)
    (fun q => AL.length - q.1) (0, List.replicate m 0, ⟨0, 1⟩) ⟨by omega, by simp, fun _ => hfi, zero_in, by simp⟩ (Sub.keep (by simp) (by simp [hsub]) (by simp [hAL])) ?_
  rintro ⟨i, L, a⟩ ⟨h1, h2, h3, h4, h5⟩
  simp only at h1 h2 h3 h4 h5
  by_cases hi : i < AL.length
  · have hL := h3 hi
    obtain ⟨_, hr⟩ := hmem i L hL
    have hpart : allPart L := fun x hx => by have := hr x hx; omega
    have hfit := sp_fitsP_eq k e l ps m he L true .tight ⟨hel, ⟨hm, hhe⟩, hpart, h2⟩
    have hmap := sp_l07Map_eq k L .tight ⟨by omega, by omega, fun x hx => by have := hr x hx; omega⟩
    rw [h2] at hmap
    have hnx := chainB_get hch i L hL
    have hod : (odo k m L).2 = decide (i + 1 < AL.length) ∧ (i + 1 < AL.length → AL[i + 1]? = some (odo k m L).1) := by
      unfold odoN at hnx
      rw [h2] at hnx
      cases ho : (odo k m L).2 with
      | true =>
        rw [ho, if_pos rfl] at hnx
        have := (List.getElem?_eq_some_iff.1 hnx.symm).1
        exact ⟨by simp [this], fun _ => hnx.symm⟩
      | false =>
        rw [ho] at hnx
        simp only [Bool.false_eq_true, if_false] at hnx
        have : ¬ i + 1 < AL.length := fun hlt => by rw [List.getElem?_eq_getElem hlt] at hnx; cases hnx
        exact ⟨by simp [this], fun h => absurd h this⟩
    have hod1 := hod.1
    have hlen2 : (odo k m L).1.length = m := by rw [odo_len]; exact h2
    have hL0 : AL[i] = L := by rw [List.getElem?_eq_getElem hi] at hL; exact Option.some.inj hL
    rw [drop_cons hi, hL0, chF] at h5
    cases hv : fitL true he e l L m with
    | false =>
      rw [hv] at hfit h5
      simp only [Bool.false_eq_true, if_false] at h5
      simp -dsimp -implicitDefEqProofs [hi, hfit, hmap, hod1]
      exact .mk (i + 1, (odo k m L).1, a) ⟨by simp only; omega, hlen2, hod.2, h4, h5⟩ (by simp only; omega) (Sub.keep (by simp) (by simp [hsub]) (by simp))
    | true =>
      rw [hv] at hfit h5
      simp only [if_true] at h5
      simp -dsimp -implicitDefEqProofs [hi, hfit]
      refine wpLoop_st (fun (c : Nat × Fr) => ⟨tl [(0, .ptr 0 0), (3, .ptr 1 0), (4, .ptr 2 0), (6, .ptr 3 0), (7, .ref 4 1 0 m .tight), (9, .ptr 5 0), (10, .int .i64 c.1)], ⟨[some [.int .i64 k, .int .u32 e, .int .u32 l, .sl (frsA ps) false], some [.int .i64 m, .int .u32 he], some [.int .i64 0, .int .i64 0], some [.int .i64 a.p, .int .i64 a.q], some (flatA (insA L)), some [.int .i64 c.2.p, .int .i64 c.2.q]]⟩⟩)
        (fun c => c.1 ≤ m ∧ frIn c.2.p c.2.q ∧ prodO ps c.2 (L.drop c.1) = prodO ps ⟨1, 1⟩ L) (fun c => m - c.1) (0, ⟨1, 1⟩) ⟨by omega, one_in, by simp⟩ (Sub.keep (by simp) (by simp [hsub]) (by simp)) ?_
      rintro ⟨c, x⟩ ⟨c1, c2, c3⟩
      simp only at c1 c2 c3
      simp -dsimp -implicitDefEqProofs
      refine brW_of (fun h => ?_) (fun h => ?_) <;> simp only [decide_eq_true_eq, decide_eq_false_iff_not] at h
      · have hc : c < L.length := by omega
        have hcm : c < m := by omega
        have hwc := wrapNat (i := c) (by omega)
        have hx := hr _ (List.getElem_mem hc)
        obtain ⟨y, hy⟩ := Int.eq_ofNat_of_zero_le hx.1
        have hyp : y < ps.length := by omega
        have hw : wAt ps L[c] = ps[y] := by simp [wAt, hy, hyp]
        have hm1 := sp_l02Mul_eq x.p x.q ps[y].p ps[y].q ⟨c2, hin.get hyp⟩
        rw [drop_cons hc, prodO, hw] at c3
        unfold mul2 at c3
        cases hmu : mulO x.p x.q ps[y].p ps[y].q with
        | none =>
          rw [hmu] at hm1 c3
          simp only [Option.bind_none] at c3
          rw [← c3] at h5
          simp only [Option.bind_none] at h5
          simp -dsimp -implicitDefEqProofs [hc, hcm, hy, hyp, hm1, frO, ← h5, hsub]
        | some z =>
          rw [hmu] at hm1 c3
          simp only [Option.bind_some] at c3
          have hz := mul2_some (x := x) (y := ps[y]) c2 (hin.get hyp) hmu
          simp -dsimp -implicitDefEqProofs [hc, hcm, hy, hyp, hm1, frO, hwc]
          exact .mk (c + 1, z) ⟨by simp only; omega, hz, c3⟩ (by simp only; omega) (Sub.keep (by simp) (by simp [hsub]) (by simp [hwc]))
      · have hc : c = m := by omega
        subst hc
        rw [drop_end (by omega), prodO] at c3
        rw [← c3] at h5
        simp only [Option.bind_some] at h5
        have ha1 := sp_l02Add_eq a.p a.q x.p x.q ⟨h4, c2⟩
        unfold add2 at h5
        cases hadd : addO a.p a.q x.p x.q with
        | none =>
          rw [hadd] at ha1 h5
          simp only [Option.bind_none] at h5
          simp -dsimp -implicitDefEqProofs [ha1, frO, ← h5, hsub]
        | some s =>
          rw [hadd] at ha1 h5
          simp only [Option.bind_some] at h5
          have hs := add2_some (x := a) (y := x) h4 c2 hadd
          simp -dsimp -implicitDefEqProofs [ha1, frO, hmap, hod1]
          exact .mk (i + 1, (odo k c L).1, s) ⟨by simp only; omega, hlen2, hod.2, hs, h5⟩ (by simp only; omega) (Sub.keep (by simp) (by simp [hsub]) (by simp))
  · have : i = AL.length := by omega
    subst this
    rw [drop_end hi, chF] at h5
    simp -dsimp -implicitDefEqProofs [hi, ← h5, frO, hsub]
end Go.Proofs.YtkgodhdpcomjbaaAi
