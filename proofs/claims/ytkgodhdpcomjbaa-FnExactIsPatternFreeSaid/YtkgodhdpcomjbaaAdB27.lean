/- Contracts: the first map of a graph. -/
import Derived.Test.YtkgodhdpcomjbaaAdB26
namespace Go.Proofs.YtkgodhdpcomjbaaAi
open Go Go.RowKit
set_option linter.unusedVariables false
set_option linter.unusedSimpArgs false
set_option maxRecDepth 20000

def heavyL (ps : List Fr) (L : List Int) : Bool := L.all fun i => decide (0 < (wAt ps i).p)
def mapO (n e l : Int) (ps : List Fr) (m : Nat) (he : Int) : Option (List Int) := (allL n.toNat m).find? fun L => heavyL ps L && fitL false he e l L m
def fmR (m : Nat) : Option (List Int) → AV
  | some _ => .tup [.ref 1 1 0 m .tight, .bool true]
  | none => .tup [.sl [] true, .bool false]
def fmO (pc : List AV) : Option (List Int) → List (Option (List AV))
  | some L => [some pc, some (flatA (insA L))]
  | none => [some pc]
def fmC (n e l : Int) (ps : List Fr) (m : Nat) (he : Int) : Prop := ((0 ≤ e ∧ e ≤ 4294967295) ∧ (0 ≤ l ∧ l ≤ 4294967295)) ∧ (m ≤ 5 ∧ 0 ≤ he ∧ he ≤ 4294967295) ∧ (1 ≤ n ∧ n ≤ 4) ∧ (ps.length : Int) = n
noncomputable def sp_firstS : List (Option (List AV)) → List AV → Option (AV × List (Option (List AV))) := pv (pf (ι := (Int) × (Int) × (Int) × (List Fr) × (Nat) × (Int)) (α := AV × List (Option (List AV))) (fun ⟨n, e, l, ps, m, he⟩ => fmC n e l ps m he) (fun i => .agg (((fun ⟨n, e, l, ps, m, he⟩ => [some [.int .i64 n, .int .u32 e, .int .u32 l, .sl (frsA ps) false]] : (Int) × (Int) × (Int) × (List Fr) × (Nat) × (Int) → List (Option (List AV))) i).map enO) :: (fun ⟨n, e, l, ps, m, he⟩ => [.ptr 0 0, .agg [.int .i64 m, .int .u32 he]] : (Int) × (Int) × (Int) × (List Fr) × (Nat) × (Int) → List AV) i) (fun ⟨n, e, l, ps, m, he⟩ => (fmR m (mapO n e l ps m he), fmO [.int .i64 n, .int .u32 e, .int .u32 l, .sl (frsA ps) false] (mapO n e l ps m he))))
theorem sp_firstS_eq (n e l : Int) (ps : List Fr) (m : Nat) (he : Int) (h : fmC n e l ps m he) : sp_firstS [some [.int .i64 n, .int .u32 e, .int .u32 l, .sl (frsA ps) false]] [.ptr 0 0, .agg [.int .i64 m, .int .u32 he]] = some (fmR m (mapO n e l ps m he), fmO [.int .i64 n, .int .u32 e, .int .u32 l, .sl (frsA ps) false] (mapO n e l ps m he)) := by
  unfold sp_firstS pv
  exact pf_eq (ι := (Int) × (Int) × (Int) × (List Fr) × (Nat) × (Int)) (α := AV × List (Option (List AV))) (n, e, l, ps, m, he) h (by rintro ⟨n', e', l', ps', m', he'⟩ _ e; simp_all [enO, Int.natCast_inj])
set_option maxHeartbeats 1000000 in
theorem v_spec_l07First : QV PP 94 sp_firstS := by
  refine QV_pf fun i h => ?_
  obtain ⟨n, e, l, ps, m, he⟩ := i
  replace h : fmC n e l ps m he := h
  obtain ⟨hel, ⟨hm, hhe⟩, hn, hps⟩ := h
  obtain ⟨k, rfl⟩ := Int.eq_ofNat_of_zero_le (show 0 ≤ n by omega)
  have hch := allL_chain k (by omega) (by omega) m hm
  have hfi := allL_first k (by omega) (by omega) m hm
  have hmem : ∀ (i : Nat) (L : List Int), (allL k m)[i]? = some L → L.length = m ∧ ∀ x ∈ L, 0 ≤ x ∧ x < (k : Int) := fun i L h => ⟨allL_len (List.mem_of_getElem? h), allL_range (List.mem_of_getElem? h)⟩
  show T PP 94 [.ptr 0 0, .agg [.int .i64 m, .int .u32 he]] ⟨[some [.int .i64 k, .int .u32 e, .int .u32 l, .sl (frsA ps) false]]⟩ fun r A' => r = fmR m (mapO k e l ps m he) ∧ A' = ⟨fmO [.int .i64 k, .int .u32 e, .int .u32 l, .sl (frsA ps) false] (mapO k e l ps m he)⟩
  have hco : mapO k e l ps m he = (allL k m).find? fun L => heavyL ps L && fitL false he e l L m := by rw [mapO]; rfl
  rw [hco]
  clear hco
  generalize allL k m = AL at hch hfi hmem ⊢
  have hm9 : (m : Int) * 9 ≤ (mostBytes : Int) := by simp only [mostBytes]; omega
  have hAL : 0 < AL.length := by
    rcases Nat.eq_zero_or_pos AL.length with h0 | h0
    · rw [List.getElem?_eq_none (by omega)] at hfi; cases hfi
    · exact h0
  cases hmo : AL.find? (fun L => heavyL ps L && fitL false he e l L m) with
  | none =>
    refine H_code (Quiet.e1 v_spec_l07Fits.toE (Quiet.e1 v_spec_l07Map.toE Quiet.nil)) hmix k_spec_l07First rfl (fun b => b) (by simp [AHeap.n, fmO]) (fun _ _ => rfl) (by rfl) (by rfl) ?_
    show wpc 1 PP _ c_spec_l07First (initSt [.ptr 0 0, .agg [.int .i64 m, .int .u32 he]] ⟨[some [.int .i64 k, .int .u32 e, .int .u32 l, .sl (frsA ps) false]]⟩) (endH (fun b => b) r_spec_l07First (.tup [.sl [] true, .bool false]) [some [.int .i64 k, .int .u32 e, .int .u32 l, .sl (frsA ps) false]])
    simp -dsimp -implicitDefEqProofs [c_spec_l07First, r_spec_l07First, hm9, news_in1]
    refine wpLoop_st (fun (q : Nat × List Int) => ⟨tl [(0, .ptr 0 0), (3, .ptr 1 0), (6, .ref 2 1 0 m .tight), (7, .bool (decide (q.1 < AL.length)))], ⟨[some [.int .i64 k, .int .u32 e, .int .u32 l, .sl (frsA ps) false], some [.int .i64 m, .int .u32 he], some (flatA (insA q.2))]⟩⟩)
      (fun q => q.1 ≤ AL.length ∧ q.2.length = m ∧ (q.1 < AL.length → AL[q.1]? = some q.2) ∧ (AL.drop q.1).find? (fun L => heavyL ps L && fitL false he e l L m) = AL.find? (fun L => heavyL ps L && fitL false he e l L m))
      (fun q => AL.length - q.1) (0, List.replicate m 0) ⟨by omega, by simp, fun _ => hfi, by simp⟩ (Sub.keep (by simp) (by simp [hsub]) (by simp [hAL])) ?_
    rintro ⟨i, L⟩ ⟨h1, h2, h3, h5⟩
    simp only at h1 h2 h3 h5
    rw [hmo] at h5
    by_cases hi : i < AL.length
    · have hL := h3 hi
      obtain ⟨_, hr⟩ := hmem i L hL
      have hpart : allPart L := fun x hx => by have := hr x hx; omega
      have hfit := sp_fitsP_eq k e l ps m he L false .tight ⟨hel, ⟨hm, hhe⟩, hpart, h2⟩
      have hmap := sp_l07Map_eq k L .tight ⟨by omega, by omega, fun x hx => by have := hr x hx; omega⟩
      rw [h2] at hmap
      have hnx := chainB_get hch i L hL
      have hod : (odo k m L).2 = decide (i + 1 < AL.length) ∧ (i + 1 < AL.length → AL[i + 1]? = some (odo k m L).1) := by
        unfold odoN at hnx
        rw [h2] at hnx
        cases ho : (odo k m L).2 with
        | true =>
          rw [ho, if_pos rfl] at hnx
          have := (List.getElem?_eq_some_iff.1 hnx.symm).1
          exact ⟨by simp [this], fun _ => hnx.symm⟩
        | false =>
          rw [ho] at hnx
          simp only [Bool.false_eq_true, if_false] at hnx
          have : ¬ i + 1 < AL.length := fun hlt => by rw [List.getElem?_eq_getElem hlt] at hnx; cases hnx
          exact ⟨by simp [this], fun h => absurd h this⟩
      have hod1 := hod.1
      have hlen2 : (odo k m L).1.length = m := by rw [odo_len]; exact h2
      have hL0 : AL[i] = L := by rw [List.getElem?_eq_getElem hi] at hL; exact Option.some.inj hL
      rw [drop_cons hi, hL0, List.find?_cons] at h5
      simp -dsimp -implicitDefEqProofs [hi]
      refine wpLoop_st (fun (c : Nat) => ⟨tl [(0, .ptr 0 0), (3, .ptr 1 0), (6, .ref 2 1 0 m .tight), (8, .bool (heavyL ps (L.take c))), (9, .int .i64 c)], ⟨[some [.int .i64 k, .int .u32 e, .int .u32 l, .sl (frsA ps) false], some [.int .i64 m, .int .u32 he], some (flatA (insA L))]⟩⟩)
        (fun c => c ≤ m) (fun c => m - c) 0 (by omega) (Sub.keep (by simp) (by simp [hsub]) (by simp [heavyL])) ?_
      intro c c1
      simp -dsimp -implicitDefEqProofs
      refine brW_of (fun h => ?_) (fun h => ?_) <;> simp only [decide_eq_true_eq, decide_eq_false_iff_not] at h
      · have hc : c < L.length := by omega
        have hcm : c < m := by omega
        have hwc := wrapNat (i := c) (by omega)
        have hx := hr _ (List.getElem_mem hc)
        obtain ⟨y, hy⟩ := Int.eq_ofNat_of_zero_le hx.1
        have hyp : y < ps.length := by omega
        have hw : wAt ps L[c] = ps[y] := by simp [wAt, hy, hyp]
        have hstep : heavyL ps (L.take (c + 1)) = (heavyL ps (L.take c) && decide (0 < ps[y].p)) := by
          unfold heavyL
          rw [take_snoc L c hc, List.all_append]
          simp [hw]
        cases hv : heavyL ps (L.take c) with
        | false =>
          rw [hv, Bool.false_and] at hstep
          simp -dsimp -implicitDefEqProofs [hc, hcm, hy, hyp, hwc]
          exact .mk (c + 1) (by omega) (by omega) (Sub.keep (by simp) (by simp [hsub]) (by simp [hstep, hwc]))
        | true =>
          rw [hv, Bool.true_and] at hstep
          simp -dsimp -implicitDefEqProofs [hc, hcm, hy, hyp, hwc]
          exact .mk (c + 1) (by omega) (by omega) (Sub.keep (by simp) (by simp [hsub]) (by simp [hstep, hwc]))
      · have hc : c = m := by omega
        subst hc
        have htk : L.take c = L := List.take_of_length_le (by omega)
        rw [htk]
        cases hv : heavyL ps L with
        | false =>
          rw [hv, Bool.false_and] at h5
          simp only at h5
          simp -dsimp -implicitDefEqProofs [hmap, hod1]
          exact .mk (i + 1, (odo k c L).1) ⟨by simp only; omega, hlen2, hod.2, by rw [hmo]; exact h5⟩ (by simp only; omega) (Sub.keep (by simp) (by simp [hsub]) (by simp))
        | true =>
          cases hv2 : fitL false he e l L c with
          | false =>
            rw [hv, hv2, Bool.and_false] at h5
            rw [hv2] at hfit
            simp only at h5
            simp -dsimp -implicitDefEqProofs [hfit, hmap, hod1]
            exact .mk (i + 1, (odo k c L).1) ⟨by simp only; omega, hlen2, hod.2, by rw [hmo]; exact h5⟩ (by simp only; omega) (Sub.keep (by simp) (by simp [hsub]) (by simp))
          | true =>
            rw [hv, hv2, Bool.and_true] at h5
            rw [hv2] at hfit
            simp only at h5
            cases h5
    · have : i = AL.length := by omega
      subst this
      rw [drop_end hi] at h5
      simp -dsimp -implicitDefEqProofs [hi, hsub]
  | some L0 =>
    refine H_code (Quiet.e1 v_spec_l07Fits.toE (Quiet.e1 v_spec_l07Map.toE Quiet.nil)) hmix k_spec_l07First rfl (fun b => if b = 1 then 2 else b) (by simp [AHeap.n, fmO]) (fun b hb => by simp [AHeap.n] at hb; subst hb; rfl) (by rfl) (by rfl) ?_
    show wpc 1 PP _ c_spec_l07First (initSt [.ptr 0 0, .agg [.int .i64 m, .int .u32 he]] ⟨[some [.int .i64 k, .int .u32 e, .int .u32 l, .sl (frsA ps) false]]⟩) (endH (fun b => if b = 1 then 2 else b) r_spec_l07First (.tup [.ref 1 1 0 m .tight, .bool true]) [some [.int .i64 k, .int .u32 e, .int .u32 l, .sl (frsA ps) false], some (flatA (insA L0))])
    simp -dsimp -implicitDefEqProofs [c_spec_l07First, r_spec_l07First, hm9, news_in1]
    refine wpLoop_st (fun (q : Nat × List Int) => ⟨tl [(0, .ptr 0 0), (3, .ptr 1 0), (6, .ref 2 1 0 m .tight), (7, .bool (decide (q.1 < AL.length)))], ⟨[some [.int .i64 k, .int .u32 e, .int .u32 l, .sl (frsA ps) false], some [.int .i64 m, .int .u32 he], some (flatA (insA q.2))]⟩⟩)
      (fun q => q.1 ≤ AL.length ∧ q.2.length = m ∧ (q.1 < AL.length → AL[q.1]? = some q.2) ∧ (AL.drop q.1).find? (fun L => heavyL ps L && fitL false he e l L m) = AL.find? (fun L => heavyL ps L && fitL false he e l L m))
      (fun q => AL.length - q.1) (0, List.replicate m 0) ⟨by omega, by simp, fun _ => hfi, by simp⟩ (Sub.keep (by simp) (by simp [hsub]) (by simp [hAL])) ?_
    rintro ⟨i, L⟩ ⟨h1, h2, h3, h5⟩
    simp only at h1 h2 h3 h5
    rw [hmo] at h5
    by_cases hi : i < AL.length
    · have hL := h3 hi
      obtain ⟨_, hr⟩ := hmem i L hL
      have hpart : allPart L := fun x hx => by have := hr x hx; omega
      have hfit := sp_fitsP_eq k e l ps m he L false .tight ⟨hel, ⟨hm, hhe⟩, hpart, h2⟩
      have hmap := sp_l07Map_eq k L .tight ⟨by omega, by omega, fun x hx => by have := hr x hx; omega⟩
      rw [h2] at hmap
      have hnx := chainB_get hch i L hL
      have hod : (odo k m L).2 = decide (i + 1 < AL.length) ∧ (i + 1 < AL.length → AL[i + 1]? = some (odo k m L).1) := by
        unfold odoN at hnx
        rw [h2] at hnx
        cases ho : (odo k m L).2 with
        | true =>
          rw [ho, if_pos rfl] at hnx
          have := (List.getElem?_eq_some_iff.1 hnx.symm).1
          exact ⟨by simp [this], fun _ => hnx.symm⟩
        | false =>
          rw [ho] at hnx
          simp only [Bool.false_eq_true, if_false] at hnx
          have : ¬ i + 1 < AL.length := fun hlt => by rw [List.getElem?_eq_getElem hlt] at hnx; cases hnx
          exact ⟨by simp [this], fun h => absurd h this⟩
      have hod1 := hod.1
      have hlen2 : (odo k m L).1.length = m := by rw [odo_len]; exact h2
      have hL0 : AL[i] = L := by rw [List.getElem?_eq_getElem hi] at hL; exact Option.some.inj hL
      rw [drop_cons hi, hL0, List.find?_cons] at h5
      simp -dsimp -implicitDefEqProofs [hi]
      refine wpLoop_st (fun (c : Nat) => ⟨tl [(0, .ptr 0 0), (3, .ptr 1 0), (6, .ref 2 1 0 m .tight), (8, .bool (heavyL ps (L.take c))), (9, .int .i64 c)], ⟨[some [.int .i64 k, .int .u32 e, .int .u32 l, .sl (frsA ps) false], some [.int .i64 m, .int .u32 he], some (flatA (insA L))]⟩⟩)
        (fun c => c ≤ m) (fun c => m - c) 0 (by omega) (Sub.keep (by simp) (by simp [hsub]) (by simp [heavyL])) ?_
      intro c c1
      simp -dsimp -implicitDefEqProofs
      refine brW_of (fun h => ?_) (fun h => ?_) <;> simp only [decide_eq_true_eq, decide_eq_false_iff_not] at h
      · have hc : c < L.length := by omega
        have hcm : c < m := by omega
        have hwc := wrapNat (i := c) (by omega)
        have hx := hr _ (List.getElem_mem hc)
        obtain ⟨y, hy⟩ := Int.eq_ofNat_of_zero_le hx.1
        have hyp : y < ps.length := by omega
        have hw : wAt ps L[c] = ps[y] := by simp [wAt, hy, hyp]
        have hstep : heavyL ps (L.take (c + 1)) = (heavyL ps (L.take c) && decide (0 < ps[y].p)) := by
          unfold heavyL
          rw [take_snoc L c hc, List.all_append]
          simp [hw]
        cases hv : heavyL ps (L.take c) with
        | false =>
          rw [hv, Bool.false_and] at hstep
          simp -dsimp -implicitDefEqProofs [hc, hcm, hy, hyp, hwc]
          exact .mk (c + 1) (by omega) (by omega) (Sub.keep (by simp) (by simp [hsub]) (by simp [hstep, hwc]))
        | true =>
          rw [hv, Bool.true_and] at hstep
          simp -dsimp -implicitDefEqProofs [hc, hcm, hy, hyp, hwc]
          exact .mk (c + 1) (by omega) (by omega) (Sub.keep (by simp) (by simp [hsub]) (by simp [hstep, hwc]))
      · have hc : c = m := by omega
        subst hc
        have htk : L.take c = L := List.take_of_length_le (by omega)
        rw [htk]
        cases hv : heavyL ps L with
        | false =>
          rw [hv, Bool.false_and] at h5
          simp only at h5
          simp -dsimp -implicitDefEqProofs [hmap, hod1]
          exact .mk (i + 1, (odo k c L).1) ⟨by simp only; omega, hlen2, hod.2, by rw [hmo]; exact h5⟩ (by simp only; omega) (Sub.keep (by simp) (by simp [hsub]) (by simp))
        | true =>
          cases hv2 : fitL false he e l L c with
          | false =>
            rw [hv, hv2, Bool.and_false] at h5
            rw [hv2] at hfit
            simp only at h5
            simp -dsimp -implicitDefEqProofs [hfit, hmap, hod1]
            exact .mk (i + 1, (odo k c L).1) ⟨by simp only; omega, hlen2, hod.2, by rw [hmo]; exact h5⟩ (by simp only; omega) (Sub.keep (by simp) (by simp [hsub]) (by simp))
          | true =>
            rw [hv, hv2, Bool.and_true] at h5
            rw [hv2] at hfit
            simp only at h5
            obtain rfl := Option.some.inj h5
            simp -dsimp -implicitDefEqProofs [hfit, hsub]
    · have : i = AL.length := by omega
      subst this
      rw [drop_end hi] at h5
      cases h5

/-! ### the program's -/
noncomputable def sp_fm1 : List (Option (List AV)) → List AV → Option (AV × List (Option (List AV))) := pv (pf (ι := (Nat) × (Int) × (Int) × (Int) × (Bool)) (α := AV × List (Option (List AV))) (fun ⟨m, he, i, j, b⟩ => (0 ≤ he ∧ he ≤ 4294967295) ∧ vx i j) (fun i => .agg (((fun ⟨m, he, i, j, b⟩ => [some [.int .i64 m, .int .u32 he]] : (Nat) × (Int) × (Int) × (Int) × (Bool) → List (Option (List AV))) i).map enO) :: (fun ⟨m, he, i, j, b⟩ => [.int .i64 i, .int .i64 j, .bool b, .ptr 0 0] : (Nat) × (Int) × (Int) × (Int) × (Bool) → List AV) i) (fun ⟨m, he, i, j, b⟩ => (.bool (b || !hasB he i j), [some [.int .i64 m, .int .u32 he]])))
theorem sp_fm1_eq (m : Nat) (he : Int) (i j : Int) (b : Bool) (h : (0 ≤ he ∧ he ≤ 4294967295) ∧ vx i j) : sp_fm1 [some [.int .i64 m, .int .u32 he]] [.int .i64 i, .int .i64 j, .bool b, .ptr 0 0] = some (.bool (b || !hasB he i j), [some [.int .i64 m, .int .u32 he]]) := by
  unfold sp_fm1 pv
  exact pf_eq (ι := (Nat) × (Int) × (Int) × (Int) × (Bool)) (α := AV × List (Option (List AV))) (m, he, i, j, b) h (by rintro ⟨m', he', i', j', b'⟩ _ e; simp_all [enO, Int.natCast_inj])
theorem v_impl_Pattern_firstMap_1 : QV PP 152 sp_fm1 := by
  refine QV_pf fun i h => ?_
  obtain ⟨m, he, i, j, b⟩ := i
  replace h : (0 ≤ he ∧ he ≤ 4294967295) ∧ vx i j := h
  refine H_code (Quiet.q1 q_impl_Graph_has Quiet.nil) hmix k_impl_Pattern_firstMap_1 rfl (fun b => b) (by simp [AHeap.n]) (fun _ _ => rfl) (by rfl) (by first | rfl | simp) ?_
  show wpc _ PP _ c_impl_Pattern_firstMap_1 (initSt [.int .i64 i, .int .i64 j, .bool b, .ptr 0 0] ⟨[some [.int .i64 m, .int .u32 he]]⟩) (endH (fun b => b) r_impl_Pattern_firstMap_1 (.bool (b || !hasB he i j)) [some [.int .i64 m, .int .u32 he]])
  cases b <;> simp -dsimp -implicitDefEqProofs [c_impl_Pattern_firstMap_1, r_impl_Pattern_firstMap_1, sp_has_eq m he i j h, hsub]
noncomputable def sp_fm21 : List (Option (List AV)) → List AV → Option (AV × List (Option (List AV))) := pv (pf (ι := (Int) × (Int) × (Int) × (List Fr) × (Int)) (α := AV × List (Option (List AV))) (fun ⟨n, e, l, ps, i⟩ => 0 ≤ i ∧ i < ps.length) (fun i => .agg (((fun ⟨n, e, l, ps, i⟩ => [some [.ptr 1 0], some [.int .i64 n, .int .u32 e, .int .u32 l, .sl (frsA ps) false]] : (Int) × (Int) × (Int) × (List Fr) × (Int) → List (Option (List AV))) i).map enO) :: (fun ⟨n, e, l, ps, i⟩ => [.int .i64 i, .ptr 0 0] : (Int) × (Int) × (Int) × (List Fr) × (Int) → List AV) i) (fun ⟨n, e, l, ps, i⟩ => (.bool ((wAt ps i).p == 0), [some [.ptr 1 0], some [.int .i64 n, .int .u32 e, .int .u32 l, .sl (frsA ps) false]])))
theorem sp_fm21_eq (n e l : Int) (ps : List Fr) (i : Int) (h : 0 ≤ i ∧ i < ps.length) : sp_fm21 [some [.ptr 1 0], some [.int .i64 n, .int .u32 e, .int .u32 l, .sl (frsA ps) false]] [.int .i64 i, .ptr 0 0] = some (.bool ((wAt ps i).p == 0), [some [.ptr 1 0], some [.int .i64 n, .int .u32 e, .int .u32 l, .sl (frsA ps) false]]) := by
  unfold sp_fm21 pv
  exact pf_eq (ι := (Int) × (Int) × (Int) × (List Fr) × (Int)) (α := AV × List (Option (List AV))) (n, e, l, ps, i) h (by rintro ⟨n', e', l', ps', i'⟩ _ e; simp_all [enO, Int.natCast_inj])
theorem v_impl_Pattern_firstMap_2_1 : QV PP 154 sp_fm21 := by
  refine QV_pf fun i h => ?_
  obtain ⟨n, e, l, ps, i⟩ := i
  replace h : 0 ≤ i ∧ i < ps.length := h
  refine H_code Quiet.nil hmix k_impl_Pattern_firstMap_2_1 rfl (fun b => b) (by simp [AHeap.n]) (fun _ _ => rfl) (by rfl) (by first | rfl | simp) ?_
  show wpc _ PP _ c_impl_Pattern_firstMap_2_1 (initSt [.int .i64 i, .ptr 0 0] ⟨[some [.ptr 1 0], some [.int .i64 n, .int .u32 e, .int .u32 l, .sl (frsA ps) false]]⟩) (endH (fun b => b) r_impl_Pattern_firstMap_2_1 (.bool ((wAt ps i).p == 0)) [some [.ptr 1 0], some [.int .i64 n, .int .u32 e, .int .u32 l, .sl (frsA ps) false]])
  obtain ⟨y, rfl⟩ := Int.eq_ofNat_of_zero_le h.1
  have hyp : y < ps.length := by omega
  have hw : wAt ps y = ps[y] := by simp [wAt, hyp]
  simp -dsimp -implicitDefEqProofs [c_impl_Pattern_firstMap_2_1, r_impl_Pattern_firstMap_2_1, hyp, hw, hsub]
theorem e_anyI_fm : QE PP 76 (spAnyI 154 (spV sp_fm21)) := QE_anyI v_impl_Pattern_firstMap_2_1.toE
def lightL (ps : List Fr) (L : List Int) : Bool := L.any fun i => (wAt ps i).p == 0
noncomputable def sp_fm2 : List (Option (List AV)) → List AV → Option (AV × List (Option (List AV))) := pv (pf (ι := (Int) × (Int) × (Int) × (List Fr) × (List Int) × (List Int)) (α := AV × List (Option (List AV))) (fun ⟨n, e, l, ps, o, L⟩ => (∀ x ∈ L, 0 ≤ x ∧ x < ps.length) ∧ L.length ≤ 5) (fun i => .agg (((fun ⟨n, e, l, ps, o, L⟩ => [some [.sl (insA o) false], some [.ptr 2 0], some [.int .i64 n, .int .u32 e, .int .u32 l, .sl (frsA ps) false]] : (Int) × (Int) × (Int) × (List Fr) × (List Int) × (List Int) → List (Option (List AV))) i).map enO) :: (fun ⟨n, e, l, ps, o, L⟩ => [.sl (insA L) false, .ptr 0 0, .ptr 1 0] : (Int) × (Int) × (Int) × (List Fr) × (List Int) × (List Int) → List AV) i) (fun ⟨n, e, l, ps, o, L⟩ => (.bool (!lightL ps L), [some [.sl (insA L) false], some [.ptr 2 0], some [.int .i64 n, .int .u32 e, .int .u32 l, .sl (frsA ps) false]])))
theorem sp_fm2_eq (n e l : Int) (ps : List Fr) (o L : List Int) (h : (∀ x ∈ L, 0 ≤ x ∧ x < ps.length) ∧ L.length ≤ 5) : sp_fm2 [some [.sl (insA o) false], some [.ptr 2 0], some [.int .i64 n, .int .u32 e, .int .u32 l, .sl (frsA ps) false]] [.sl (insA L) false, .ptr 0 0, .ptr 1 0] = some (.bool (!lightL ps L), [some [.sl (insA L) false], some [.ptr 2 0], some [.int .i64 n, .int .u32 e, .int .u32 l, .sl (frsA ps) false]]) := by
  unfold sp_fm2 pv
  exact pf_eq (ι := (Int) × (Int) × (Int) × (List Fr) × (List Int) × (List Int)) (α := AV × List (Option (List AV))) (n, e, l, ps, o, L) h (by rintro ⟨n', e', l', ps', o', L'⟩ _ e; simp_all [enO, Int.natCast_inj])
theorem v_impl_Pattern_firstMap_2 : QV PP 153 sp_fm2 := by
  refine QV_pf fun i h => ?_
  obtain ⟨n, e, l, ps, o, L⟩ := i
  replace h : (∀ x ∈ L, 0 ≤ x ∧ x < ps.length) ∧ L.length ≤ 5 := h
  refine H_code (Quiet.e1 e_anyI_fm Quiet.nil) hmix k_impl_Pattern_firstMap_2 rfl (fun b => b) (by simp [AHeap.n]) (fun _ _ => rfl) (by rfl) (by first | rfl | simp) ?_
  show wpc _ PP _ c_impl_Pattern_firstMap_2 (initSt [.sl (insA L) false, .ptr 0 0, .ptr 1 0] ⟨[some [.sl (insA o) false], some [.ptr 2 0], some [.int .i64 n, .int .u32 e, .int .u32 l, .sl (frsA ps) false]]⟩) (endH (fun b => b) r_impl_Pattern_firstMap_2 (.bool (!lightL ps L)) [some [.sl (insA L) false], some [.ptr 2 0], some [.int .i64 n, .int .u32 e, .int .u32 l, .sl (frsA ps) false]])
  obtain ⟨hL, h5⟩ := h
  have hany := spAnyI_eq (g := 154) (sp := spV sp_fm21) (fun i => (wAt ps i).p == 0) (l := L) (caps := [.ptr 1 0]) (A := ⟨[some [.sl (insA L) false], some [.ptr 2 0], some [.int .i64 n, .int .u32 e, .int .u32 l, .sl (frsA ps) false]]⟩) (by simp [maxLen]; omega) rfl (fun x hx => by
    have := sp_fm21_eq n e l ps x (hL x hx)
    simp [this])
  have hany2 : (L.any fun i => (wAt ps i).p == 0) = lightL ps L := rfl
  rw [hany2] at hany
  simp -dsimp -implicitDefEqProofs [c_impl_Pattern_firstMap_2, r_impl_Pattern_firstMap_2, hany, hsub]
theorem heavy_light {ps : List Fr} (hnn : ∀ x ∈ ps, 0 ≤ x.p) {L : List Int} : (!lightL ps L) = heavyL ps L := by
  have hw : ∀ i, 0 ≤ (wAt ps i).p := by
    intro i
    unfold wAt
    by_cases hi : i.toNat < ps.length
    · rw [List.getD_eq_getElem?_getD, List.getElem?_eq_getElem hi]; exact hnn _ (List.getElem_mem hi)
    · rw [List.getD_eq_getElem?_getD, List.getElem?_eq_none (by omega)]; decide
  unfold lightL heavyL
  rw [List.not_any_eq_all_not]
  congr 1
  funext i
  have := hw i
  rw [Bool.eq_iff_iff]
  simp
  omega
theorem fitS_eq2 (E J : Bool) : fitS false E J = (J || !E) := by cases E <;> cases J <;> rfl
theorem dfs_fit2 (he e l : Int) (k m : Nat) : dfsL (fitM (fun i j b => b || !hasB he i j) e l) k m [] = (allL k m).filter fun L => fitL false he e l L m := by
  rw [dfsL_filter _ _ _ _ rfl]
  unfold allL
  apply List.filter_congr
  intro L hL
  have hl : L.length = m := allL_len hL
  rw [fits_pairs _ _ _ _ _ (Nat.le_refl _), hl, fitL]
  simp only [fitS_eq2]
def fmEn (ps : List Fr) (L : List Int) (s : List Int) : Bool × List Int := (!lightL ps L, L)
theorem goL_fm (ps : List Fr) (hnn : ∀ x ∈ ps, 0 ≤ x.p) (fit : List Int → Bool) : ∀ (AL : List (List Int)) (s : List Int), (goL (fmEn ps) (AL.filter fit) s).1 = (AL.find? fun L => heavyL ps L && fit L).isSome ∧ ∀ L, (AL.find? fun L => heavyL ps L && fit L) = some L → (goL (fmEn ps) (AL.filter fit) s).2 = L
  | [], s => ⟨rfl, fun L h => (by cases h)⟩
  | L :: r, s => by
    rw [List.filter_cons, List.find?_cons]
    cases hf : fit L with
    | false =>
      simp only [Bool.false_eq_true, if_false, Bool.and_false]
      exact goL_fm ps hnn fit r s
    | true =>
      simp only [if_true, Bool.and_true]
      rw [goL]
      have h1 : (fmEn ps L s).1 = heavyL ps L := heavy_light hnn
      rw [h1]
      cases hv : heavyL ps L with
      | false =>
        simp only [Bool.false_eq_true, if_false]
        exact goL_fm ps hnn fit r _
      | true =>
        simp only [if_true, Option.isSome_some, true_and]
        intro L' h
        obtain rfl := Option.some.inj h
        rfl
def fmV (n e l : Int) (ps : List Fr) (m : Nat) (he : Int) : Bool × List Int := goL (fmEn ps) ((allL n.toNat m).filter fun L => fitL false he e l L m) []
noncomputable def sp_firstI : List (Option (List AV)) → List AV → Option (AV × List (Option (List AV))) := pv (pf (ι := (Int) × (Int) × (Int) × (List Fr) × (Nat) × (Int)) (α := AV × List (Option (List AV))) (fun ⟨n, e, l, ps, m, he⟩ => fmC n e l ps m he) (fun i => .agg (((fun ⟨n, e, l, ps, m, he⟩ => [some [.int .i64 n, .int .u32 e, .int .u32 l, .sl (frsA ps) false]] : (Int) × (Int) × (Int) × (List Fr) × (Nat) × (Int) → List (Option (List AV))) i).map enO) :: (fun ⟨n, e, l, ps, m, he⟩ => [.ptr 0 0, .agg [.int .i64 m, .int .u32 he]] : (Int) × (Int) × (Int) × (List Fr) × (Nat) × (Int) → List AV) i) (fun ⟨n, e, l, ps, m, he⟩ => (.tup [.sl (insA (fmV n e l ps m he).2) false, .bool (fmV n e l ps m he).1], [some [.int .i64 n, .int .u32 e, .int .u32 l, .sl (frsA ps) false]])))
theorem sp_firstI_eq (n e l : Int) (ps : List Fr) (m : Nat) (he : Int) (h : fmC n e l ps m he) : sp_firstI [some [.int .i64 n, .int .u32 e, .int .u32 l, .sl (frsA ps) false]] [.ptr 0 0, .agg [.int .i64 m, .int .u32 he]] = some (.tup [.sl (insA (fmV n e l ps m he).2) false, .bool (fmV n e l ps m he).1], [some [.int .i64 n, .int .u32 e, .int .u32 l, .sl (frsA ps) false]]) := by
  unfold sp_firstI pv
  exact pf_eq (ι := (Int) × (Int) × (Int) × (List Fr) × (Nat) × (Int)) (α := AV × List (Option (List AV))) (n, e, l, ps, m, he) h (by rintro ⟨n', e', l', ps', m', he'⟩ _ e; simp_all [enO, Int.natCast_inj])
theorem v_impl_Pattern_firstMap : QV PP 95 sp_firstI := by
  refine QV_pf fun i h => ?_
  obtain ⟨n, e, l, ps, m, he⟩ := i
  replace h : fmC n e l ps m he := h
  refine H_code Quiet.nil hmix k_impl_Pattern_firstMap rfl (fun b => b) (by simp [AHeap.n]) (fun _ _ => rfl) (by rfl) (by first | rfl | simp) ?_
  show wpc _ PP _ c_impl_Pattern_firstMap (initSt [.ptr 0 0, .agg [.int .i64 m, .int .u32 he]] ⟨[some [.int .i64 n, .int .u32 e, .int .u32 l, .sl (frsA ps) false]]⟩) (endH (fun b => b) r_impl_Pattern_firstMap (.tup [.sl (insA (fmV n e l ps m he).2) false, .bool (fmV n e l ps m he).1]) [some [.int .i64 n, .int .u32 e, .int .u32 l, .sl (frsA ps) false]])
  obtain ⟨hel, ⟨hm, hhe⟩, hn, hps⟩ := h
  let H : List Int → List (Option (List AV)) := fun s => [some [.int .i64 n, .int .u32 e, .int .u32 l, .sl (frsA ps) false], some [.ptr 0 0], some [.int .i64 m, .int .u32 he], some [], some [.sl (insA s) false]]
  have hmaps := T_maps (ι := List Int) (H := H) (N := 5) (pb := 0) (n := n) (e := e) (l := l) (ps := ps) (g1 := 152) (g2 := 153) (caps1 := [.ptr 2 0]) (caps2 := [.ptr 4 0, .ptr 1 0]) (fitB := fun i j b => b || !hasB he i j) (en := fmEn ps) (fun s => rfl) (by omega)
    (fun s b hb => by
      have h7 : b = 0 ∨ b = 1 ∨ b = 2 ∨ b = 3 ∨ b = 4 := by omega
      rcases h7 with rfl | rfl | rfl | rfl | rfl <;> rfl)
    (fun s b cs hb => by
      have hb7 := hget_lt hb
      have h7 : b = 0 ∨ b = 1 ∨ b = 2 ∨ b = 3 ∨ b = 4 := by
        have : (H s).length = 5 := rfl
        omega
      rcases h7 with rfl | rfl | rfl | rfl | rfl <;> simp [H, hget] at hb <;> subst hb <;> simp [H])
    (fun s => rfl) (by simp) (by simp) hm hn hel
    (fun s i j b hij hj => by
      refine v_impl_Pattern_firstMap_1.toE _ _ _ _ ?_
      have := sp_fm1_eq m he i j b ⟨hhe, by unfold vx; omega⟩
      simp [H, this])
    (fun s k hk hr => by
      refine v_impl_Pattern_firstMap_2.toE _ _ _ _ ?_
      have := sp_fm2_eq n e l ps s k ⟨fun x hx => by have := hr x hx; omega, by omega⟩
      simp [H, this, fmEn]) m [] [] (by simp) (by simp)
  rw [dfs_fit2] at hmaps
  have hG : goL (fmEn ps) ((allL n.toNat m).filter fun L => fitL false he e l L m) [] = fmV n e l ps m he := rfl
  rw [hG] at hmaps
  generalize fmV n e l ps m he = G at hmaps ⊢
  simp -dsimp -implicitDefEqProofs [c_impl_Pattern_firstMap, r_impl_Pattern_firstMap]
  refine T.loose (T.looseA (T.mono hmaps ?_))
  rintro r A' ⟨rfl, rfl⟩
  simp only [H]
  simp -dsimp -implicitDefEqProofs [hsub]
end Go.Proofs.YtkgodhdpcomjbaaAi
