/- Contracts: graphs with so many vertices in each part, as the reference makes them. -/
import Derived.Test.YtkgodhdpcomjbaaAdB20
namespace Go.Proofs.YtkgodhdpcomjbaaAi
open Go Go.RowKit
set_option linter.unusedVariables false
set_option linter.unusedSimpArgs false
set_option maxRecDepth 20000

set_option maxHeartbeats 1000000 in
theorem q_spec_BlowUp : QP PP 25 sp_blowP := by
  refine QP_pf (fun i h => ?_) fun i h => ?_
  · obtain ⟨n, e, l, ps, zs⟩ := i; exact ⟨by first | rfl | simp, by first | rfl | simp⟩
  obtain ⟨n, e, l, ps, zs⟩ := i
  replace h : ((0 ≤ e ∧ e ≤ 4294967295) ∧ (0 ≤ l ∧ l ≤ 4294967295)) ∧ ps.length ≤ maxLen ∧ zs.length ≤ 1048576 := h
  refine P_code (Quiet.q1 q_spec_l00In (Quiet.q1 q_spec_l01Bit (Quiet.e1 m_spec_l07Ok.toE (Quiet.e1 v_spec_l07Joined.toE Quiet.nil)))) hmix k_spec_BlowUp rfl ?_ ?_
  · first | rfl | simp
  show wpc 0 PP _ c_spec_BlowUp (initSt [.agg [.int .i64 n, .int .u32 e, .int .u32 l, .sl (frsA ps) false], .sl (insA zs) false] .nil) (endP r_spec_BlowUp (blowR n e l ps zs))
  obtain ⟨⟨he, hl⟩, hps, hzs⟩ := h
  have hv := sp_l07Ok_eq n e l ps ⟨he, hl, hps⟩
  unfold blowR
  cases hp : patOk n e l ps with
  | false => simp -dsimp -implicitDefEqProofs [c_spec_BlowUp, r_spec_BlowUp, hv, hp]
  | true =>
    obtain ⟨_, hn4, _, hlen, _⟩ := patOk_spec hp
    by_cases hz : zs.length = ps.length
    · have hz' : ((zs.length : Int) != n) = false := by simp [hz]; omega
      simp -dsimp -implicitDefEqProofs [c_spec_BlowUp, r_spec_BlowUp, hv, hp, hz']
      refine wpLoop_st (fun (i : Nat) => ⟨tl [(1, .sl (insA zs) false), (2, .ptr 0 0), (4, .ptr 1 0), (6, cellL 2 (partsN 0 (zs.take i))), (7, .int .i64 i)], ⟨[some [.int .i64 n, .int .u32 e, .int .u32 l, .sl (frsA ps) false], some [.int .i64 0, .int .u32 0]] ++ objL (partsN 0 (zs.take i))⟩⟩) (fun i => i ≤ zs.length ∧ sizesOk (zs.take i) = true) (fun i => zs.length - i) 0 ⟨by omega, rfl⟩ (Sub.keep (by simp) (by simp [hsub, partsN, objL_nil]) (by simp [objL_nil, partsN, cellL_nil])) ?_
      rintro i ⟨hi, hall⟩
      simp -dsimp -implicitDefEqProofs
      refine brW_of (fun h => ?_) (fun h => ?_) <;> simp only [decide_eq_true_eq, decide_eq_false_iff_not] at h
      · have hi' : i < zs.length := by omega
        have hw := wrapNat (i := i) (by omega)
        have hpl := partsN_len (zs.take i) 0 (fun x hx => List.all_eq_true.1 hall x hx)
        rw [List.length_take] at hpl
        cases hsz : sizeI zs[i] with
        | false =>
          have hall2 : sizesOk zs = false := by
            unfold sizesOk; rw [List.all_eq_false]
            exact ⟨zs[i], List.getElem_mem hi', by simp [hsz]⟩
          have hsz' : (decide (0 ≤ zs[i]) && decide (zs[i] ≤ 5)) = false := hsz
          simp -dsimp -implicitDefEqProofs [hi', hsz', hall2]
        | true =>
          have hsz' : (decide (0 ≤ zs[i]) && decide (zs[i] ≤ 5)) = true := hsz
          have hall2 : sizesOk (zs.take (i + 1)) = true := by unfold sizesOk at *; rw [take_snoc zs i hi', List.all_append, hall]; simp [hsz]
          have hstep : partsN 0 (zs.take (i + 1)) = partsN 0 (zs.take i) ++ List.replicate zs[i].toNat (i : Int) := by
            rw [take_snoc zs i hi', partsN_snoc]
            simp; omega
          generalize partsN 0 (zs.take i) = L at hstep hpl ⊢
          have hr : 0 ≤ zs[i] ∧ zs[i] ≤ 5 := by simpa using hsz'
          simp -dsimp -implicitDefEqProofs [hi', hsz']
          refine wpLoop_st (fun (k : Nat) => ⟨tl [(1, .sl (insA zs) false), (2, .ptr 0 0), (4, .ptr 1 0), (6, cellL 2 (L ++ List.replicate k (i : Int))), (7, .int .i64 i), (8, .int .i64 k)], ⟨[some [.int .i64 n, .int .u32 e, .int .u32 l, .sl (frsA ps) false], some [.int .i64 0, .int .u32 0]] ++ objL (L ++ List.replicate k (i : Int))⟩⟩) (fun k => (k : Int) ≤ zs[i]) (fun k => zs[i].toNat - k) 0 (by omega) (by
            by_cases hL : L = []
            · subst hL; exact Sub.keep (by simp) (by simp [hsub, objL_nil]) (by simp [objL_nil, cellL_nil])
            · simp only [List.replicate_zero, List.append_nil, cellL_cons hL, objL_cons hL]; exact Sub.keep (by simp) (by simp [hsub]) (by simp)) ?_
          intro k hk
          simp -dsimp -implicitDefEqProofs [hi']
          refine brW_of (fun h => ?_) (fun h => ?_) <;> simp only [decide_eq_true_eq, decide_eq_false_iff_not] at h
          · have hwk := wrapNat (i := k) (by omega)
            have hrs : L ++ List.replicate (k + 1) (i : Int) = (L ++ List.replicate k (i : Int)) ++ [(i : Int)] := by rw [List.replicate_succ', List.append_assoc]
            have hlen : (L ++ List.replicate k (i : Int)).length ≤ 100 := by simp; omega
            generalize L ++ List.replicate k (i : Int) = M at hrs hlen ⊢
            have hne : M ++ [(i : Int)] ≠ [] := by simp
            by_cases hM : M = []
            · subst hM
              have hm : (0 + 1) * 9 ≤ mostBytes := by decide
              have hm : 1 * 9 ≤ mostBytes := by decide
              simp only [cellL_nil, objL_nil]
              simp -dsimp -implicitDefEqProofs [hi', hm, hwk]
              refine .mk (k + 1) (by omega) (by omega) ?_
              simp only [hrs, cellL_cons hne, objL_cons hne]
              exact Sub.mk' (fun b => if b = 2 then 3 else b) (by simp) (by intro b hb; omega) (by rfl) (by simp [hsub, flat_in]) (by simp [hwk])
            · have hm : (M.length + 1) * 9 ≤ mostBytes := by simp only [mostBytes]; omega
              have hfit : ¬ (M.length + 1 ≤ M.length) := by omega
              have htl : (flatA (insA M)).take M.length = flatA (insA M) := List.take_of_length_le (by simp)
              have hcat : flatA (insA M) ++ [.int .i64 (i : Int)] = flatA (insA (M ++ [(i : Int)])) := by rw [flatA_append, flatA_one]; rfl
              simp only [cellL_cons hM, objL_cons hM]
              simp -dsimp -implicitDefEqProofs [hi', hm, hfit, htl, hcat, hwk]
              refine .mk (k + 1) (by omega) (by omega) ?_
              simp only [hrs, cellL_cons hne, objL_cons hne]
              exact Sub.mk' (fun b => if b = 2 then 4 else b) (by simp) (by intro b hb; omega) (by rfl) (by simp [hsub]) (by simp [hwk])
          · have hk : k = zs[i].toNat := by omega
            subst hk
            rw [← hstep]
            generalize hM : partsN 0 (zs.take (i + 1)) = M at *
            by_cases hM0 : M = []
            · subst hM0
              simp only [cellL_nil, objL_nil]
              simp -dsimp -implicitDefEqProofs [hw]
              refine .mk (i + 1) ⟨by omega, hall2⟩ (by omega) ?_
              simp only [hM, cellL_nil, objL_nil]
              exact Sub.keep (by simp) (by simp [hsub]) (by simp [hw])
            · simp only [cellL_cons hM0, objL_cons hM0]
              simp -dsimp -implicitDefEqProofs [hw]
              refine .mk (i + 1) ⟨by omega, hall2⟩ (by omega) ?_
              simp only [hM, cellL_cons hM0, objL_cons hM0]
              exact Sub.keep (by simp) (by simp [hsub]) (by simp [hw])
      · have hi' : i = zs.length := by omega
        subst hi'
        rw [List.take_length] at hall ⊢
        have hpart := partsN_part zs 0 (by omega)
        generalize partsN 0 zs = L at hpart ⊢
        by_cases h5 : L.length ≤ 5
        · have h5' : ¬ 5 < (L.length : Int) := by omega
          by_cases hL0 : L = []
          · subst hL0
            simp only [cellL_nil, objL_nil]
            simp -dsimp -implicitDefEqProofs [hall, hz]
            refine wpLoop_st (fun (k : Unit) => ⟨tl [(2, .ptr 0 0), (4, .ptr 1 0), (9, .ptr 2 0), (10, .int .i64 1)], ⟨[some [.int .i64 n, .int .u32 e, .int .u32 l, .sl (frsA ps) false], some [.int .i64 0, .int .u32 0], some [.int .i64 0, .int .u32 0]]⟩⟩) (fun _ => True) (fun k => 0) () trivial (Sub.keep (by simp) (by simp [hsub]) (by simp)) ?_
            rintro _ _
            simp -dsimp -implicitDefEqProofs [blowE, madeE, hall, hz]
          · simp only [cellL_cons hL0, objL_cons hL0]
            simp -dsimp -implicitDefEqProofs [hall, hz, h5, h5']
            have hLpos : 1 ≤ L.length := by cases L with
              | nil => exact absurd rfl hL0
              | cons => simp
            refine wpLoop_st (fun (j : Nat) => ⟨tl [(2, .ptr 0 0), (4, .ptr 1 0), (6, .ref 2 1 0 L.length .full), (9, .ptr 3 0), (10, .int .i64 j)], ⟨[some [.int .i64 n, .int .u32 e, .int .u32 l, .sl (frsA ps) false], some [.int .i64 0, .int .u32 0], some (flatA (insA L)), some [.int .i64 L.length, .int .u32 (madeE (fun i j => joinB e l (atI L i) (atI L j)) j)]]⟩⟩) (fun j => 1 ≤ j ∧ j ≤ L.length) (fun j => L.length - j) 1 ⟨by omega, hLpos⟩ (Sub.keep (by simp) (by simp [hsub, madeE, rowE]) (by simp)) ?_
            rintro j ⟨j1, hj⟩
            simp -dsimp -implicitDefEqProofs
            refine brW_of (fun h => ?_) (fun h => ?_) <;> simp only [decide_eq_true_eq, decide_eq_false_iff_not] at h
            · have hj' : j < L.length := by omega
              have hwj := wrapNat (i := j) (by omega)
              simp -dsimp -implicitDefEqProofs
              refine wpLoop_st (fun (i : Nat) => ⟨tl [(2, .ptr 0 0), (4, .ptr 1 0), (6, .ref 2 1 0 L.length .full), (9, .ptr 3 0), (10, .int .i64 j), (11, .int .i64 i)], ⟨[some [.int .i64 n, .int .u32 e, .int .u32 l, .sl (frsA ps) false], some [.int .i64 0, .int .u32 0], some (flatA (insA L)), some [.int .i64 L.length, .int .u32 (rowE (fun i j => joinB e l (atI L i) (atI L j)) j (madeE (fun i j => joinB e l (atI L i) (atI L j)) j) i)]]⟩⟩) (fun i => i ≤ j) (fun i => j - i) 0 (by omega) (Sub.keep (by simp) (by simp [hsub, rowE]) (by simp)) ?_
              intro i hi
              simp -dsimp -implicitDefEqProofs
              refine brW_of (fun h => ?_) (fun h => ?_) <;> simp only [decide_eq_true_eq, decide_eq_false_iff_not] at h
              · have hi' : i < L.length := by omega
                have hwi := wrapNat (i := i) (by omega)
                have hJ := sp_joinP_eq n e l ps (atI L i) (atI L j) ⟨⟨he, hl⟩, hpart.at hi', hpart.at hj'⟩
                have hb := sp_bit_eq i j (by omega)
                have hor := orBit (rowE_lt (J := fun i j => joinB e l (atI L i) (atI L j)) (j := j) (i := i) (madeE_lt (J := fun i j => joinB e l (atI L i) (atI L j)) (n := j) (by omega)) (by omega) hi) (bitI_lt (i := i) (j := j) h (by omega))
                cases hv : joinB e l (atI L i) (atI L j) with
                | false =>
                  rw [hv] at hJ
                  simp -dsimp -implicitDefEqProofs [hi', hj', atI_get hi', atI_get hj', hJ, hwi]
                  exact .mk (i + 1) (by omega) (by omega) (Sub.keep (by simp) (by simp [hsub, rowE, hv]) (by simp [hwi]))
                | true =>
                  rw [hv] at hJ
                  simp -dsimp -implicitDefEqProofs [hi', hj', atI_get hi', atI_get hj', hJ, hwi, hb]
                  exact .mk (i + 1) (by omega) (by omega) (Sub.keep (by simp) (by simp [hsub, rowE, hv, hor]) (by simp [hwi]))
              · have : i = j := by omega
                subst this
                simp -dsimp -implicitDefEqProofs [hwj]
                exact .mk (i + 1) (by omega) (by omega) (Sub.keep (by simp) (by simp [hsub, madeE]) (by simp [hwj]))
            · have : j = L.length := by omega
              subst this
              simp -dsimp -implicitDefEqProofs [blowE, hz, hall, h5]
        · have h5' : 5 < (L.length : Int) := by omega
          have hL0 : L ≠ [] := by intro h0; rw [h0] at h5; simp at h5
          rw [cellL_cons hL0, objL_cons hL0]
          simp -dsimp -implicitDefEqProofs [h5', h5]
    · have hz' : ((zs.length : Int) != n) = true := by simp; omega
      simp -dsimp -implicitDefEqProofs [c_spec_BlowUp, r_spec_BlowUp, hv, hp, hz', hz]
end Go.Proofs.YtkgodhdpcomjbaaAi
