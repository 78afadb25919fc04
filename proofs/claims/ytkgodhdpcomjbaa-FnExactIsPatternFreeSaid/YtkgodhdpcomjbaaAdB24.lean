/- Contracts: the reference's lists of parts, one behind another; maps that fit. -/
import Derived.Test.YtkgodhdpcomjbaaAdB23
namespace Go.Proofs.YtkgodhdpcomjbaaAi
open Go Go.RowKit
set_option linter.unusedVariables false
set_option linter.unusedSimpArgs false
set_option maxRecDepth 20000

/-! ### the next list -/
def odo (k : Int) : Nat → List Int → List Int × Bool
  | 0, L => (L, false)
  | i + 1, L => if L.getD i 0 + 1 < k then (L.set i (L.getD i 0 + 1), true) else odo k i (L.set i 0)
theorem odo_len (k : Int) : ∀ (i : Nat) (L : List Int), (odo k i L).1.length = L.length
  | 0, L => rfl
  | i + 1, L => by
    rw [odo]
    split
    · simp
    · rw [odo_len k i]; simp
noncomputable def sp_l07Map : List (Option (List AV)) → List AV → Option (AV × List (Option (List AV))) := pv (pf (ι := (Int) × (List Int) × (Cp)) (α := AV × List (Option (List AV))) (fun ⟨k, L, t⟩ => L.length ≤ 100 ∧ (0 ≤ k ∧ k ≤ 1000) ∧ (∀ x ∈ L, 0 ≤ x ∧ x ≤ 1000)) (fun i => .agg (((fun ⟨k, L, t⟩ => [some (flatA (insA L))] : (Int) × (List Int) × (Cp) → List (Option (List AV))) i).map enO) :: (fun ⟨k, L, t⟩ => [.ref 0 1 0 L.length t, .int .i64 k] : (Int) × (List Int) × (Cp) → List AV) i) (fun ⟨k, L, t⟩ => (.bool (odo k L.length L).2, [some (flatA (insA (odo k L.length L).1))])))
theorem sp_l07Map_eq (k : Int) (L : List Int) (t : Cp) (h : L.length ≤ 100 ∧ (0 ≤ k ∧ k ≤ 1000) ∧ (∀ x ∈ L, 0 ≤ x ∧ x ≤ 1000)) : sp_l07Map [some (flatA (insA L))] [.ref 0 1 0 L.length t, .int .i64 k] = some (.bool (odo k L.length L).2, [some (flatA (insA (odo k L.length L).1))]) := by
  unfold sp_l07Map pv
  exact pf_eq (ι := (Int) × (List Int) × (Cp)) (α := AV × List (Option (List AV))) (k, L, t) h (by rintro ⟨k', L', t'⟩ _ e; simp_all [enO])
theorem v_spec_l07Map : QV PP 114 sp_l07Map := by
  refine QV_pf fun i h => ?_
  obtain ⟨k, L, t⟩ := i
  replace h : L.length ≤ 100 ∧ (0 ≤ k ∧ k ≤ 1000) ∧ (∀ x ∈ L, 0 ≤ x ∧ x ≤ 1000) := h
  refine H_code Quiet.nil hmix k_spec_l07Map rfl (fun b => b) (by simp [AHeap.n]) (fun _ _ => rfl) (by rfl) (by first | rfl | simp) ?_
  show wpc _ PP _ c_spec_l07Map (initSt [.ref 0 1 0 L.length t, .int .i64 k] ⟨[some (flatA (insA L))]⟩) (endH (fun b => b) r_spec_l07Map (.bool (odo k L.length L).2) [some (flatA (insA (odo k L.length L).1))])
  obtain ⟨hl, hk, hL⟩ := h
  have w0 : IntKind.i64.wrap ((L.length : Int) - 1) = (L.length : Int) - 1 := wrapI64 (by omega) (by omega)
  simp -dsimp -implicitDefEqProofs [c_spec_l07Map, r_spec_l07Map, w0]
  refine wpLoop_st (fun (q : Nat × List Int) => ⟨tl [(0, .ref 0 1 0 L.length t), (1, .int .i64 k), (5, .int .i64 ((q.1 : Int) - 1))], ⟨[some (flatA (insA q.2))]⟩⟩) (fun q => q.1 ≤ L.length ∧ q.2.length = L.length ∧ (∀ x ∈ q.2, 0 ≤ x ∧ x ≤ 1000) ∧ odo k q.1 q.2 = odo k L.length L) (fun q => q.1) (L.length, L) ⟨Nat.le_refl _, rfl, hL, rfl⟩ (Sub.keep (by simp) (by simp [hsub]) (by simp)) ?_
  rintro ⟨i, M⟩ ⟨h1, h2, h3, h4⟩
  simp only at h1 h2 h3 h4
  simp -dsimp -implicitDefEqProofs
  refine brW_of (fun h => ?_) (fun h => ?_) <;> simp only [decide_eq_true_eq, decide_eq_false_iff_not] at h
  · obtain ⟨j, rfl⟩ : ∃ j, i = j + 1 := ⟨i - 1, by omega⟩
    have hj : j < M.length := by omega
    have hj' : j < L.length := by omega
    have hj1 : j + 1 ≤ M.length := hj
    have hx := h3 _ (List.getElem_mem hj)
    have hg : M.getD j 0 = M[j] := by simp [hj]
    have w1 : IntKind.i64.wrap (M[j] + 1) = M[j] + 1 := wrapI64 (by omega) (by omega)
    have w2 : IntKind.i64.wrap ((j : Int) - 1) = (j : Int) - 1 := wrapI64 (by omega) (by omega)
    rw [odo, hg] at h4
    have hs1 := set_in M j (M[j] + 1) hj
    have hs2 := set_in M j 0 hj
    by_cases hc : M[j] + 1 < k
    · rw [if_pos hc] at h4
      simp -dsimp -implicitDefEqProofs [hj, hj', hj1, w1, hc, hs1, ← h4, hsub]
    · rw [if_neg hc] at h4
      simp -dsimp -implicitDefEqProofs [hj, hj', hj1, w1, hc, hs2, w2]
      refine .mk (j, M.set j 0) ⟨by simp only; omega, by simp [h2], fun x hx => ?_, h4⟩ (by simp only; omega) (Sub.keep (by simp) (by simp [hsub]) (by simp [w2]))
      rcases List.mem_or_eq_of_mem_set hx with hx | rfl
      · exact h3 x hx
      · omega
  · have hi : i = 0 := by omega
    subst hi
    rw [odo] at h4
    simp -dsimp -implicitDefEqProofs [← h4, hsub]
def odoN (k : Int) (L : List Int) : Option (List Int) := if (odo k L.length L).2 = true then some (odo k L.length L).1 else none
/-- All lists. -/
def allL (k m : Nat) : List (List Int) := dfsL (fun _ _ => true) k m []
theorem allL_chain : ∀ k : Nat, 1 ≤ k → k ≤ 4 → ∀ m, m ≤ 5 → chainB (odoN k) (allL k m) = true := by
  have : ∀ k : Nat, k < 5 → ∀ m : Nat, m < 6 → (k == 0 || chainB (odoN k) (allL k m)) = true := by decide +kernel
  intro k h1 h2 m h3
  have := this k (by omega) m (by omega)
  have hk : (k == 0) = false := by simp; omega
  rw [hk, Bool.false_or] at this
  exact this
theorem allL_first : ∀ k : Nat, 1 ≤ k → k ≤ 4 → ∀ m, m ≤ 5 → (allL k m)[0]? = some (List.replicate m 0) := by
  have : ∀ k : Nat, k < 5 → ∀ m : Nat, m < 6 → (k == 0 || decide ((allL k m)[0]? = some (List.replicate m 0))) = true := by decide +kernel
  intro k h1 h2 m h3
  have := this k (by omega) m (by omega)
  have hk : (k == 0) = false := by simp; omega
  rw [hk, Bool.false_or] at this
  exact of_decide_eq_true this
theorem allL_len {k m : Nat} {L : List Int} (h : L ∈ allL k m) : L.length = m := by
  have := dfsL_len h
  simpa using this
theorem allL_range {k m : Nat} {L : List Int} (h : L ∈ allL k m) : ∀ x ∈ L, 0 ≤ x ∧ x < k := dfsL_range (fun x hx => by cases hx) h

/-! ### maps that fit -/
def rowB (f : Nat → Nat → Bool) (j : Nat) : Nat → Bool
  | 0 => true
  | i + 1 => rowB f j i && f i j
def pairsB (f : Nat → Nat → Bool) : Nat → Bool
  | 0 => true
  | j + 1 => pairsB f j && rowB f j j
theorem fitI_row (fitB : Int → Int → Bool → Bool) (e l : Int) (L : List Int) (j : Nat) (hj : j < L.length) : ∀ i, i ≤ j → fitI fitB e l (L.take j) L[j] i = rowB (fun i j => fitB i j (joinB e l (atI L i) (atI L j))) j i
  | 0, _ => rfl
  | i + 1, h => by
    rw [fitI, rowB, fitI_row fitB e l L j hj i (by omega)]
    have h1 : (L.take j).length = j := by simp; omega
    have h2 : atI (L.take j) i = atI L i := by simp [atI, List.getElem?_take, show i < j by omega]
    rw [h1, h2, atI_get hj]
theorem fits_pairs (fitB : Int → Int → Bool → Bool) (e l : Int) (L : List Int) : ∀ j, j ≤ L.length → fitsB (fitM fitB e l) j L = pairsB (fun i j => fitB i j (joinB e l (atI L i) (atI L j))) j
  | 0, _ => rfl
  | j + 1, h => by
    have hj : j < L.length := by omega
    rw [fitsB, pairsB, fits_pairs fitB e l L j (by omega), List.getElem?_eq_getElem hj]
    simp only [fitM]
    rw [fitI_row fitB e l L j hj _ (by simp; omega)]
    congr 2
    simp; omega
theorem rowB_false {f : Nat → Nat → Bool} {j : Nat} : ∀ {i : Nat} (a : Nat), a < i → f a j = false → rowB f j i = false
  | i + 1, a, h, hf => by
    rw [rowB]
    by_cases ha : a = i
    · subst ha; rw [hf, Bool.and_false]
    · rw [rowB_false a (by omega) hf, Bool.false_and]
theorem pairsB_false {f : Nat → Nat → Bool} : ∀ {m : Nat} (a b : Nat), a < b → b < m → f a b = false → pairsB f m = false
  | m + 1, a, b, h, h', hf => by
    rw [pairsB]
    by_cases hb : b = m
    · subst hb; rw [rowB_false a h hf, Bool.and_false]
    · rw [pairsB_false a b h (by omega) hf, Bool.false_and]
end Go.Proofs.YtkgodhdpcomjbaaAi
