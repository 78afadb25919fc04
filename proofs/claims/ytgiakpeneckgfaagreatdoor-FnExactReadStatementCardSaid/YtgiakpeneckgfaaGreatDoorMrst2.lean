/- Contracts, joined. -/
import Derived.Test.YtgiakpeneckgfaaGreatDoorMrst1
import Derived.Test.YtgiakpeneckgfaaGreatDoorAiX
import Derived.Test.YtgiakpeneckgfaaGreatDoorProg
import Derived.Test.YtgiakpeneckgfaaGreatDoorShelfA
import Derived.Test.YtgiakpeneckgfaaGreatDoorShelfB
section
/- Contracts: the reference's lists of different vertices, one behind another. -/
namespace Go.Proofs.YtgiakpeneckgfaaGreatDoorAi
open Go Go.RowKit
set_option linter.unusedVariables false
set_option linter.unusedSimpArgs false
set_option maxRecDepth 20000

theorem n_spec_l01First : QN PP 95 sp_firstP := by
  refine QN_pf (fun n h => ?_) fun n h => ?_
  · first | rfl | simp
  replace h : n ≤ 1000 := h
  show T PP 95 [.int .i64 n] .nil fun r' A' => r' = ((firstR n : AV × List (Option (List AV)))).1 ∧ A' = ⟨((firstR n : AV × List (Option (List AV)))).2⟩
  rcases Nat.eq_zero_or_pos n with rfl | hn
  · rw [show firstR 0 = (.sl [] true, []) from rfl]
    refine H_code Quiet.nil hmix k_spec_l01First rfl (fun _ => 0) (by simp [AHeap.n, AHeap.nil]) (by intro b hb; simp [AHeap.n, AHeap.nil] at hb <;> subst hb <;> rfl) (by rfl) (by first | rfl | simp) ?_
    simp -dsimp -implicitDefEqProofs [c_spec_l01First, r_spec_l01First]
    refine wpLoop_st (fun (i : Unit) => ⟨tl [(0, .int .i64 0), (3, .sl [] true), (4, .int .i64 0)], ⟨[]⟩⟩) (fun _ => True) (fun _ => 0) () trivial (Sub.keep (by simp) (by simp [hsub]) (by simp)) ?_
    rintro _ _
    simp -dsimp -implicitDefEqProofs [hsub]
  · rw [show firstR n = (.ref 0 1 0 n .full, [some (flatA (insA (upTo n)))]) from if_neg (by omega)]
    refine H_code Quiet.nil hmix k_spec_l01First rfl (fun _ => 0) (by simp [AHeap.n, AHeap.nil]) (by intro b hb; simp [AHeap.n, AHeap.nil] at hb <;> subst hb <;> rfl) (by rfl) (by first | rfl | simp) ?_
    simp -dsimp -implicitDefEqProofs [c_spec_l01First, r_spec_l01First]
    refine wpLoop_st (fun (i : Nat) => ⟨tl [(0, .int .i64 n), (3, cellL 0 (upTo i)), (4, .int .i64 i)], ⟨objL (upTo i)⟩⟩) (fun i => i ≤ n) (fun i => n - i) 0 (by omega) (Sub.keep (by simp) (by simp [hsub, upTo, objL_nil]) (by simp [upTo, objL_nil, cellL_nil])) ?_
    intro i hi
    rcases Nat.eq_zero_or_pos i with rfl | hi0
    · simp only [upTo, cellL_nil, objL_nil]
      have hm : 1 * 9 ≤ mostBytes := by decide
      have hw : IntKind.i64.wrap 1 = 1 := rfl
      simp -dsimp -implicitDefEqProofs [hn, hm, hw]
      refine .mk 1 (by omega) (by omega) ?_
      rw [cellL_cons (upTo_ne (by omega)), objL_cons (upTo_ne (by omega))]
      exact Sub.mk' (fun b => if b = 0 then 1 else b) (by simp) (by intro b hb; omega) (by rfl) (by simp [hsub, upTo, flat_in]) (by simp [hw])
    · rw [cellL_cons (upTo_ne hi0), objL_cons (upTo_ne hi0)]
      simp -dsimp -implicitDefEqProofs
      refine brW_of (fun h => ?_) (fun h => ?_) <;> simp only [decide_eq_true_eq, decide_eq_false_iff_not] at h
      · have hw := wrapNat (i := i) (by omega)
        have hm : (i + 1) * 9 ≤ mostBytes := by simp only [mostBytes]; omega
        have hfit : ¬ (i + 1 ≤ i) := by omega
        have htl : (flatA (insA (upTo i))).take i = flatA (insA (upTo i)) := List.take_of_length_le (by simp)
        have hst := first_step i
        simp -dsimp -implicitDefEqProofs [hw, hm, hfit, htl, hst]
        refine .mk (i + 1) (by omega) (by omega) ?_
        rw [cellL_cons (upTo_ne (by omega)), objL_cons (upTo_ne (by omega))]
        exact Sub.mk' (fun b => if b = 0 then 2 else b) (by simp) (by intro b hb; omega) (by rfl) (by simp [hsub]) (by simp [hw])
      · have : i = n := by omega
        subst this
        simp -dsimp -implicitDefEqProofs [hsub]
theorem inL_take {k : List Int} {v : Int} {i : Nat} (hi : i < k.length) : inL (k.take (i + 1)) v = (inL (k.take i) v || (v == k[i])) := by
  unfold inL
  rw [take_snoc k i hi, List.any_append]
  simp
theorem inL_of {k : List Int} {v : Int} (h : inL k v = true) : v ∈ k := by
  unfold inL at h
  obtain ⟨x, hx, e⟩ := List.any_eq_true.1 h
  have : v = x := by simpa using e
  rw [this]; exact hx
theorem q_spec_l01Among : QP PP 117 sp_containsI := by
  refine QP_pf (fun i h => ?_) fun i h => ?_
  · obtain ⟨k, v⟩ := i; exact ⟨by first | rfl | simp, by first | rfl | simp⟩
  obtain ⟨k, v⟩ := i
  replace h : k.length ≤ 1048576 := h
  refine P_code Quiet.nil hmix k_spec_l01Among rfl ?_ ?_
  · first | rfl | simp
  show wpc 0 PP _ c_spec_l01Among (initSt [.sl (insA k) false, .int .i64 v] .nil) (endP r_spec_l01Among (.bool (inL k v)))
  simp -dsimp -implicitDefEqProofs [c_spec_l01Among, r_spec_l01Among]
  refine wpLoop_st (fun (i : Nat) => ⟨tl [(0, .sl (insA k) false), (1, .int .i64 v), (5, .int .i64 i)], ⟨[]⟩⟩) (fun i => i ≤ k.length ∧ inL (k.take i) v = false) (fun i => k.length - i) 0 ⟨by omega, rfl⟩ (Sub.keep (by simp) (by simp [hsub]) (by simp)) ?_
  rintro i ⟨hi, hx⟩
  simp -dsimp -implicitDefEqProofs
  refine brW_of (fun h => ?_) (fun h => ?_) <;> simp only [decide_eq_true_eq, decide_eq_false_iff_not] at h
  · have hi' : i < k.length := by omega
    have hw := wrapNat (i := i) (by omega)
    have hst := inL_take (v := v) hi'
    rw [hx, Bool.false_or] at hst
    by_cases hv : k[i] = v
    · have hv' : (k[i] == v) = true := by simp [hv]
      have hin : inL k v = true := by
        unfold inL; rw [List.any_eq_true]; exact ⟨k[i], List.getElem_mem hi', by simp [hv]⟩
      simp -dsimp -implicitDefEqProofs [hi', hv', hin]
    · have hv' : (k[i] == v) = false := by simp [hv]
      have hv2 : (v == k[i]) = false := by simp; exact fun e => hv e.symm
      rw [hv2] at hst
      simp -dsimp -implicitDefEqProofs [hi', hv', hw]
      exact .mk (i + 1) ⟨by omega, hst⟩ (by omega) (Sub.keep (by simp) (by simp [hsub]) (by simp [hw]))
  · have : i = k.length := by omega
    subst this
    rw [List.take_length] at hx
    simp -dsimp -implicitDefEqProofs [hx]

/-! ### the next list of different vertices -/
def freeF (K : List Int) : Nat → Int → Int
  | 0, w => w
  | f + 1, w => if inL K w = true then freeF K f (w + 1) else w
theorem freeF_le {K : List Int} {B : Int} (hB : ∀ x ∈ K, x ≤ B) : ∀ (f : Nat) (w : Int), w ≤ B + 1 → freeF K f w ≤ B + 1
  | 0, w, h => h
  | f + 1, w, h => by
    rw [freeF]
    split
    · rename_i hin
      have := hB w (inL_of hin)
      exact freeF_le hB f (w + 1) (by omega)
    · exact h
def fillF (k : Nat) : Nat → List Int → List Int
  | 0, L => L
  | f + 1, L => fillF k f (L.set (k - (f + 1)) (freeF (L.take (k - (f + 1))) 12 0))
theorem fillF_len (k : Nat) : ∀ (f : Nat) (L : List Int), (fillF k f L).length = L.length
  | 0, L => rfl
  | f + 1, L => by rw [fillF, fillF_len k f]; simp
def tryF (n : Int) (L : List Int) (i : Nat) : Nat → Int → Option (List Int)
  | 0, v => none
  | f + 1, v => if v < n then (if inL (L.take i) v = true then tryF n L i f (v + 1) else some (fillF L.length (L.length - (i + 1)) (L.set i v))) else none
def nextF (n : Int) (L : List Int) : Nat → List Int × Bool
  | 0 => (L, false)
  | i + 1 => match tryF n L i 6 (L.getD i 0 + 1) with
    | some L' => (L', true)
    | none => nextF n L i
theorem tryF_len {n : Int} {L : List Int} {i : Nat} : ∀ {f : Nat} {v : Int} {L' : List Int}, tryF n L i f v = some L' → L'.length = L.length
  | 0, v, L', h => by cases h
  | f + 1, v, L', h => by
    rw [tryF] at h
    split at h
    · split at h
      · exact tryF_len h
      · obtain rfl := Option.some.inj h
        rw [fillF_len]; simp
    · cases h
theorem nextF_len (n : Int) (L : List Int) : ∀ i, (nextF n L i).1.length = L.length
  | 0 => rfl
  | i + 1 => by
    rw [nextF]
    split
    · rename_i h; exact tryF_len h
    · exact nextF_len n L i
theorem gath_take (L : List Int) (j : Nat) (hj : j ≤ L.length) : gath 1 j (flatA (mapA inA L)) = mapA inA (L.take j) := by
  have h1 : flatA (mapA inA L) = flatA (mapA inA (L.take j)) ++ flatA (mapA inA (L.drop j)) := by rw [← flatA_append, List.take_append_drop]
  rw [h1]
  have key : ∀ (A : List Int) (r : List AV), gath 1 A.length (flatA (mapA inA A) ++ r) = mapA inA A := by
    intro A
    induction A with
    | nil => intro r; rfl
    | cons x A ih =>
      intro r
      rw [flatA_cons]
      show elemA 1 _ :: gath 1 A.length _ = _
      have := ih r
      simp only [List.cons_append, List.nil_append, AV.cells, List.drop_succ_cons, List.drop_zero]
      rw [this]; rfl
  have := key (L.take j) (flatA (mapA inA (L.drop j)))
  rw [List.length_take, Nat.min_eq_left hj] at this
  exact this
noncomputable def sp_nextP : List (Option (List AV)) → List AV → Option (AV × List (Option (List AV))) := pv (pf (ι := (Nat) × (List Int) × (Cp)) (α := AV × List (Option (List AV))) (fun ⟨n, L, t⟩ => n ≤ 5 ∧ L.length ≤ 5 ∧ (∀ x ∈ L, 0 ≤ x ∧ x ≤ 5)) (fun i => .agg (((fun ⟨n, L, t⟩ => [some (flatA (insA L))] : (Nat) × (List Int) × (Cp) → List (Option (List AV))) i).map enO) :: (fun ⟨n, L, t⟩ => [.ref 0 1 0 L.length t, .int .i64 n] : (Nat) × (List Int) × (Cp) → List AV) i) (fun ⟨n, L, t⟩ => (.bool (nextF n L L.length).2, [some (flatA (insA (nextF n L L.length).1))])))
theorem sp_nextP_eq (n : Nat) (L : List Int) (t : Cp) (h : n ≤ 5 ∧ L.length ≤ 5 ∧ (∀ x ∈ L, 0 ≤ x ∧ x ≤ 5)) : sp_nextP [some (flatA (insA L))] [.ref 0 1 0 L.length t, .int .i64 n] = some (.bool (nextF n L L.length).2, [some (flatA (insA (nextF n L L.length).1))]) := by
  unfold sp_nextP pv
  exact pf_eq (ι := (Nat) × (List Int) × (Cp)) (α := AV × List (Option (List AV))) (n, L, t) h (by rintro ⟨n', L', t'⟩ _ e; simp_all [enO, Int.natCast_inj])
set_option maxHeartbeats 1000000 in
theorem v_spec_l01Next : QV PP 96 sp_nextP := by
  refine QV_pf fun i h => ?_
  obtain ⟨n, L, t⟩ := i
  replace h : n ≤ 5 ∧ L.length ≤ 5 ∧ (∀ x ∈ L, 0 ≤ x ∧ x ≤ 5) := h
  refine H_code (Quiet.e1 q_spec_l01Among.toR Quiet.nil) hmix k_spec_l01Next rfl (fun b => b) (by simp [AHeap.n]) (fun _ _ => rfl) (by rfl) (by first | rfl | simp) ?_
  show wpc _ PP _ c_spec_l01Next (initSt [.ref 0 1 0 L.length t, .int .i64 n] ⟨[some (flatA (insA L))]⟩) (endH (fun b => b) r_spec_l01Next (.bool (nextF n L L.length).2) [some (flatA (insA (nextF n L L.length).1))])
  obtain ⟨hn, hl, hL⟩ := h
  have w0 : IntKind.i64.wrap ((L.length : Int) - 1) = (L.length : Int) - 1 := wrapI64 (by omega) (by omega)
  simp -dsimp -implicitDefEqProofs [c_spec_l01Next, r_spec_l01Next, w0]
  refine wpLoop_st (fun (i : Nat) => ⟨tl [(0, .ref 0 1 0 L.length t), (1, .int .i64 n), (5, .int .i64 L.length), (6, .int .i64 ((i : Int) - 1))], ⟨[some (flatA (insA L))]⟩⟩) (fun i => i ≤ L.length ∧ nextF n L i = nextF n L L.length) (fun i => i) L.length ⟨Nat.le_refl _, rfl⟩ (Sub.keep (by simp) (by simp [hsub]) (by simp)) ?_
  rintro i ⟨h1, h4⟩
  simp -dsimp -implicitDefEqProofs
  refine brW_of (fun h => ?_) (fun h => ?_) <;> simp only [decide_eq_true_eq, decide_eq_false_iff_not] at h
  · obtain ⟨j, rfl⟩ : ∃ j, i = j + 1 := ⟨i - 1, by omega⟩
    have hj : j < L.length := by omega
    have hjle : j ≤ L.length := by omega
    have hx := hL _ (List.getElem_mem hj)
    have hg : L.getD j 0 = L[j] := by simp [hj]
    have w1 : IntKind.i64.wrap (L[j] + 1) = L[j] + 1 := wrapI64 (by omega) (by omega)
    have w2 : IntKind.i64.wrap ((j : Int) - 1) = (j : Int) - 1 := wrapI64 (by omega) (by omega)
    have hji : ((j + 1 : Nat) : Int) - 1 = j := by omega
    rw [nextF, hg] at h4
    simp -dsimp -implicitDefEqProofs [hj, w1]
    refine wpLoop_st (fun (f : Nat) => ⟨tl [(0, .ref 0 1 0 L.length t), (1, .int .i64 n), (5, .int .i64 L.length), (6, .int .i64 j), (7, .int .i64 (L[j] + 1 + (6 - (f : Int))))], ⟨[some (flatA (insA L))]⟩⟩) (fun f => f ≤ 6 ∧ tryF n L j f (L[j] + 1 + (6 - (f : Int))) = tryF n L j 6 (L[j] + 1)) (fun f => f) 6 ⟨by omega, by simp⟩ (Sub.keep (by simp) (by simp [hsub]) (by simp)) ?_
    rintro f ⟨f6, hf⟩
    simp -dsimp -implicitDefEqProofs
    refine brW_of (fun h => ?_) (fun h => ?_) <;> simp only [decide_eq_true_eq, decide_eq_false_iff_not] at h
    · obtain ⟨g, rfl⟩ : ∃ g, f = g + 1 := ⟨f - 1, by omega⟩
      rw [tryF, if_pos h] at hf
      have hv5 : L[j] + 1 + (6 - ((g + 1 : Nat) : Int)) ≤ 4 := by omega
      have hv0 : 0 ≤ L[j] + 1 + (6 - ((g + 1 : Nat) : Int)) := by omega
      have hnx : L[j] + 1 + (6 - (g : Int)) = L[j] + 1 + (6 - ((g + 1 : Nat) : Int)) + 1 := by omega
      generalize L[j] + 1 + (6 - ((g + 1 : Nat) : Int)) = v at hf hv5 hv0 hnx h ⊢
      have hgt := gath_take L j hjle
      have hct := sp_containsI_eq (L.take j) v (by simp; omega)
      have wv : IntKind.i64.wrap (v + 1) = v + 1 := wrapI64 (by omega) (by omega)
      cases hin : inL (L.take j) v with
      | true =>
        rw [hin, if_pos rfl] at hf
        rw [hin] at hct
        simp -dsimp -implicitDefEqProofs [hjle, hgt, hct, wv]
        refine .mk g ⟨by omega, by rw [hnx]; exact hf⟩ (by omega) (Sub.keep (by simp) (by simp [hsub]) (by simp [wv, hnx]))
      | false =>
        rw [hin] at hf hct
        simp only [Bool.false_eq_true, if_false] at hf
        rw [← hf] at h4
        simp only at h4
        have hj1 : j + 1 ≤ L.length := hj
        have hs1 := set_in L j v hj
        have wj := wrapNat (i := j) (by omega)
        simp -dsimp -implicitDefEqProofs [hjle, hgt, hct, hj, hj1, hs1, wj]
        refine wpLoop_st (fun (q : Nat × List Int) => ⟨tl [(0, .ref 0 1 0 L.length t), (5, .int .i64 L.length), (8, .int .i64 q.1)], ⟨[some (flatA (insA q.2))]⟩⟩) (fun q => j + 1 ≤ q.1 ∧ q.1 ≤ L.length ∧ q.2.length = L.length ∧ (∀ x ∈ q.2, x ≤ 5 + (q.1 : Int)) ∧ fillF L.length (L.length - q.1) q.2 = fillF L.length (L.length - (j + 1)) (L.set j v)) (fun q => L.length - q.1) (j + 1, L.set j v) ⟨by omega, by omega, by simp, fun x hx => ?_, rfl⟩ (Sub.keep (by simp) (by simp [hsub]) (by simp [wj])) ?_
        · rcases List.mem_or_eq_of_mem_set hx with hx | rfl
          · have := hL x hx; omega
          · omega
        · rintro ⟨m, M⟩ ⟨m1, m2, m3, m4, m5⟩
          simp only at m1 m2 m3 m4 m5
          simp -dsimp -implicitDefEqProofs
          refine brW_of (fun h => ?_) (fun h => ?_) <;> simp only [decide_eq_true_eq, decide_eq_false_iff_not] at h
          · have hm : m < L.length := by omega
            have hmM : m < M.length := by omega
            have hmle : m ≤ L.length := by omega
            have hmleM : m ≤ M.length := by omega
            have hm1 : m + 1 ≤ M.length := by omega
            have wm := wrapNat (i := m) (by omega)
            have hgtm := gath_take M m hmleM
            obtain ⟨f', hf'⟩ : ∃ f', L.length - m = f' + 1 := ⟨L.length - m - 1, by omega⟩
            rw [hf', fillF, show L.length - (f' + 1) = m by omega, show f' = L.length - (m + 1) by omega] at m5
            have hMt : ∀ x ∈ M.take m, x ≤ 5 + (m : Int) := fun x hx => m4 x (List.mem_of_mem_take hx)
            simp -dsimp -implicitDefEqProofs
            refine wpLoop_st (fun (g : Nat) => ⟨tl [(0, .ref 0 1 0 L.length t), (5, .int .i64 L.length), (8, .int .i64 m), (9, .int .i64 (12 - (g : Int)))], ⟨[some (flatA (insA M))]⟩⟩) (fun g => g ≤ 12 ∧ freeF (M.take m) g (12 - (g : Int)) = freeF (M.take m) 12 0) (fun g => g) 12 ⟨by omega, by simp⟩ (Sub.keep (by simp) (by simp [hsub]) (by simp)) ?_
            rintro g ⟨g12, hg2⟩
            have hctm := sp_containsI_eq (M.take m) (12 - (g : Int)) (by simp; omega)
            cases hin : inL (M.take m) (12 - (g : Int)) with
            | true =>
              rw [hin] at hctm
              have hle := hMt _ (inL_of hin)
              obtain ⟨g', rfl⟩ : ∃ g', g = g' + 1 := ⟨g - 1, by omega⟩
              rw [freeF, hin, if_pos rfl] at hg2
              have hnx : (12 : Int) - (g' : Int) = 12 - ((g' + 1 : Nat) : Int) + 1 := by omega
              have wg : IntKind.i64.wrap (12 - ((g' + 1 : Nat) : Int) + 1) = 12 - ((g' + 1 : Nat) : Int) + 1 := wrapI64 (by omega) (by omega)
              generalize (12 : Int) - ((g' + 1 : Nat) : Int) = w at *
              simp -dsimp -implicitDefEqProofs [hmle, hmleM, hgtm, hctm, wg]
              exact .mk g' ⟨by omega, by rw [hnx]; exact hg2⟩ (by omega) (Sub.keep (by simp) (by simp [hsub]) (by simp [hnx, wg]))
            | false =>
              rw [hin] at hctm
              have hfr : freeF (M.take m) 12 0 = 12 - (g : Int) := by
                rw [← hg2]
                cases g with
                | zero => rfl
                | succ g => rw [freeF, hin]; simp
              have hle := freeF_le (B := 5 + (m : Int)) hMt 12 0 (by omega)
              rw [hfr] at m5 hle
              generalize (12 : Int) - (g : Int) = w at *
              have hs2 := set_in M m w hmM
              simp -dsimp -implicitDefEqProofs [hmle, hmleM, hgtm, hctm, hm, hmM, hm1, hs2, wm]
              refine .mk (m + 1, M.set m w) ⟨by simp only; omega, by simp only; omega, by simp [m3], fun x hx => ?_, m5⟩ (by simp only; omega) (Sub.keep (by simp) (by simp [hsub]) (by simp [wm]))
              rcases List.mem_or_eq_of_mem_set hx with hx | rfl
              · have := m4 x hx; simp only; omega
              · simp only; omega
          · have : m = L.length := by omega
            subst this
            rw [Nat.sub_self, fillF] at m5
            rw [← m5] at h4
            simp -dsimp -implicitDefEqProofs [← h4, hsub]
    · have hn0 : tryF n L j 6 (L[j] + 1) = none := by
        rw [← hf]
        cases f with
        | zero => rfl
        | succ g => rw [tryF, if_neg h]
      rw [hn0] at h4
      simp only at h4
      simp -dsimp -implicitDefEqProofs [w2]
      exact .mk j ⟨by omega, h4⟩ (by omega) (Sub.keep (by simp) (by simp [hsub]) (by simp [w2]))
  · have hi : i = 0 := by omega
    subst hi
    rw [nextF] at h4
    simp -dsimp -implicitDefEqProofs [← h4, hsub]
def nextN (n : Int) (L : List Int) : Option (List Int) := if (nextF n L L.length).2 = true then some (nextF n L L.length).1 else none
/-- All lists of different vertices. -/
def permL (n m : Nat) : List (List Int) := dfsL newM n m []
theorem permL_chain : ∀ n : Nat, n ≤ 5 → ∀ m : Nat, m ≤ n → chainB (nextN n) (permL n m) = true := by
  have : ∀ n : Nat, n < 6 → ∀ m : Nat, m < n + 1 → chainB (nextN n) (permL n m) = true := by decide +kernel
  exact fun n h m h' => this n (by omega) m (by omega)
theorem permL_first : ∀ n : Nat, n ≤ 5 → ∀ m : Nat, m ≤ n → (permL n m)[0]? = some (upTo m) := by
  have : ∀ n : Nat, n < 6 → ∀ m : Nat, m < n + 1 → (permL n m)[0]? = some (upTo m) := by decide +kernel
  exact fun n h m h' => this n (by omega) m (by omega)
theorem dfs_nodup {k : Nat} : ∀ {d : Nat} {now l : List Int}, now.Nodup → l ∈ dfsL newM k d now → l.Nodup
  | 0, now, l, hn, h => by rw [dfsL, List.mem_singleton] at h; rw [h]; exact hn
  | d + 1, now, l, hn, h => by
    rw [dfsL, List.mem_flatMap] at h
    obtain ⟨x, hx0, hx⟩ := h
    split at hx
    · rename_i hf
      refine dfs_nodup (nodup_snoc hn ?_) hx
      unfold newM at hf
      simpa using hf
    · cases hx
theorem permL_dist {n m : Nat} (hn : n ≤ 5) (hm : m ≤ n) {L : List Int} (h : L ∈ permL n m) : distL L ∧ L.length = m ∧ ∀ x ∈ L, 0 ≤ x ∧ x < (n : Int) := by
  have h1 : L.length = m := by have := dfsL_len h; simpa using this
  have h2 : ∀ x ∈ L, 0 ≤ x ∧ x < (n : Int) := dfsL_range (fun x hx => by cases hx) h
  exact ⟨⟨dfs_nodup List.nodup_nil h, by omega, fun x hx => by have := h2 x hx; omega⟩, h1, h2⟩
end Go.Proofs.YtgiakpeneckgfaaGreatDoorAi
end

section
/- MADE BY PROGRAM (wip/tools/gen.py): the abstract code of functions. -/
namespace Go.Proofs.YtgiakpeneckgfaaGreatDoorAi
open Go AC AOp Opd
set_option linter.unusedVariables false
set_option maxRecDepth 100000
def c_strconv_FormatInt : AC := seq (reg [⟨(some 4), mv (c (.str ⟨#[]⟩)), none⟩]) (seq (reg [⟨(some 5), mv (t 0), none⟩, ⟨(some 6), mv (t 1), none⟩, ⟨(some 7), callq (c (.fn 125 [])) [t 5, t 6], none⟩, ⟨(some 4), mv (t 7), none⟩]) (ret))
def r_strconv_FormatInt : List ARes := [.tmp 4]
theorem k_strconv_FormatInt : acLin Go.Proofs.Tryz.prog 105 2 (inQ [125] []) [] = some (c_strconv_FormatInt, r_strconv_FormatInt) := by kernel_rfl
def c_spec_Decimal : AC := seq (reg [⟨(some 2), mv (c (.str ⟨#[]⟩)), none⟩]) (seq (seq (reg [⟨(some 3), mv (t 0), none⟩, ⟨(some 4), bin .geq (t 3) (c (.int .i64 10)), none⟩]) (cond (t 4) (seq (reg [⟨(some 5), mv (t 0), none⟩, ⟨(some 6), bin .quo (t 5) (c (.int .i64 10)), none⟩, ⟨(some 7), callq (c (.fn 66 [])) [t 6], none⟩, ⟨(some 8), mv (t 0), none⟩, ⟨(some 9), bin .rem (t 8) (c (.int .i64 10)), none⟩, ⟨(some 10), bin .add (c (.int .i64 48)) (t 9), none⟩, ⟨(some 11), conv .u8 (t 10), none⟩, ⟨(some 12), bsl 1 1 [.int .u8 0] [(0, t 11)], none⟩, ⟨(some 13), b2s (t 12), none⟩, ⟨(some 14), bin .add (t 7) (t 13), none⟩, ⟨(some 2), mv (t 14), none⟩]) (ret)) (skip))) (seq (reg [⟨(some 15), mv (t 0), none⟩, ⟨(some 16), bin .add (c (.int .i64 48)) (t 15), none⟩, ⟨(some 17), conv .u8 (t 16), none⟩, ⟨(some 18), bsl 1 1 [.int .u8 0] [(0, t 17)], none⟩, ⟨(some 19), b2s (t 18), none⟩, ⟨(some 2), mv (t 19), none⟩]) (ret)))
def r_spec_Decimal : List ARes := [.tmp 2]
theorem k_spec_Decimal : acLin Go.Proofs.Tryz.prog 66 1 (inQ [66] []) [⟨false, none, [], [], none⟩, ⟨false, none, [], [], none⟩, ⟨false, some [0, 1, 2, 3, 4, 5, 6, 7, 8, 9, 10], [], [], none⟩] = some (c_spec_Decimal, r_spec_Decimal) := by kernel_rfl
def c_impl_decimal : AC := seq (reg [⟨(some 2), mv (c (.str ⟨#[]⟩)), none⟩]) (seq (reg [⟨(some 3), mv (t 0), none⟩, ⟨(some 4), callq (c (.fn 105 [])) [t 3, c (.int .i64 10)], none⟩, ⟨(some 2), mv (t 4), none⟩]) (ret))
def r_impl_decimal : List ARes := [.tmp 2]
theorem k_impl_decimal : acLin Go.Proofs.Tryz.prog 76 1 (inQ [105] []) [] = some (c_impl_decimal, r_impl_decimal) := by kernel_rfl
def c_impl_Fraction_text : AC := seq (reg [⟨(some 1), box 2 (t 0), none⟩, ⟨(some 2), mv (c (.str ⟨#[]⟩)), none⟩]) (seq (seq (reg [⟨(some 3), fad (t 1) 1, none⟩, ⟨(some 4), ld (t 3) 1 false, none⟩, ⟨(some 5), bin .eql (t 4) (c (.int .i64 1)), none⟩]) (cond (t 5) (seq (reg [⟨(some 6), fad (t 1) 0, none⟩, ⟨(some 7), ld (t 6) 1 false, none⟩, ⟨(some 8), callq (c (.fn 76 [])) [t 7], none⟩, ⟨(some 2), mv (t 8), none⟩]) (ret)) (skip))) (seq (reg [⟨(some 9), fad (t 1) 0, none⟩, ⟨(some 10), ld (t 9) 1 false, none⟩, ⟨(some 11), callq (c (.fn 76 [])) [t 10], none⟩, ⟨(some 12), bin .add (t 11) (c (.str ⟨#[47]⟩)), none⟩, ⟨(some 13), fad (t 1) 1, none⟩, ⟨(some 14), ld (t 13) 1 false, none⟩, ⟨(some 15), callq (c (.fn 76 [])) [t 14], none⟩, ⟨(some 16), bin .add (t 12) (t 15), none⟩, ⟨(some 2), mv (t 16), none⟩]) (ret)))
def r_impl_Fraction_text : List ARes := [.tmp 2]
theorem k_impl_Fraction_text : acLin Go.Proofs.Tryz.prog 46 1 (inQ [76] []) [⟨false, none, [], [], none⟩, ⟨false, none, [], [], none⟩, ⟨false, none, [], [], none⟩, ⟨false, none, [], [], none⟩, ⟨false, some [0, 1, 2, 3, 4, 5, 6, 7, 8], [], [], none⟩] = some (c_impl_Fraction_text, r_impl_Fraction_text) := by kernel_rfl
def c_spec_FractionText : AC := seq (reg [⟨(some 1), box 2 (t 0), none⟩, ⟨(some 2), mv (c (.str ⟨#[]⟩)), none⟩]) (seq (seq (reg [⟨(some 4), ld (t 1) 2 true, none⟩, ⟨(some 5), callq (c (.fn 33 [])) [t 4], none⟩, ⟨(some 6), un .not (t 5), none⟩]) (cond (t 6) (seq (reg [⟨(some 2), mv (c (.str ⟨#[]⟩)), none⟩]) (ret)) (skip))) (seq (reg [⟨(some 7), fad (t 1) 0, none⟩, ⟨(some 8), ld (t 7) 1 false, none⟩, ⟨(some 9), callq (c (.fn 65 [])) [t 8], none⟩, ⟨(some 10), callq (c (.fn 66 [])) [t 9], none⟩, ⟨(some 3), mv (t 10), none⟩]) (seq (seq (reg [⟨(some 11), fad (t 1) 0, none⟩, ⟨(some 12), ld (t 11) 1 false, none⟩, ⟨(some 13), bin .lss (t 12) (c (.int .i64 0)), none⟩]) (cond (t 13) (reg [⟨(some 14), mv (t 3), none⟩, ⟨(some 15), bin .add (c (.str ⟨#[45]⟩)) (t 14), none⟩, ⟨(some 3), mv (t 15), none⟩]) (skip))) (seq (seq (reg [⟨(some 16), fad (t 1) 1, none⟩, ⟨(some 17), ld (t 16) 1 false, none⟩, ⟨(some 18), bin .neq (t 17) (c (.int .i64 1)), none⟩]) (cond (t 18) (reg [⟨(some 19), mv (t 3), none⟩, ⟨(some 20), fad (t 1) 1, none⟩, ⟨(some 21), ld (t 20) 1 false, none⟩, ⟨(some 22), callq (c (.fn 66 [])) [t 21], none⟩, ⟨(some 23), bin .add (c (.str ⟨#[47]⟩)) (t 22), none⟩, ⟨(some 24), bin .add (t 19) (t 23), none⟩, ⟨(some 3), mv (t 24), none⟩]) (skip))) (seq (reg [⟨(some 25), mv (t 3), none⟩, ⟨(some 2), mv (t 25), none⟩]) (ret))))))
def r_spec_FractionText : List ARes := [.tmp 2]
theorem k_spec_FractionText : acLin Go.Proofs.Tryz.prog 34 1 (inQ [33, 65, 66] []) [] = some (c_spec_FractionText, r_spec_FractionText) := by kernel_rfl
def c_impl_Graph_edges : AC := seq (reg [⟨(some 1), box 2 (t 0), none⟩, ⟨(some 2), mv (c (.sl [] true)), none⟩]) (seq (reg [⟨(some 6), bsl 2 0 [.int .i64 0, .int .i64 0] [], none⟩, ⟨(some 3), mv (t 6), none⟩]) (seq (seq (reg [⟨(some 7), fad (t 1) 0, none⟩, ⟨(some 8), ld (t 7) 1 false, none⟩, ⟨(some 9), mv (c (.int .i64 0)), none⟩]) (block 0 (loop (seq (reg [⟨(some 10), bin .lss (t 9) (t 8), none⟩]) (seq (cond (t 10) (skip) (exit 0)) (seq (block 1 (seq (reg [⟨(some 11), mv (t 9), none⟩, ⟨(some 4), mv (t 11), none⟩]) (seq (reg [⟨(some 12), mv (t 4), none⟩, ⟨(some 13), mv (c (.int .i64 0)), none⟩]) (block 2 (loop (seq (reg [⟨(some 14), bin .lss (t 13) (t 12), none⟩]) (seq (cond (t 14) (skip) (exit 2)) (seq (block 3 (seq (reg [⟨(some 15), mv (t 13), none⟩, ⟨(some 5), mv (t 15), none⟩]) (seq (reg [⟨(some 16), ld (t 1) 2 true, none⟩, ⟨(some 17), mv (t 5), none⟩, ⟨(some 18), mv (t 4), none⟩, ⟨(some 19), callq (c (.fn 110 [])) [t 16, t 17, t 18], none⟩]) (cond (t 19) (reg [⟨(some 20), mv (t 3), none⟩, ⟨(some 21), mv (t 5), none⟩, ⟨(some 22), mv (t 4), none⟩, ⟨(some 23), bld [.int .i64 0, .int .i64 0] [(0, 1, t 21), (1, 1, t 22)], none⟩, ⟨(some 24), bsl 2 1 [.int .i64 0, .int .i64 0] [(0, t 23)], none⟩, ⟨(some 25), app 2 16 (t 20) (t 24), none⟩, ⟨(some 3), mv (t 25), none⟩]) (skip))))) (reg [⟨(some 26), bin .add (t 13) (c (.int .i64 1)), none⟩, ⟨(some 13), mv (t 26), none⟩]))))))))) (reg [⟨(some 27), bin .add (t 9) (c (.int .i64 1)), none⟩, ⟨(some 9), mv (t 27), none⟩]))))))) (seq (reg [⟨(some 28), mv (t 3), none⟩, ⟨(some 2), mv (t 28), none⟩]) (ret))))
def r_impl_Graph_edges : List ARes := [.tmp 2]
theorem k_impl_Graph_edges : acLin Go.Proofs.Tryz.prog 82 1 (inQ [110] []) [] = some (c_impl_Graph_edges, r_impl_Graph_edges) := by kernel_rfl
def c_spec_l01Pairs : AC := seq (reg [⟨(some 1), box 2 (t 0), none⟩, ⟨(some 2), mv (c (.sl [] true)), none⟩]) (seq (reg [⟨(some 6), bsl 2 0 [.int .i64 0, .int .i64 0] [], none⟩, ⟨(some 3), mv (t 6), none⟩]) (seq (seq (reg [⟨(some 4), mv (c (.int .i64 1)), none⟩]) (block 0 (loop (seq (seq (reg [⟨(some 7), mv (t 4), none⟩, ⟨(some 8), fad (t 1) 0, none⟩, ⟨(some 9), ld (t 8) 1 false, none⟩, ⟨(some 10), bin .lss (t 7) (t 9), none⟩]) (cond (t 10) (skip) (exit 0))) (seq (block 1 (seq (reg [⟨(some 5), mv (c (.int .i64 0)), none⟩]) (block 2 (loop (seq (seq (reg [⟨(some 13), mv (t 5), none⟩, ⟨(some 14), mv (t 4), none⟩, ⟨(some 15), bin .lss (t 13) (t 14), none⟩]) (cond (t 15) (skip) (exit 2))) (seq (block 3 (seq (reg [⟨(some 18), ld (t 1) 2 true, none⟩, ⟨(some 19), mv (t 5), none⟩, ⟨(some 20), mv (t 4), none⟩, ⟨(some 21), callq (c (.fn 93 [])) [t 18, t 19, t 20], none⟩]) (cond (t 21) (reg [⟨(some 22), mv (t 3), none⟩, ⟨(some 23), mv (t 5), none⟩, ⟨(some 24), mv (t 4), none⟩, ⟨(some 25), bld [.int .i64 0, .int .i64 0] [(0, 1, t 23), (1, 1, t 24)], none⟩, ⟨(some 26), bsl 2 1 [.int .i64 0, .int .i64 0] [(0, t 25)], none⟩, ⟨(some 27), app 2 16 (t 22) (t 26), none⟩, ⟨(some 3), mv (t 27), none⟩]) (skip)))) (reg [⟨(some 16), mv (t 5), none⟩, ⟨(some 17), bin .add (t 16) (c (.int .i64 1)), none⟩, ⟨(some 5), mv (t 17), none⟩]))))))) (reg [⟨(some 11), mv (t 4), none⟩, ⟨(some 12), bin .add (t 11) (c (.int .i64 1)), none⟩, ⟨(some 4), mv (t 12), none⟩])))))) (seq (reg [⟨(some 28), mv (t 3), none⟩, ⟨(some 2), mv (t 28), none⟩]) (ret))))
def r_spec_l01Pairs : List ARes := [.tmp 2]
theorem k_spec_l01Pairs : acLin Go.Proofs.Tryz.prog 69 1 (inQ [93] []) [] = some (c_spec_l01Pairs, r_spec_l01Pairs) := by kernel_rfl
def c_impl_Graph_text : AC := seq (reg [⟨(some 1), box 2 (t 0), none⟩, ⟨(some 2), mv (c (.str ⟨#[]⟩)), none⟩]) (seq (reg [⟨(some 6), fad (t 1) 0, none⟩, ⟨(some 7), ld (t 6) 1 false, none⟩, ⟨(some 8), callq (c (.fn 76 [])) [t 7], none⟩, ⟨(some 9), bin .add (c (.str ⟨#[103, 114, 97, 112, 104, 32]⟩)) (t 8), none⟩, ⟨(some 3), mv (t 9), none⟩]) (seq (seq (reg [⟨(some 10), ld (t 1) 2 true, none⟩, ⟨(some 11), calle (c (.fn 82 [])) [t 10] [], none⟩, ⟨(some 12), len (t 11), none⟩, ⟨(some 13), mv (c (.int .i64 0)), none⟩]) (block 0 (loop (seq (reg [⟨(some 14), bin .lss (t 13) (t 12), none⟩]) (seq (cond (t 14) (skip) (exit 0)) (seq (block 1 (seq (reg [⟨(some 15), iad 2 (t 11) (t 13), none⟩, ⟨(some 16), ld (t 15) 2 true, none⟩, ⟨(some 5), alloc [.int .i64 0, .int .i64 0], none⟩, ⟨none, st (t 5) 2 (t 16), none⟩]) (reg [⟨(some 17), mv (t 3), none⟩, ⟨(some 18), fad (t 5) 0, none⟩, ⟨(some 19), ld (t 18) 1 false, none⟩, ⟨(some 20), callq (c (.fn 76 [])) [t 19], none⟩, ⟨(some 21), bin .add (c (.str ⟨#[32]⟩)) (t 20), none⟩, ⟨(some 22), bin .add (t 21) (c (.str ⟨#[45]⟩)), none⟩, ⟨(some 23), fad (t 5) 1, none⟩, ⟨(some 24), ld (t 23) 1 false, none⟩, ⟨(some 25), callq (c (.fn 76 [])) [t 24], none⟩, ⟨(some 26), bin .add (t 22) (t 25), none⟩, ⟨(some 27), bin .add (t 17) (t 26), none⟩, ⟨(some 3), mv (t 27), none⟩]))) (reg [⟨(some 28), bin .add (t 13) (c (.int .i64 1)), none⟩, ⟨(some 13), mv (t 28), none⟩]))))))) (seq (reg [⟨(some 29), mv (t 3), none⟩, ⟨(some 2), mv (t 29), none⟩]) (ret))))
def r_impl_Graph_text : List ARes := [.tmp 2]
theorem k_impl_Graph_text : acLin Go.Proofs.Tryz.prog 54 1 (inQ [76] [82]) [⟨false, none, [], [], none⟩, ⟨false, none, [], [], none⟩, ⟨false, none, [], [], none⟩, ⟨false, none, [], [], none⟩, ⟨false, none, [], [], none⟩, ⟨false, none, [], [], none⟩, ⟨false, some [0, 1, 2, 3, 4, 5, 6, 7, 8, 9, 10, 11], [], [], none⟩] = some (c_impl_Graph_text, r_impl_Graph_text) := by kernel_rfl
def c_spec_GraphText : AC := seq (reg [⟨(some 1), box 2 (t 0), none⟩, ⟨(some 2), mv (c (.str ⟨#[]⟩)), none⟩]) (seq (seq (reg [⟨(some 6), ld (t 1) 2 true, none⟩, ⟨(some 7), callq (c (.fn 68 [])) [t 6], none⟩, ⟨(some 8), un .not (t 7), none⟩]) (cond (t 8) (seq (reg [⟨(some 2), mv (c (.str ⟨#[]⟩)), none⟩]) (ret)) (skip))) (seq (reg [⟨(some 9), fad (t 1) 0, none⟩, ⟨(some 10), ld (t 9) 1 false, none⟩, ⟨(some 11), callq (c (.fn 66 [])) [t 10], none⟩, ⟨(some 12), bin .add (c (.str ⟨#[103, 114, 97, 112, 104, 32]⟩)) (t 11), none⟩, ⟨(some 3), mv (t 12), none⟩]) (seq (reg [⟨(some 13), ld (t 1) 2 true, none⟩, ⟨(some 14), calle (c (.fn 69 [])) [t 13] [], none⟩, ⟨(some 4), mv (t 14), none⟩]) (seq (seq (reg [⟨(some 5), mv (c (.int .i64 0)), none⟩]) (block 0 (loop (seq (seq (reg [⟨(some 15), mv (t 5), none⟩, ⟨(some 16), mv (t 4), none⟩, ⟨(some 17), len (t 16), none⟩, ⟨(some 18), bin .lss (t 15) (t 17), none⟩]) (cond (t 18) (skip) (exit 0))) (seq (block 1 (reg [⟨(some 21), mv (t 3), none⟩, ⟨(some 22), mv (t 4), none⟩, ⟨(some 23), mv (t 5), none⟩, ⟨(some 24), iad 2 (t 22) (t 23), none⟩, ⟨(some 25), fad (t 24) 0, none⟩, ⟨(some 26), ld (t 25) 1 false, none⟩, ⟨(some 27), callq (c (.fn 66 [])) [t 26], none⟩, ⟨(some 28), bin .add (c (.str ⟨#[32]⟩)) (t 27), none⟩, ⟨(some 29), bin .add (t 28) (c (.str ⟨#[45]⟩)), none⟩, ⟨(some 30), mv (t 4), none⟩, ⟨(some 31), mv (t 5), none⟩, ⟨(some 32), iad 2 (t 30) (t 31), none⟩, ⟨(some 33), fad (t 32) 1, none⟩, ⟨(some 34), ld (t 33) 1 false, none⟩, ⟨(some 35), callq (c (.fn 66 [])) [t 34], none⟩, ⟨(some 36), bin .add (t 29) (t 35), none⟩, ⟨(some 37), bin .add (t 21) (t 36), none⟩, ⟨(some 3), mv (t 37), none⟩])) (reg [⟨(some 19), mv (t 5), none⟩, ⟨(some 20), bin .add (t 19) (c (.int .i64 1)), none⟩, ⟨(some 5), mv (t 20), none⟩])))))) (seq (reg [⟨(some 38), mv (t 3), none⟩, ⟨(some 2), mv (t 38), none⟩]) (ret))))))
def r_spec_GraphText : List ARes := [.tmp 2]
theorem k_spec_GraphText : acLin Go.Proofs.Tryz.prog 38 1 (inQ [66, 68] [69]) [⟨false, none, [], [], none⟩, ⟨false, none, [], [], none⟩, ⟨false, none, [], [], none⟩, ⟨false, none, [], [], none⟩, ⟨false, none, [], [], none⟩, ⟨false, none, [], [], none⟩, ⟨false, none, [], [], none⟩, ⟨false, none, [], [], none⟩, ⟨false, none, [], [], none⟩, ⟨false, some [0, 1, 2, 3, 4, 5, 6, 7, 8, 9, 10, 11, 12, 13, 14, 15, 16, 17], [], [], none⟩] = some (c_spec_GraphText, r_spec_GraphText) := by kernel_rfl
def c_spec_l03Ok : AC := seq (reg [⟨(some 1), box 3 (t 0), none⟩, ⟨(some 2), mv (c (.bool false)), none⟩]) (seq (reg [⟨(some 3), fad (t 1) 1, none⟩, ⟨(some 4), ld (t 3) 2 true, none⟩, ⟨(some 5), callq (c (.fn 68 [])) [t 4], none⟩, ⟨(some 6), mv (t 5), none⟩, ⟨(some 7), fad (t 1) 0, some (6, true)⟩, ⟨(some 8), ld (t 7) 1 false, some (6, true)⟩, ⟨(some 9), callq (c (.fn 63 [])) [t 8, c (.int .i64 0), c (.int .i64 3)], some (6, true)⟩, ⟨(some 10), pick (t 6) (t 9) (c (.bool false)), none⟩, ⟨(some 11), mv (t 10), none⟩, ⟨(some 12), fad (t 1) 0, some (11, true)⟩, ⟨(some 13), ld (t 12) 1 false, some (11, true)⟩, ⟨(some 14), fad (t 1) 1, some (11, true)⟩, ⟨(some 15), fad (t 14) 0, some (11, true)⟩, ⟨(some 16), ld (t 15) 1 false, some (11, true)⟩, ⟨(some 17), bin .leq (t 13) (t 16), some (11, true)⟩, ⟨(some 18), pick (t 11) (t 17) (c (.bool false)), none⟩, ⟨(some 2), mv (t 18), none⟩]) (ret))
def r_spec_l03Ok : List ARes := [.tmp 2]
theorem k_spec_l03Ok : acLin Go.Proofs.Tryz.prog 71 1 (inQ [63, 68] []) [] = some (c_spec_l03Ok, r_spec_l03Ok) := by kernel_rfl
def c_impl_ValidFlag : AC := seq (reg [⟨(some 1), box 3 (t 0), none⟩, ⟨(some 2), mv (c (.bool false)), none⟩]) (seq (reg [⟨(some 3), fad (t 1) 1, none⟩, ⟨(some 4), ld (t 3) 2 true, none⟩, ⟨(some 5), callq (c (.fn 84 [])) [t 4], none⟩, ⟨(some 6), mv (t 5), none⟩, ⟨(some 7), fad (t 1) 0, some (6, true)⟩, ⟨(some 8), ld (t 7) 1 false, some (6, true)⟩, ⟨(some 9), callq (c (.fn 80 [])) [t 8, c (.int .i64 0), c (.int .i64 3)], some (6, true)⟩, ⟨(some 10), pick (t 6) (t 9) (c (.bool false)), none⟩, ⟨(some 11), mv (t 10), none⟩, ⟨(some 12), fad (t 1) 0, some (11, true)⟩, ⟨(some 13), ld (t 12) 1 false, some (11, true)⟩, ⟨(some 14), fad (t 1) 1, some (11, true)⟩, ⟨(some 15), fad (t 14) 0, some (11, true)⟩, ⟨(some 16), ld (t 15) 1 false, some (11, true)⟩, ⟨(some 17), bin .leq (t 13) (t 16), some (11, true)⟩, ⟨(some 18), pick (t 11) (t 17) (c (.bool false)), none⟩, ⟨(some 2), mv (t 18), none⟩]) (ret))
def r_impl_ValidFlag : List ARes := [.tmp 2]
theorem k_impl_ValidFlag : acLin Go.Proofs.Tryz.prog 86 1 (inQ [80, 84] []) [] = some (c_impl_ValidFlag, r_impl_ValidFlag) := by kernel_rfl
end Go.Proofs.YtgiakpeneckgfaaGreatDoorAi
end

section
/- Contracts: the pairs of a graph. -/
namespace Go.Proofs.YtgiakpeneckgfaaGreatDoorAi
open Go Go.RowKit
set_option linter.unusedVariables false
set_option linter.unusedSimpArgs false
set_option maxRecDepth 20000

def prE (e : Int) (j k : Nat) : List Fr := ((List.range k).filter fun (i : Nat) => hasB e i j).map fun (i : Nat) => ⟨(i : Int), (j : Int)⟩
theorem prE_zero (e : Int) (j : Nat) : prE e j 0 = [] := rfl
theorem prE_true {e : Int} {j k : Nat} (h : hasB e k j = true) : prE e j (k + 1) = prE e j k ++ [⟨(k : Int), (j : Int)⟩] := by
  unfold prE; rw [List.range_succ, List.filter_append, List.map_append]; simp [h]
theorem prE_false {e : Int} {j k : Nat} (h : hasB e k j = false) : prE e j (k + 1) = prE e j k := by
  unfold prE; rw [List.range_succ, List.filter_append, List.map_append]; simp [h]
def pairsE (e : Int) : Nat → List Fr
  | 0 => []
  | j + 1 => pairsE e j ++ prE e j j
theorem prE_len (e : Int) (j k : Nat) : (prE e j k).length ≤ k := by
  unfold prE; rw [List.length_map]; exact Nat.le_trans (List.length_filter_le _ _) (by simp)
theorem pairsE_len (e : Int) : ∀ j, (pairsE e j).length ≤ j * j
  | 0 => Nat.le_refl _
  | j + 1 => by
    have h1 := pairsE_len e j
    have h2 := prE_len e j j
    have h3 : (j + 1) * (j + 1) = j * j + j + j + 1 := by rw [Nat.add_mul, Nat.mul_add]; omega
    rw [pairsE, List.length_append, h3]; omega
def lvE (N : Nat) (L : List Fr) : AV := if L = [] then .sl [] true else .ref N 2 0 L.length .full
def obE (L : List Fr) : List (Option (List AV)) := if L = [] then [] else [some (flatA (frsA L))]
theorem lvE_nil (N : Nat) : lvE N [] = .sl [] true := rfl
theorem obE_nil : obE [] = [] := rfl
theorem lvE_cons {N : Nat} {L : List Fr} (h : L ≠ []) : lvE N L = .ref N 2 0 L.length .full := if_neg h
theorem obE_cons {L : List Fr} (h : L ≠ []) : obE L = [some (flatA (frsA L))] := if_neg h
theorem frE_snoc (L : List Fr) (p q : Int) : flatA (frsA L) ++ [.int .i64 p, .int .i64 q] = flatA (frsA (L ++ [⟨p, q⟩])) := by
  rw [flatA_append]; rfl
theorem obE_inj (f : Nat → Nat) (L : List Fr) : injB f (obE L).length = true := by
  by_cases hL : L = []
  · rw [hL]; rfl
  · rw [obE_cons hL]; rfl
theorem lvE_lt (N : Nat) (L : List Fr) : AV.lt ((obE L).length + N) (lvE N L) = true := by
  by_cases hL : L = []
  · rw [hL, lvE_nil]; rfl
  · rw [obE_cons hL, lvE_cons hL]; simp
theorem lvE_lt0 (L : List Fr) : AV.lt (obE L).length (lvE 0 L) = true := lvE_lt 0 L
def pairsR (e : Int) (n : Nat) : AV × List (Option (List AV)) := (lvE 0 (pairsE e n), obE (pairsE e n))
noncomputable def sp_edges : List AV → Option (AV × List (Option (List AV))) := pf (ι := (Nat) × (Int)) (α := AV × List (Option (List AV))) (fun ⟨n, e⟩ => n ≤ 5 ∧ 0 ≤ e ∧ e ≤ 4294967295) (fun ⟨n, e⟩ => [.agg [.int .i64 n, .int .u32 e]]) (fun ⟨n, e⟩ => pairsR e n)
theorem sp_edges_eq (n : Nat) (e : Int) (h : n ≤ 5 ∧ 0 ≤ e ∧ e ≤ 4294967295) : sp_edges [.agg [.int .i64 n, .int .u32 e]] = some (pairsR e n) := by
  unfold sp_edges
  exact pf_eq (ι := (Nat) × (Int)) (α := AV × List (Option (List AV))) (n, e) h (by rintro ⟨n', e'⟩ _ e; simp_all [Int.natCast_inj])
def eoSt (n : Nat) (e : Int) (j : Nat) : St := ⟨tl [(1, .ptr 0 0), (3, lvE 1 (pairsE e j)), (8, .int .i64 n), (9, .int .i64 j)], ⟨some [.int .i64 n, .int .u32 e] :: obE (pairsE e j)⟩⟩
def eiSt (n : Nat) (e : Int) (j : Nat) (i : Nat) : St := ⟨tl [(1, .ptr 0 0), (3, lvE 1 (pairsE e j ++ prE e j i)), (4, .int .i64 j), (8, .int .i64 n), (9, .int .i64 j), (12, .int .i64 j), (13, .int .i64 i)], ⟨some [.int .i64 n, .int .u32 e] :: obE (pairsE e j ++ prE e j i)⟩⟩
theorem n_impl_Graph_edges : QN PP 82 sp_edges := by
  refine QN_pf (fun i h => ?_) fun i h => ?_
  · obtain ⟨n, e⟩ := i; first | rfl | simp
  obtain ⟨n, e⟩ := i
  replace h : n ≤ 5 ∧ 0 ≤ e ∧ e ≤ 4294967295 := h
  show T PP 82 [.agg [.int .i64 n, .int .u32 e]] .nil fun r' A' => r' = ((pairsR e n : AV × List (Option (List AV)))).1 ∧ A' = ⟨((pairsR e n : AV × List (Option (List AV)))).2⟩
  unfold pairsR
  refine H_code (Quiet.q1 q_impl_Graph_has Quiet.nil) hmix k_impl_Graph_edges rfl (fun _ => 1) (by simp [AHeap.n, AHeap.nil]) (by intro b hb; simp [AHeap.n, AHeap.nil] at hb <;> subst hb <;> rfl) (obE_inj _ _) (lvE_lt0 _) ?_
  simp -dsimp -implicitDefEqProofs [c_impl_Graph_edges, r_impl_Graph_edges]
  refine wpLoop_st (eoSt n e) (fun j => j ≤ n) (fun j => n - j) 0 (by omega) (Sub.keep (by simp [eoSt]) (by simp [hsub, eoSt, pairsE, obE_nil]) (by simp [eoSt, pairsE, lvE_nil])) ?_
  intro j hj
  simp -dsimp -implicitDefEqProofs [eoSt]
  refine brW_of (fun h => ?_) (fun h => ?_) <;> simp only [decide_eq_true_eq, decide_eq_false_iff_not] at h
  · have hwx := wrapNat (i := j) (by omega)
    have hul := pairsE_len e j
    have hjj : j * j ≤ 16 := Nat.mul_le_mul (by omega : j ≤ 4) (by omega : j ≤ 4)
    simp -dsimp -implicitDefEqProofs
    refine wpLoop_st (eiSt n e j) (fun i => i ≤ j) (fun i => j - i) 0 (by omega) (Sub.keep (by simp [eiSt, prE_zero]) (by by_cases hL : pairsE e j = [] <;> simp [hsub, eiSt, prE_zero, hL, obE_nil, obE_cons]) (by simp [eiSt, prE_zero, lvE_lt])) ?_
    intro i hi
    have hrl := prE_len e j i
    simp -dsimp -implicitDefEqProofs [eiSt]
    refine brW_of (fun h2 => ?_) (fun h2 => ?_) <;> simp only [decide_eq_true_eq, decide_eq_false_iff_not] at h2
    · have hwi := wrapNat (i := i) (by omega)
      have hb := sp_has_eq n e i j ⟨⟨by omega, by omega⟩, by unfold vx; omega⟩
      cases hv : hasB e i j with
      | true =>
        have e1 := prE_true (e := e) (j := j) (k := i) hv
        have e2 := frE_snoc (pairsE e j ++ prE e j i) i j
        have e4 : pairsE e j ++ prE e j (i + 1) = (pairsE e j ++ prE e j i) ++ [⟨(i : Int), (j : Int)⟩] := by rw [e1, List.append_assoc]
        have hLl : (pairsE e j ++ prE e j i).length ≤ 20 := by rw [List.length_append]; omega
        rw [hv] at hb
        by_cases hL : pairsE e j ++ prE e j i = []
        · rw [hL] at e4
          have l1 : 1 * 17 ≤ mostBytes := by decide
          rw [hL]
          simp -dsimp -implicitDefEqProofs [hb, hwi, lvE_nil, obE_nil, l1]
          exact .mk (i + 1) (by omega) (by omega) (Sub.mk' (fun b => if b = 1 then 2 else b) (by simp) (by intro b hb; simp at hb <;> omega) (by show injB _ (some _ :: obE (pairsE e j ++ prE e j (i + 1))).length = true; rw [e4, obE_cons (by simp)]; rfl) (by simp [hsub, eiSt, e4, obE, flatA_cons]) (by simp [eiSt, e4, lvE, obE, hwi]))
        · generalize hL2 : pairsE e j ++ prE e j (i + 1) = L2 at *
          generalize pairsE e j ++ prE e j i = L at *
          have l1 : (L.length + 1) * 17 ≤ mostBytes := by simp only [mostBytes]; omega
          have l2 : ¬ ((L.length + 1) * 2 ≤ L.length * 2) := by omega
          have l3 : (flatA (frsA L)).take (L.length * 2) = flatA (frsA L) := List.take_of_length_le (by simp)
          have e5 : L2 ≠ [] := by rw [e4]; simp
          simp -dsimp -implicitDefEqProofs [hb, hwi, l1, l2, l3, e2, lvE_cons hL, obE_cons hL]
          exact .mk (i + 1) (by omega) (by omega) (Sub.mk' (fun b => if b = 1 then 3 else b) (by simp) (by intro b hb; simp at hb <;> omega) (by show injB _ (some _ :: obE (pairsE e j ++ prE e j (i + 1))).length = true; rw [hL2, obE_cons e5]; rfl) (by simp [hsub, eiSt, hL2, e4, obE_cons]) (by simp [eiSt, hL2, e4, lvE_cons, obE_cons, hwi]))
      | false =>
        have e1 := prE_false (e := e) (j := j) (k := i) hv
        rw [hv] at hb
        simp -dsimp -implicitDefEqProofs [hb, hwi]
        exact .mk (i + 1) (by omega) (by omega) (Sub.keep (by simp [eiSt]) (by by_cases hL : pairsE e j ++ prE e j i = [] <;> simp [hsub, eiSt, e1, hL, obE_nil, obE_cons]) (by simp [eiSt, e1, hwi, lvE_lt]))
    · obtain rfl : i = j := by omega
      simp -dsimp -implicitDefEqProofs [hwx]
      exact .mk (i + 1) (by omega) (by omega) (Sub.keep (by simp [eoSt]) (by by_cases hL : pairsE e i ++ prE e i i = [] <;> simp [hsub, eoSt, pairsE, hL, obE_nil, obE_cons]) (by simp [eoSt, pairsE, hwx, lvE_lt]))
  · obtain rfl : j = n := by omega
    by_cases hL : pairsE e j = []
    · simp -dsimp -implicitDefEqProofs [hsub, hL, lvE_nil, obE_nil]
    · simp -dsimp -implicitDefEqProofs [hsub, lvE_cons hL, obE_cons hL]
def soSt (n : Nat) (e : Int) (j : Nat) : St := ⟨tl [(1, .ptr 0 0), (3, lvE 1 (pairsE e (j + 1))), (4, .int .i64 ((j : Int) + 1))], ⟨some [.int .i64 n, .int .u32 e] :: obE (pairsE e (j + 1))⟩⟩
def siSt (n : Nat) (e : Int) (j : Nat) (i : Nat) : St := ⟨tl [(1, .ptr 0 0), (3, lvE 1 (pairsE e (j + 1) ++ prE e (j + 1) i)), (4, .int .i64 ((j : Int) + 1)), (5, .int .i64 i)], ⟨some [.int .i64 n, .int .u32 e] :: obE (pairsE e (j + 1) ++ prE e (j + 1) i)⟩⟩
theorem n_spec_l01Pairs : QN PP 69 sp_edges := by
  refine QN_pf (fun i h => ?_) fun i h => ?_
  · obtain ⟨n, e⟩ := i; first | rfl | simp
  obtain ⟨n, e⟩ := i
  replace h : n ≤ 5 ∧ 0 ≤ e ∧ e ≤ 4294967295 := h
  show T PP 69 [.agg [.int .i64 n, .int .u32 e]] .nil fun r' A' => r' = ((pairsR e n : AV × List (Option (List AV)))).1 ∧ A' = ⟨((pairsR e n : AV × List (Option (List AV)))).2⟩
  unfold pairsR
  refine H_code (Quiet.q1 q_spec_l01Joined Quiet.nil) hmix k_spec_l01Pairs rfl (fun _ => 1) (by simp [AHeap.n, AHeap.nil]) (by intro b hb; simp [AHeap.n, AHeap.nil] at hb <;> subst hb <;> rfl) (obE_inj _ _) (lvE_lt0 _) ?_
  have p1 : pairsE e 1 = [] := rfl
  simp -dsimp -implicitDefEqProofs [c_spec_l01Pairs, r_spec_l01Pairs]
  refine wpLoop_st (soSt n e) (fun j => j = 0 ∨ j + 1 ≤ n) (fun j => n - j) 0 (.inl rfl) (Sub.keep (by simp [soSt]) (by simp [hsub, soSt, p1, obE_nil]) (by simp [soSt, p1, lvE_nil])) ?_
  intro j hj
  simp -dsimp -implicitDefEqProofs [soSt]
  refine brW_of (fun h => ?_) (fun h => ?_) <;> simp only [decide_eq_true_eq, decide_eq_false_iff_not] at h
  · have hwx : IntKind.wrap .i64 ((j : Int) + 1 + 1) = (j : Int) + 1 + 1 := wrapI64 (by omega) (by omega)
    have hul := pairsE_len e (j + 1)
    have hjj : (j + 1) * (j + 1) ≤ 16 := Nat.mul_le_mul (by omega : j + 1 ≤ 4) (by omega : j + 1 ≤ 4)
    simp -dsimp -implicitDefEqProofs
    refine wpLoop_st (siSt n e j) (fun i => i ≤ j + 1) (fun i => j + 1 - i) 0 (by omega) (Sub.keep (by simp [siSt, prE_zero]) (by by_cases hL : pairsE e (j + 1) = [] <;> simp [hsub, siSt, prE_zero, hL, obE_nil, obE_cons]) (by simp [siSt, prE_zero, lvE_lt])) ?_
    intro i hi
    have hrl := prE_len e (j + 1) i
    simp -dsimp -implicitDefEqProofs [siSt]
    refine brW_of (fun h2 => ?_) (fun h2 => ?_) <;> simp only [decide_eq_true_eq, decide_eq_false_iff_not] at h2
    · have hwi := wrapNat (i := i) (by omega)
      have hb := sp_l01Joined_eq n e i ((j : Int) + 1) ⟨⟨by omega, by omega⟩, ⟨by omega, by omega⟩, by omega, by omega⟩
      have hne : decide ((i : Int) ≠ (j : Int) + 1) = true := decide_eq_true (by omega)
      cases hv : hasB e i ((j + 1 : Nat) : Int) with
      | true =>
        have hv' : joinedB e i ((j : Int) + 1) = true := by unfold joinedB; rw [hne]; exact hv
        have e1 := prE_true (e := e) (j := j + 1) (k := i) hv
        have e2 := frE_snoc (pairsE e (j + 1) ++ prE e (j + 1) i) i ((j : Int) + 1)
        have e4 : pairsE e (j + 1) ++ prE e (j + 1) (i + 1) = (pairsE e (j + 1) ++ prE e (j + 1) i) ++ [⟨(i : Int), (j : Int) + 1⟩] := by rw [e1, List.append_assoc]; rfl
        have hLl : (pairsE e (j + 1) ++ prE e (j + 1) i).length ≤ 20 := by rw [List.length_append]; omega
        rw [hv'] at hb
        by_cases hL : pairsE e (j + 1) ++ prE e (j + 1) i = []
        · rw [hL] at e4
          have l1 : 1 * 17 ≤ mostBytes := by decide
          rw [hL]
          simp -dsimp -implicitDefEqProofs [hb, hwi, lvE_nil, obE_nil, l1]
          exact .mk (i + 1) (by omega) (by omega) (Sub.mk' (fun b => if b = 1 then 2 else b) (by simp) (by intro b hb; simp at hb <;> omega) (by show injB _ (some _ :: obE (pairsE e (j + 1) ++ prE e (j + 1) (i + 1))).length = true; rw [e4, obE_cons (by simp)]; rfl) (by simp [hsub, siSt, e4, obE, flatA_cons]) (by simp [siSt, e4, lvE, obE, hwi]))
        · generalize hL2 : pairsE e (j + 1) ++ prE e (j + 1) (i + 1) = L2 at *
          generalize pairsE e (j + 1) ++ prE e (j + 1) i = L at *
          have l1 : (L.length + 1) * 17 ≤ mostBytes := by simp only [mostBytes]; omega
          have l2 : ¬ ((L.length + 1) * 2 ≤ L.length * 2) := by omega
          have l3 : (flatA (frsA L)).take (L.length * 2) = flatA (frsA L) := List.take_of_length_le (by simp)
          have e5 : L2 ≠ [] := by rw [e4]; simp
          simp -dsimp -implicitDefEqProofs [hb, hwi, l1, l2, l3, e2, lvE_cons hL, obE_cons hL]
          exact .mk (i + 1) (by omega) (by omega) (Sub.mk' (fun b => if b = 1 then 3 else b) (by simp) (by intro b hb; simp at hb <;> omega) (by show injB _ (some _ :: obE (pairsE e (j + 1) ++ prE e (j + 1) (i + 1))).length = true; rw [hL2, obE_cons e5]; rfl) (by simp [hsub, siSt, hL2, e4, obE_cons]) (by simp [siSt, hL2, e4, lvE_cons, obE_cons, hwi]))
      | false =>
        have hv' : joinedB e i ((j : Int) + 1) = false := by unfold joinedB; rw [hne]; exact hv
        have e1 := prE_false (e := e) (j := j + 1) (k := i) hv
        rw [hv'] at hb
        simp -dsimp -implicitDefEqProofs [hb, hwi]
        exact .mk (i + 1) (by omega) (by omega) (Sub.keep (by simp [siSt]) (by by_cases hL : pairsE e (j + 1) ++ prE e (j + 1) i = [] <;> simp [hsub, siSt, e1, hL, obE_nil, obE_cons]) (by simp [siSt, e1, hwi, lvE_lt]))
    · obtain rfl : i = j + 1 := by omega
      have e6 : pairsE e (j + 1) ++ prE e (j + 1) (j + 1) = pairsE e (j + 1 + 1) := rfl
      rw [e6]
      simp -dsimp -implicitDefEqProofs [hwx]
      exact .mk (j + 1) (by omega) (by omega) (Sub.keep (by simp [soSt]) (by by_cases hL : pairsE e (j + 1 + 1) = [] <;> simp [hsub, soSt, hL, obE_nil, obE_cons]) (by simp [soSt, hwx, lvE_lt]))
  · have e7 : pairsE e (j + 1) = pairsE e n := by
      rcases hj with rfl | hj
      · have : n = 0 ∨ n = 1 := by omega
        rcases this with rfl | rfl <;> rfl
      · rw [show j + 1 = n by omega]
    rw [e7]
    by_cases hL : pairsE e n = []
    · simp -dsimp -implicitDefEqProofs [hsub, hL, lvE_nil, obE_nil]
    · simp -dsimp -implicitDefEqProofs [hsub, lvE_cons hL, obE_cons hL]
end Go.Proofs.YtgiakpeneckgfaaGreatDoorAi
end

section
/- Contracts: numerals, texts of fractions. -/
namespace Go.Proofs.YtgiakpeneckgfaaGreatDoorAi
open Go Go.RowKit
set_option linter.unusedVariables false
set_option linter.unusedSimpArgs false
set_option maxRecDepth 20000

@[simp] theorem ba_size (a : Array UInt8) : (ByteArray.mk a).size = a.size := rfl
/-- The numeral of a number. -/
def decB (n : Int) : ByteArray := ⟨(Go.Lib.itoa n).toArray⟩
theorem decB_small {n : Int} (h0 : 0 ≤ n) (h1 : n < 10) : decB n = ⟨[UInt8.ofNat (48 + n.toNat)].toArray⟩ := by
  unfold decB Go.Lib.itoa
  rw [if_neg (by omega), Go.Lib.decDigits, dif_pos (by omega)]
theorem decB_step {n : Int} (h : 10 ≤ n) : decB n = decB (n.tdiv 10) ++ ⟨[UInt8.ofNat (48 + (n.tmod 10).toNat)].toArray⟩ := by
  have e1 : (n.tdiv 10).toNat = n.toNat / 10 := by
    rw [Int.tdiv_eq_ediv_of_nonneg (by omega)]; omega
  have e2 : (n.tmod 10).toNat = n.toNat % 10 := by
    rw [Int.tmod_eq_emod_of_nonneg (by omega)]; omega
  unfold decB Go.Lib.itoa
  rw [if_neg (by omega), if_neg (by rw [Int.tdiv_eq_ediv_of_nonneg (by omega)]; omega), e1, e2, Go.Lib.decDigits, dif_neg (by omega)]
  apply ByteArray.ext
  simp
theorem decB_neg {n : Int} (h : n < 0) : decB n = ⟨[45].toArray⟩ ++ decB (n.natAbs : Int) := by
  unfold decB Go.Lib.itoa
  rw [if_pos h, if_neg (by omega)]
  apply ByteArray.ext
  simp
theorem nDig_le : ∀ (k u : Nat), u < 10 ^ (k + 1) → Go.Lib.nDigits u ≤ k + 1
  | 0, u, h => by rw [Go.Lib.nDigits_small (by simpa using h)]; omega
  | k + 1, u, h => by
    by_cases hu : u < 10
    · rw [Go.Lib.nDigits_small hu]; omega
    · rw [Go.Lib.nDigits_big hu]
      have := nDig_le k (u / 10) (by rw [Nat.pow_succ] at h; omega)
      omega
theorem decB_size (n : Int) (h0 : -9223372036854775808 ≤ n) (h1 : n ≤ 9223372036854775807) : (decB n).size ≤ 21 := by
  have hl : (Go.Lib.itoa n).length ≤ 21 := by
    unfold Go.Lib.itoa
    split
    · have := nDig_le 19 n.natAbs (by omega)
      rw [List.length_cons, Go.Lib.decDigits_length]; omega
    · have := nDig_le 19 n.toNat (by omega)
      rw [Go.Lib.decDigits_length]; omega
  unfold decB
  simpa [ByteArray.size] using hl

noncomputable def sp_decK (k : Nat) : List AV → Option AV := pf (ι := Int) (α := AV) (fun n => 0 ≤ n ∧ n < 10 ^ k ∧ n ≤ 9223372036854775807) (fun n => [.int .i64 n]) (fun n => .str (decB n))
theorem sp_decK_eq (k : Nat) (n : Int) (h : 0 ≤ n ∧ n < 10 ^ k ∧ n ≤ 9223372036854775807) : sp_decK k [.int .i64 n] = some (.str (decB n)) := by
  unfold sp_decK
  exact pf_eq (ι := Int) (α := AV) n h (by rintro n' _ e; simp_all)
theorem wrap_dig {d : Int} (h0 : 0 ≤ d) (h1 : d < 10) : IntKind.wrap .u8 (48 + d) = 48 + d := by
  simp [IntKind.wrap, IntKind.signed, IntKind.bits]; omega
theorem wrap_dig' {d : Int} (h0 : 0 ≤ d) (h1 : d < 10) : IntKind.wrap .i64 (48 + d) = 48 + d := by
  simp [IntKind.wrap, IntKind.signed, IntKind.bits]; omega
theorem q_decK : ∀ k, QP PP 66 (sp_decK k) := by
  intro k
  induction k with
  | zero =>
    refine QP_pf (fun n h => ?_) fun n h => ?_
    · exact ⟨by first | rfl | simp, by first | rfl | simp⟩
    replace h : 0 ≤ n ∧ n < 10 ^ 0 ∧ n ≤ 9223372036854775807 := h
    obtain rfl : n = 0 := by omega
    refine P_code Quiet.nil hmix k_spec_Decimal rfl ?_ ?_
    · first | rfl | simp
    show wpc 0 PP _ c_spec_Decimal (initSt [.int .i64 0] .nil) (endP r_spec_Decimal (.str (decB 0)))
    have w : IntKind.wrap .u8 48 = 48 := rfl
    have w' : IntKind.wrap .i64 48 = 48 := rfl
    rw [decB_small (by decide) (by decide)]
    simp -dsimp -implicitDefEqProofs [c_spec_Decimal, r_spec_Decimal, w, w']
  | succ k ih =>
    refine QP_pf (fun n h => ?_) fun n h => ?_
    · exact ⟨by first | rfl | simp, by first | rfl | simp⟩
    replace h : 0 ≤ n ∧ n < 10 ^ (k + 1) ∧ n ≤ 9223372036854775807 := h
    refine P_code (Quiet.q1 ih Quiet.nil) hmix k_spec_Decimal rfl ?_ ?_
    · first | rfl | simp
    show wpc 0 PP _ c_spec_Decimal (initSt [.int .i64 n] .nil) (endP r_spec_Decimal (.str (decB n)))
    by_cases hn : 10 ≤ n
    · have hb : decide (10 ≤ n) = true := decide_eq_true hn
      have em : 0 ≤ n.tmod 10 ∧ n.tmod 10 < 10 := by rw [Int.tmod_eq_emod_of_nonneg (by omega)]; omega
      have ed : 0 ≤ n.tdiv 10 ∧ n.tdiv 10 < 10 ^ k ∧ n.tdiv 10 ≤ 9223372036854775807 := by
        rw [Int.tdiv_eq_ediv_of_nonneg (by omega)]
        have : (10 : Int) ^ (k + 1) = 10 ^ k * 10 := Int.pow_succ ..
        omega
      have w := wrap_dig em.1 em.2
      have w' := wrap_dig' em.1 em.2
      have b1 : 0 ≤ 48 + n.tmod 10 := by omega
      have b2 : 48 + n.tmod 10 < 256 := by omega
      have b3 : (48 + n.tmod 10).toNat = 48 + (n.tmod 10).toNat := by omega
      have hc := sp_decK_eq k _ ed
      have hs := decB_size (n.tdiv 10) (by omega) (by omega)
      have wd : IntKind.wrap .i64 (n.tdiv 10) = n.tdiv 10 := by simp [IntKind.wrap, IntKind.signed, IntKind.bits]; omega
      have wm : IntKind.wrap .i64 (n.tmod 10) = n.tmod 10 := by simp [IntKind.wrap, IntKind.signed, IntKind.bits]; omega
      have hz : (decB (n.tdiv 10)).size + 1 ≤ 9223372036854775807 := by omega
      rw [decB_step hn]
      simp -dsimp -implicitDefEqProofs [c_spec_Decimal, r_spec_Decimal, hb, w, w', b1, b2, b3, hc, wd, wm, hz]
    · have hb : decide (10 ≤ n) = false := decide_eq_false hn
      have w := wrap_dig (d := n) (by omega) (by omega)
      have w' := wrap_dig' (d := n) (by omega) (by omega)
      have b1 : 0 ≤ 48 + n := by omega
      have b2 : 48 + n < 256 := by omega
      have b3 : (48 + n).toNat = 48 + n.toNat := by omega
      rw [decB_small (by omega) (by omega)]
      simp -dsimp -implicitDefEqProofs [c_spec_Decimal, r_spec_Decimal, hb, w, w', b1, b2, b3]
noncomputable def sp_decS : List AV → Option (AV) := pf (ι := (Int)) (α := AV) (fun n => 0 ≤ n ∧ n ≤ 9223372036854775807) (fun n => [.int .i64 n]) (fun n => .str (decB n))
theorem sp_decS_eq (n : Int) (h : 0 ≤ n ∧ n ≤ 9223372036854775807) : sp_decS [.int .i64 n] = some (.str (decB n)) := by
  unfold sp_decS
  exact pf_eq (ι := (Int)) (α := AV) n h (by rintro n' _ e; simp_all [Int.natCast_inj])
theorem q_spec_Decimal : QP PP 66 sp_decS := by
  intro args r e
  obtain ⟨n, h, rfl, rfl⟩ : ∃ n : Int, (0 ≤ n ∧ n ≤ 9223372036854775807) ∧ args = [.int .i64 n] ∧ r = .str (decB n) := by
    unfold sp_decS pf at e
    split at e
    · rename_i hx
      injection e with e
      refine ⟨Classical.choose hx, (Classical.choose_spec hx).1, ?_, e.symm⟩
      first | exact (Classical.choose_spec hx).2 | exact (Classical.choose_spec hx).2.symm
    · cases e
  exact q_decK 19 _ _ (sp_decK_eq 19 n ⟨h.1, by omega, h.2⟩)
end Go.Proofs.YtgiakpeneckgfaaGreatDoorAi
end

section
/- Contracts: the numeral of the program, texts of fractions. -/
namespace Go.Proofs.YtgiakpeneckgfaaGreatDoorAi
open Go Go.RowKit
set_option linter.unusedVariables false
set_option linter.unusedSimpArgs false
set_option maxRecDepth 20000

noncomputable def sp_formatI : List AV → Option (AV) := pf (ι := (Int)) (α := AV) (fun n => -9223372036854775808 ≤ n ∧ n ≤ 9223372036854775807) (fun n => [.int .i64 n, .int .i64 10]) (fun n => .str (decB n))
theorem sp_formatI_eq (n : Int) (h : -9223372036854775808 ≤ n ∧ n ≤ 9223372036854775807) : sp_formatI [.int .i64 n, .int .i64 10] = some (.str (decB n)) := by
  unfold sp_formatI
  exact pf_eq (ι := (Int)) (α := AV) n h (by rintro n' _ e; simp_all [Int.natCast_inj])
theorem below_grown' (w : World) (k : Nat) (os : Array Obj) : Below w.heap.size w (Go.Sort.grow (w.drewN k) os) :=
  ⟨rfl, rfl, rfl, by show w.heap.size ≤ (w.heap ++ os).size; rw [Array.size_append]; omega, fun j hj => by show (w.heap ++ os)[j]? = _; rw [Array.getElem?_append_left hj]⟩
theorem q_internal_strconv_FormatInt : QP PP 125 sp_formatI := by
  refine QP_pf (fun n h => ?_) fun n h => ?_
  · exact ⟨by first | rfl | simp, by first | rfl | simp⟩
  replace h : -9223372036854775808 ≤ n ∧ n ≤ 9223372036854775807 := h
  refine T.lib ⟨_, Tryz.func125, by kernel_rfl, by kernel_rfl⟩ (fun σ w vs hr hG => ?_) .nil
  obtain ⟨v1, us, rfl, h1, h2⟩ := hr.head
  obtain ⟨v2, us2, rfl, h3, h4⟩ := h2.head
  obtain rfl : us2 = [] := List.eq_nil_of_length_eq_zero h4.1.symm
  cases h1; cases h3
  refine (Tryz.internal_strconv_FormatInt_10 n h.1 h.2 w (hG.tab (by kernel_rfl))).mono ?_
  rintro e w' ⟨rfl, k, os, rfl⟩
  exact ⟨_, rfl, below_grown' w k os, .str _⟩
theorem q_strconv_FormatInt : QP PP 105 sp_formatI := by
  refine QP_pf (fun n h => ?_) fun n h => ?_
  · exact ⟨by first | rfl | simp, by first | rfl | simp⟩
  replace h : -9223372036854775808 ≤ n ∧ n ≤ 9223372036854775807 := h
  refine P_code (Quiet.q1 q_internal_strconv_FormatInt Quiet.nil) hmix k_strconv_FormatInt rfl ?_ ?_
  · first | rfl | simp
  show wpc 0 PP _ c_strconv_FormatInt (initSt [.int .i64 n, .int .i64 10] .nil) (endP r_strconv_FormatInt (.str (decB n)))
  simp -dsimp -implicitDefEqProofs [c_strconv_FormatInt, r_strconv_FormatInt, sp_formatI_eq n h]
noncomputable def sp_decimal : List AV → Option (AV) := pf (ι := (Int)) (α := AV) (fun n => -9223372036854775808 ≤ n ∧ n ≤ 9223372036854775807) (fun n => [.int .i64 n]) (fun n => .str (decB n))
theorem sp_decimal_eq (n : Int) (h : -9223372036854775808 ≤ n ∧ n ≤ 9223372036854775807) : sp_decimal [.int .i64 n] = some (.str (decB n)) := by
  unfold sp_decimal
  exact pf_eq (ι := (Int)) (α := AV) n h (by rintro n' _ e; simp_all [Int.natCast_inj])
theorem q_impl_decimal : QP PP 76 sp_decimal := by
  refine QP_pf (fun n h => ?_) fun n h => ?_
  · exact ⟨by first | rfl | simp, by first | rfl | simp⟩
  replace h : -9223372036854775808 ≤ n ∧ n ≤ 9223372036854775807 := h
  refine P_code (Quiet.q1 q_strconv_FormatInt Quiet.nil) hmix k_impl_decimal rfl ?_ ?_
  · first | rfl | simp
  show wpc 0 PP _ c_impl_decimal (initSt [.int .i64 n] .nil) (endP r_impl_decimal (.str (decB n)))
  simp -dsimp -implicitDefEqProofs [c_impl_decimal, r_impl_decimal, sp_formatI_eq n h]

def slashB : ByteArray := ⟨#[47]⟩
def noB : ByteArray := ⟨#[]⟩
def frT (p q : Int) : ByteArray := if q = 1 then decB p else decB p ++ slashB ++ decB q
noncomputable def sp_frText : List AV → Option (AV) := pf (ι := (Int) × (Int)) (α := AV) (fun ⟨p, q⟩ => (-9223372036854775808 ≤ p ∧ p ≤ 9223372036854775807) ∧ (-9223372036854775808 ≤ q ∧ q ≤ 9223372036854775807)) (fun ⟨p, q⟩ => [.agg [.int .i64 p, .int .i64 q]]) (fun ⟨p, q⟩ => .str (frT p q))
theorem sp_frText_eq (p q : Int) (h : (-9223372036854775808 ≤ p ∧ p ≤ 9223372036854775807) ∧ (-9223372036854775808 ≤ q ∧ q ≤ 9223372036854775807)) : sp_frText [.agg [.int .i64 p, .int .i64 q]] = some (.str (frT p q)) := by
  unfold sp_frText
  exact pf_eq (ι := (Int) × (Int)) (α := AV) (p, q) h (by rintro ⟨p', q'⟩ _ e; simp_all [Int.natCast_inj])
theorem q_impl_Fraction_text : QP PP 46 sp_frText := by
  refine QP_pf (fun i h => ?_) fun i h => ?_
  · obtain ⟨p, q⟩ := i; exact ⟨by first | rfl | simp, by first | rfl | simp⟩
  obtain ⟨p, q⟩ := i
  replace h : (-9223372036854775808 ≤ p ∧ p ≤ 9223372036854775807) ∧ (-9223372036854775808 ≤ q ∧ q ≤ 9223372036854775807) := h
  refine P_code (Quiet.q1 q_impl_decimal Quiet.nil) hmix k_impl_Fraction_text rfl ?_ ?_
  · first | rfl | simp
  show wpc 0 PP _ c_impl_Fraction_text (initSt [.agg [.int .i64 p, .int .i64 q]] .nil) (endP r_impl_Fraction_text (.str (frT p q)))
  have hp := sp_decimal_eq p h.1
  have hq := sp_decimal_eq q h.2
  have sp := decB_size p h.1.1 h.1.2
  have sq := decB_size q h.2.1 h.2.2
  by_cases hone : q = 1
  · subst hone
    simp -dsimp -implicitDefEqProofs [c_impl_Fraction_text, r_impl_Fraction_text, hp, frT]
  · have hb : (q == 1) = false := by simpa using hone
    have s1 : (decB p).size + 1 ≤ 9223372036854775807 := by omega
    have s2 : (decB p).size + 1 + (decB q).size ≤ 9223372036854775807 := by omega
    simp -dsimp -implicitDefEqProofs [c_impl_Fraction_text, r_impl_Fraction_text, hp, hq, hb, s1, s2, frT, hone, slashB]
end Go.Proofs.YtgiakpeneckgfaaGreatDoorAi
end

section
/- Contracts and law: FractionText. -/
namespace Go.Proofs.YtgiakpeneckgfaaGreatDoorAi
open Go Go.RowKit
set_option linter.unusedVariables false
set_option linter.unusedSimpArgs false
set_option maxRecDepth 20000

theorem frOk_bd {p q : Int} (h : frOk p q = true) : (-1000000000 ≤ p ∧ p ≤ 1000000000) ∧ (1 ≤ q ∧ q ≤ 1000000000) := by
  unfold frOk at h
  have := of_decide_eq_true h
  exact ⟨this.1, this.2.1⟩
def fracT (p q : Int) : ByteArray := if frOk p q = true then frT p q else noB
noncomputable def sp_fracText : List AV → Option (AV) := pf (ι := (Int) × (Int)) (α := AV) (fun ⟨p, q⟩ => True) (fun ⟨p, q⟩ => [.agg [.int .i64 p, .int .i64 q]]) (fun ⟨p, q⟩ => .str (fracT p q))
theorem sp_fracText_eq (p q : Int) : sp_fracText [.agg [.int .i64 p, .int .i64 q]] = some (.str (fracT p q)) := by
  unfold sp_fracText
  exact pf_eq (ι := (Int) × (Int)) (α := AV) (p, q) trivial (by rintro ⟨p', q'⟩ _ e; simp_all [Int.natCast_inj])
attribute [simp] sp_fracText_eq
theorem q_spec_FractionText : QP PP 34 sp_fracText := by
  refine QP_pf (fun i h => ?_) fun i h => ?_
  · obtain ⟨p, q⟩ := i; exact ⟨by first | rfl | simp, by first | rfl | simp⟩
  obtain ⟨p, q⟩ := i
  replace h : True := h
  refine P_code (Quiet.q1 q_spec_l02Ok (Quiet.q1 q_spec_l02Abs (Quiet.q1 q_spec_Decimal Quiet.nil))) hmix k_spec_FractionText rfl ?_ ?_
  · first | rfl | simp
  show wpc 0 PP _ c_spec_FractionText (initSt [.agg [.int .i64 p, .int .i64 q]] .nil) (endP r_spec_FractionText (.str (fracT p q)))
  cases hf : frOk p q with
  | false => simp -dsimp -implicitDefEqProofs [c_spec_FractionText, r_spec_FractionText, hf, fracT, noB]
  | true =>
    have hb := frOk_bd hf
    have ha := sp_size_eq p (by omega)
    have hd := sp_decS_eq p.natAbs (by omega)
    have hd2 := sp_decS_eq q (by omega)
    have s0 := decB_size p.natAbs (by omega) (by omega)
    have s2 := decB_size q (by omega) (by omega)
    have z1 : 1 + (decB p.natAbs).size ≤ 9223372036854775807 := by omega
    have z2 : 1 + (decB q).size ≤ 9223372036854775807 := by omega
    have z3 : (decB p.natAbs).size + (1 + (decB q).size) ≤ 9223372036854775807 := by omega
    have z4 : 1 + (decB p.natAbs).size + (1 + (decB q).size) ≤ 9223372036854775807 := by omega
    by_cases hp : p < 0
    · by_cases hq : q = 1
      · subst hq
        simp -dsimp -implicitDefEqProofs [c_spec_FractionText, r_spec_FractionText, hf, fracT, frT, ha, hd, hp, decB_neg hp, z1]
      · have hqb : (q != 1) = true := by simpa using hq
        simp -dsimp -implicitDefEqProofs [c_spec_FractionText, r_spec_FractionText, hf, fracT, frT, ha, hd, hd2, hp, hq, hqb, decB_neg hp, z1, z2, z4, slashB, ByteArray.append_assoc]
    · have e0 : ((p.natAbs : Nat) : Int) = p := by omega
      rw [e0] at hd s0 z1 z3 z4 ha
      by_cases hq : q = 1
      · subst hq
        simp -dsimp -implicitDefEqProofs [c_spec_FractionText, r_spec_FractionText, hf, fracT, frT, ha, hd, hp, z1]
      · have hqb : (q != 1) = true := by simpa using hq
        simp -dsimp -implicitDefEqProofs [c_spec_FractionText, r_spec_FractionText, hf, fracT, frT, ha, hd, hd2, hp, hq, hqb, z1, z2, z3, slashB, ByteArray.append_assoc]
theorem beq_ba (a : ByteArray) : (a == a) = true := by show (a.data == a.data) = true; simp
end Go.Proofs.YtgiakpeneckgfaaGreatDoorAi
end

section
/- Contracts and laws: GraphText, FlagText. -/
namespace Go.Proofs.YtgiakpeneckgfaaGreatDoorAi
open Go Go.RowKit
set_option linter.unusedVariables false
set_option linter.unusedSimpArgs false
set_option maxRecDepth 20000

theorem getF0 (l : List Fr) (i : Nat) (h : i < l.length) (h2 : i * 2 < (flatA (frsA l)).length) : (flatA (frsA l))[i * 2] = .int .i64 l[i].p := by
  have := get_fr0 l i h
  rw [List.getElem?_eq_getElem h2] at this
  exact Option.some.inj this
theorem getF1 (l : List Fr) (i : Nat) (h : i < l.length) (h2 : i * 2 + 1 < (flatA (frsA l)).length) : (flatA (frsA l))[i * 2 + 1] = .int .i64 l[i].q := by
  have := get_fr1 l i h
  rw [List.getElem?_eq_getElem h2] at this
  exact Option.some.inj this
def sepB : ByteArray := ⟨#[32]⟩
def dashB : ByteArray := ⟨#[45]⟩
def graphB : ByteArray := ⟨#[103, 114, 97, 112, 104, 32]⟩
def edgeT (p q : Int) : ByteArray := sepB ++ decB p ++ dashB ++ decB q
def edT (w : ByteArray) (L : List Fr) : ByteArray := L.foldl (fun w x => w ++ edgeT x.p x.q) w
theorem edT_snoc (w : ByteArray) (L : List Fr) (i : Nat) (h : i < L.length) : edT w (L.take (i + 1)) = edT w (L.take i) ++ edgeT L[i].p L[i].q := by
  rw [take_snoc L i h]; unfold edT; rw [List.foldl_append]; rfl
theorem edgeT_size {p q : Int} (hp : -9223372036854775808 ≤ p ∧ p ≤ 9223372036854775807) (hq : -9223372036854775808 ≤ q ∧ q ≤ 9223372036854775807) : (edgeT p q).size ≤ 44 := by
  have h1 := decB_size p hp.1 hp.2
  have h2 := decB_size q hq.1 hq.2
  have h3 : sepB.size = 1 := rfl
  have h4 : dashB.size = 1 := rfl
  unfold edgeT
  simp only [ByteArray.size_append]
  omega
theorem edT_size (w : ByteArray) (L : List Fr) (hL : ∀ x ∈ L, (0 ≤ x.p ∧ x.p < 5) ∧ (0 ≤ x.q ∧ x.q < 5)) : (edT w L).size ≤ w.size + L.length * 44 := by
  induction L generalizing w with
  | nil => simp [edT]
  | cons x L ih =>
    have hx := hL x (List.mem_cons_self ..)
    have h1 := ih (w ++ edgeT x.p x.q) fun y hy => hL y (List.mem_cons_of_mem _ hy)
    have h2 := edgeT_size (p := x.p) (q := x.q) (by omega) (by omega)
    show (edT (w ++ edgeT x.p x.q) L).size ≤ _
    rw [ByteArray.size_append] at h1
    rw [List.length_cons]
    omega
theorem prE_in {e : Int} {j k : Nat} (hj : j < 5) (hk : k ≤ 5) : ∀ x ∈ prE e j k, (0 ≤ x.p ∧ x.p < 5) ∧ (0 ≤ x.q ∧ x.q < 5) := by
  intro x hx
  unfold prE at hx
  obtain ⟨i, hi, rfl⟩ := List.mem_map.1 hx
  have := List.mem_range.1 (List.mem_filter.1 hi).1
  simp only
  omega
theorem pairsE_in (e : Int) : ∀ (j : Nat), j ≤ 5 → ∀ x ∈ pairsE e j, (0 ≤ x.p ∧ x.p < 5) ∧ (0 ≤ x.q ∧ x.q < 5)
  | 0, _ => by intro x hx; cases hx
  | j + 1, hj => by
    intro x hx
    rw [pairsE] at hx
    rcases List.mem_append.1 hx with hx | hx
    · exact pairsE_in e j (by omega) x hx
    · exact prE_in (by omega) (by omega) x hx
def grT (e : Int) (n : Nat) : ByteArray := edT (graphB ++ decB n) (pairsE e n)
theorem grT_len {e : Int} {n : Nat} (h : n ≤ 5) : (pairsE e n).length ≤ 25 := Nat.le_trans (pairsE_len e n) (Nat.mul_le_mul h h)
theorem edT_take {e : Int} {n : Nat} (h : n ≤ 5) (i : Nat) : (edT (graphB ++ decB n) ((pairsE e n).take i)).size ≤ 1200 := by
  have h1 := edT_size (graphB ++ decB n) ((pairsE e n).take i) fun x hx => pairsE_in e n h x (List.mem_of_mem_take hx)
  have h2 := grT_len (e := e) h
  have h3 : ((pairsE e n).take i).length ≤ (pairsE e n).length := by rw [List.length_take]; omega
  have h4 := decB_size n (by omega) (by omega)
  have h5 : graphB.size = 6 := rfl
  rw [ByteArray.size_append] at h1
  omega
noncomputable def sp_graphTx : List AV → Option (AV) := pf (ι := (Nat) × (Int)) (α := AV) (fun ⟨n, e⟩ => n ≤ 5 ∧ 0 ≤ e ∧ e ≤ 4294967295) (fun ⟨n, e⟩ => [.agg [.int .i64 n, .int .u32 e]]) (fun ⟨n, e⟩ => .str (grT e n))
theorem sp_graphTx_eq (n : Nat) (e : Int) (h : n ≤ 5 ∧ 0 ≤ e ∧ e ≤ 4294967295) : sp_graphTx [.agg [.int .i64 n, .int .u32 e]] = some (.str (grT e n)) := by
  unfold sp_graphTx
  exact pf_eq (ι := (Nat) × (Int)) (α := AV) (n, e) h (by rintro ⟨n', e'⟩ _ e; simp_all [Int.natCast_inj])
theorem q_impl_Graph_text : QP PP 54 sp_graphTx := by
  refine QP_pf (fun i h => ?_) fun i h => ?_
  · obtain ⟨n, e⟩ := i; exact ⟨by first | rfl | simp, by first | rfl | simp⟩
  obtain ⟨n, e⟩ := i
  replace h : n ≤ 5 ∧ 0 ≤ e ∧ e ≤ 4294967295 := h
  refine P_code (Quiet.q1 q_impl_decimal (Quiet.e1 n_impl_Graph_edges.toE Quiet.nil)) hmix k_impl_Graph_text rfl ?_ ?_
  · first | rfl | simp
  show wpc 0 PP _ c_impl_Graph_text (initSt [.agg [.int .i64 n, .int .u32 e]] .nil) (endP r_impl_Graph_text (.str (grT e n)))
  have hd := sp_decimal_eq n (by omega)
  have hs := decB_size n (by omega) (by omega)
  have he := sp_edges_eq n e h
  have z0 : 6 + (decB n).size ≤ 9223372036854775807 := by omega
  have hin := pairsE_in e n h.1
  have hlen := grT_len (e := e) h.1
  unfold pairsR at he
  unfold grT
  by_cases hL : pairsE e n = []
  · rw [hL, lvE_nil, obE_nil] at he
    rw [hL]
    simp -dsimp -implicitDefEqProofs [c_impl_Graph_text, r_impl_Graph_text, hd, he, z0]
    refine wpLoop_st (fun (_ : Unit) => ⟨tl [(3, .str (graphB ++ decB n)), (11, .sl [] true), (12, .int .i64 0), (13, .int .i64 0)], ⟨[]⟩⟩) (fun _ => True) (fun _ => 0) () trivial (Sub.keep (by simp) (by simp [hsub]) (by simp [graphB])) ?_
    intro i hi
    simp -dsimp -implicitDefEqProofs [edT]
  · have ht := fun i => edT_take (e := e) h.1 i
    generalize pairsE e n = L at *
    rw [lvE_cons hL, obE_cons hL] at he
    simp -dsimp -implicitDefEqProofs [c_impl_Graph_text, r_impl_Graph_text, hd, he, z0]
    refine wpLoop_st (fun (i : Nat) => ⟨tl [(3, .str (edT (graphB ++ decB n) (L.take i))), (11, .ref 1 2 0 L.length .full), (12, .int .i64 L.length), (13, .int .i64 i)], ⟨[some [.int .i64 n, .int .u32 e], some (flatA (frsA L))]⟩⟩) (fun i => i ≤ L.length) (fun i => L.length - i) 0 (by omega) (Sub.keep (by simp) (by simp [hsub]) (by simp [graphB, edT])) ?_
    intro i hi
    simp -dsimp -implicitDefEqProofs
    refine brW_of (fun h2 => ?_) (fun h2 => ?_) <;> simp only [decide_eq_true_eq, decide_eq_false_iff_not] at h2
    · have hx : i < L.length := by omega
      have hwi := wrapNat (i := i) (by omega)
      have hm := hin L[i] (List.getElem_mem hx)
      have hp := sp_decimal_eq L[i].p (by omega)
      have hq := sp_decimal_eq L[i].q (by omega)
      have hes := edT_snoc (graphB ++ decB n) L i hx
      have ht1 := ht i
      have q0 := get_fr0 L i hx
      have q1 := get_fr1 L i hx
      have g0 := getF0 L i hx (by simp; omega)
      have g1 := getF1 L i hx (by simp; omega)
      have sp := decB_size L[i].p (by omega) (by omega)
      have sq := decB_size L[i].q (by omega) (by omega)
      have z1 : 1 + (decB L[i].p).size ≤ 9223372036854775807 := by omega
      have z2 : 1 + (decB L[i].p).size + 1 ≤ 9223372036854775807 := by omega
      have z3 : 1 + (decB L[i].p).size + 1 + (decB L[i].q).size ≤ 9223372036854775807 := by omega
      have z4 : (edT (graphB ++ decB n) (L.take i)).size + (1 + (decB L[i].p).size + 1 + (decB L[i].q).size) ≤ 9223372036854775807 := by omega
      simp -dsimp -implicitDefEqProofs [hx, hp, hq, hwi, g0, g1, q0, q1, z1, z2, z3, z4]
      exact .mk (i + 1) (by omega) (by omega) (Sub.keep (by simp) (by simp [hsub]) (by simp [hes, edgeT, sepB, dashB, hwi]))
    · obtain rfl : i = L.length := by omega
      simp -dsimp -implicitDefEqProofs
theorem graphOk_in {n e : Int} (h : graphOk n e = true) : 0 ≤ n ∧ n ≤ 5 := by
  unfold graphOk at h
  exact (of_decide_eq_true h).1
def graphT (n e : Int) : ByteArray := if graphOk n e = true then grT e n.toNat else noB
noncomputable def sp_graphText : List AV → Option (AV) := pf (ι := (Int) × (Int)) (α := AV) (fun ⟨n, e⟩ => 0 ≤ e ∧ e ≤ 4294967295) (fun ⟨n, e⟩ => [.agg [.int .i64 n, .int .u32 e]]) (fun ⟨n, e⟩ => .str (graphT n e))
theorem sp_graphText_eq (n e : Int) (h : 0 ≤ e ∧ e ≤ 4294967295) : sp_graphText [.agg [.int .i64 n, .int .u32 e]] = some (.str (graphT n e)) := by
  unfold sp_graphText
  exact pf_eq (ι := (Int) × (Int)) (α := AV) (n, e) h (by rintro ⟨n', e'⟩ _ e; simp_all [Int.natCast_inj])
theorem q_spec_GraphText : QP PP 38 sp_graphText := by
  refine QP_pf (fun i h => ?_) fun i h => ?_
  · obtain ⟨n, e⟩ := i; exact ⟨by first | rfl | simp, by first | rfl | simp⟩
  obtain ⟨n, e⟩ := i
  replace h : 0 ≤ e ∧ e ≤ 4294967295 := h
  refine P_code (Quiet.q1 q_spec_l01Ok (Quiet.q1 q_spec_Decimal (Quiet.e1 n_spec_l01Pairs.toE Quiet.nil))) hmix k_spec_GraphText rfl ?_ ?_
  · first | rfl | simp
  show wpc 0 PP _ c_spec_GraphText (initSt [.agg [.int .i64 n, .int .u32 e]] .nil) (endP r_spec_GraphText (.str (graphT n e)))
  have ho := sp_graphOk_eq n e h
  cases hf : graphOk n e with
  | false =>
    rw [hf] at ho
    simp -dsimp -implicitDefEqProofs [c_spec_GraphText, r_spec_GraphText, ho, hf, graphT, noB]
  | true =>
    rw [hf] at ho
    have hn := graphOk_in hf
    obtain ⟨m, rfl⟩ := Int.eq_ofNat_of_zero_le hn.1
    have hm5 : m ≤ 5 := by omega
    have hd := sp_decS_eq m (by omega)
    have hs := decB_size m (by omega) (by omega)
    have he := sp_edges_eq m e ⟨hm5, h⟩
    have z0 : 6 + (decB m).size ≤ 9223372036854775807 := by omega
    have hin := pairsE_in e m hm5
    have hlen := grT_len (e := e) hm5
    unfold pairsR at he
    unfold graphT
    rw [if_pos hf, Int.toNat_natCast]
    unfold grT
    by_cases hL : pairsE e m = []
    · rw [hL, lvE_nil, obE_nil] at he
      rw [hL]
      simp -dsimp -implicitDefEqProofs [c_spec_GraphText, r_spec_GraphText, ho, hd, he, z0]
      refine wpLoop_st (fun (_ : Unit) => ⟨tl [(3, .str (graphB ++ decB m)), (4, .sl [] true), (5, .int .i64 0)], ⟨[]⟩⟩) (fun _ => True) (fun _ => 0) () trivial (Sub.keep (by simp) (by simp [hsub]) (by simp [graphB])) ?_
      intro i hi
      simp -dsimp -implicitDefEqProofs [edT]
    · have ht := fun i => edT_take (e := e) hm5 i
      generalize pairsE e m = L at *
      rw [lvE_cons hL, obE_cons hL] at he
      simp -dsimp -implicitDefEqProofs [c_spec_GraphText, r_spec_GraphText, ho, hd, he, z0]
      refine wpLoop_st (fun (i : Nat) => ⟨tl [(3, .str (edT (graphB ++ decB m) (L.take i))), (4, .ref 1 2 0 L.length .full), (5, .int .i64 i)], ⟨[some [.int .i64 m, .int .u32 e], some (flatA (frsA L))]⟩⟩) (fun i => i ≤ L.length) (fun i => L.length - i) 0 (by omega) (Sub.keep (by simp) (by simp [hsub]) (by simp [graphB, edT])) ?_
      intro i hi
      simp -dsimp -implicitDefEqProofs
      refine brW_of (fun h2 => ?_) (fun h2 => ?_) <;> simp only [decide_eq_true_eq, decide_eq_false_iff_not] at h2
      · have hx : i < L.length := by omega
        have hwi := wrapNat (i := i) (by omega)
        have hmm := hin L[i] (List.getElem_mem hx)
        have hp := sp_decS_eq L[i].p (by omega)
        have hq := sp_decS_eq L[i].q (by omega)
        have hes := edT_snoc (graphB ++ decB m) L i hx
        have ht1 := ht i
        have q0 := get_fr0 L i hx
        have q1 := get_fr1 L i hx
        have g0 := getF0 L i hx (by simp; omega)
        have g1 := getF1 L i hx (by simp; omega)
        have sp := decB_size L[i].p (by omega) (by omega)
        have sq := decB_size L[i].q (by omega) (by omega)
        have z1 : 1 + (decB L[i].p).size ≤ 9223372036854775807 := by omega
        have z2 : 1 + (decB L[i].p).size + 1 ≤ 9223372036854775807 := by omega
        have z3 : 1 + (decB L[i].p).size + 1 + (decB L[i].q).size ≤ 9223372036854775807 := by omega
        have z4 : (edT (graphB ++ decB m) (L.take i)).size + (1 + (decB L[i].p).size + 1 + (decB L[i].q).size) ≤ 9223372036854775807 := by omega
        simp -dsimp -implicitDefEqProofs [hx, hp, hq, hwi, g0, g1, q0, q1, z1, z2, z3, z4]
        exact .mk (i + 1) (by omega) (by omega) (Sub.keep (by simp) (by simp [hsub]) (by simp [hes, edgeT, sepB, dashB, hwi]))
      · obtain rfl : i = L.length := by omega
        simp -dsimp -implicitDefEqProofs
end Go.Proofs.YtgiakpeneckgfaaGreatDoorAi
end

section
/- Contracts and law: FlagText. -/
namespace Go.Proofs.YtgiakpeneckgfaaGreatDoorAi
open Go Go.RowKit
set_option linter.unusedVariables false
set_option linter.unusedSimpArgs false
set_option maxRecDepth 20000

def flagOk (k n e : Int) : Bool := graphOk n e && (decide (0 ≤ k) && decide (k ≤ 3)) && decide (k ≤ n)
noncomputable def sp_flagOk : List AV → Option (AV) := pf (ι := (Int) × (Int) × (Int)) (α := AV) (fun ⟨k, n, e⟩ => 0 ≤ e ∧ e ≤ 4294967295) (fun ⟨k, n, e⟩ => [.agg [.int .i64 k, .int .i64 n, .int .u32 e]]) (fun ⟨k, n, e⟩ => .bool (flagOk k n e))
theorem sp_flagOk_eq (k n e : Int) (h : 0 ≤ e ∧ e ≤ 4294967295) : sp_flagOk [.agg [.int .i64 k, .int .i64 n, .int .u32 e]] = some (.bool (flagOk k n e)) := by
  unfold sp_flagOk
  exact pf_eq (ι := (Int) × (Int) × (Int)) (α := AV) (k, n, e) h (by rintro ⟨k', n', e'⟩ _ e; simp_all [Int.natCast_inj])
theorem q_spec_l03Ok : QP PP 71 sp_flagOk := by
  refine QP_pf (fun i h => ?_) fun i h => ?_
  · obtain ⟨k, n, e⟩ := i; exact ⟨by first | rfl | simp, by first | rfl | simp⟩
  obtain ⟨k, n, e⟩ := i
  replace h : 0 ≤ e ∧ e ≤ 4294967295 := h
  refine P_code (Quiet.q1 q_spec_l01Ok (Quiet.q1 q_spec_l00In Quiet.nil)) hmix k_spec_l03Ok rfl ?_ ?_
  · first | rfl | simp
  show wpc 0 PP _ c_spec_l03Ok (initSt [.agg [.int .i64 k, .int .i64 n, .int .u32 e]] .nil) (endP r_spec_l03Ok (.bool (flagOk k n e)))
  have ho := sp_graphOk_eq n e h
  unfold flagOk
  cases hf : graphOk n e <;> cases h1 : decide (0 ≤ k) <;> cases h2 : decide (k ≤ 3) <;> rw [hf] at ho <;> simp -dsimp -implicitDefEqProofs [c_spec_l03Ok, r_spec_l03Ok, ho, h1, h2]
theorem q_impl_ValidFlag : QP PP 86 sp_flagOk := by
  refine QP_pf (fun i h => ?_) fun i h => ?_
  · obtain ⟨k, n, e⟩ := i; exact ⟨by first | rfl | simp, by first | rfl | simp⟩
  obtain ⟨k, n, e⟩ := i
  replace h : 0 ≤ e ∧ e ≤ 4294967295 := h
  refine P_code (Quiet.q1 q_impl_ValidGraph (Quiet.q1 q_impl_in Quiet.nil)) hmix k_impl_ValidFlag rfl ?_ ?_
  · first | rfl | simp
  show wpc 0 PP _ c_impl_ValidFlag (initSt [.agg [.int .i64 k, .int .i64 n, .int .u32 e]] .nil) (endP r_impl_ValidFlag (.bool (flagOk k n e)))
  have ho := sp_graphOk_eq n e h
  unfold flagOk
  cases hf : graphOk n e <;> cases h1 : decide (0 ≤ k) <;> cases h2 : decide (k ≤ 3) <;> rw [hf] at ho <;> simp -dsimp -implicitDefEqProofs [c_impl_ValidFlag, r_impl_ValidFlag, ho, h1, h2]
theorem grT_size {e : Int} {n : Nat} (h : n ≤ 5) : (grT e n).size ≤ 1200 := by
  have := edT_take (e := e) h (pairsE e n).length
  rw [List.take_length] at this
  exact this
theorem flagOk_in {k n e : Int} (h : flagOk k n e = true) : graphOk n e = true ∧ (0 ≤ k ∧ k ≤ 3) ∧ (0 ≤ n ∧ n ≤ 5) := by
  unfold flagOk at h
  simp only [Bool.and_eq_true, decide_eq_true_eq] at h
  exact ⟨h.1.1, h.1.2, graphOk_in h.1.1⟩
noncomputable def sp_toFlag : List AV → Option (AV) := pf (ι := (Int) × (Int) × (Int)) (α := AV) (fun ⟨k, n, e⟩ => True) (fun ⟨k, n, e⟩ => [.agg [.int .i64 k, .int .i64 n, .int .u32 e]]) (fun ⟨k, n, e⟩ => .agg [.int .i64 k, .int .i64 n, .int .u32 e])
theorem sp_toFlag_eq (k n e : Int) : sp_toFlag [.agg [.int .i64 k, .int .i64 n, .int .u32 e]] = some (.agg [.int .i64 k, .int .i64 n, .int .u32 e]) := by
  unfold sp_toFlag
  exact pf_eq (ι := (Int) × (Int) × (Int)) (α := AV) (k, n, e) trivial (by rintro ⟨k', n', e'⟩ _ e; simp_all [Int.natCast_inj])
attribute [simp] sp_toFlag_eq
end Go.Proofs.YtgiakpeneckgfaaGreatDoorAi
end

section
/- MADE BY PROGRAM (wip/tools/gen.py): the abstract code of functions. -/
namespace Go.Proofs.YtgiakpeneckgfaaGreatDoorAi
open Go AC AOp Opd
set_option linter.unusedVariables false
set_option maxRecDepth 100000
def c_impl_spanOk : AC := seq (reg [⟨(some 2), box 2 (t 0), none⟩, ⟨(some 4), mv (c (.bool false)), none⟩]) (seq (reg [⟨(some 5), fad (t 2) 0, none⟩, ⟨(some 6), ld (t 5) 1 false, none⟩, ⟨(some 7), bin .leq (t 6) (c (.int .i64 3)), none⟩, ⟨(some 8), mv (t 7), none⟩, ⟨(some 9), mv (t 1), some (8, true)⟩, ⟨(some 10), fad (t 2) 0, some (8, true)⟩, ⟨(some 11), ld (t 10) 1 false, some (8, true)⟩, ⟨(some 12), callq (c (.fn 80 [])) [t 9, t 11, c (.int .i64 5)], some (8, true)⟩, ⟨(some 13), pick (t 8) (t 12) (c (.bool false)), none⟩, ⟨(some 4), mv (t 13), none⟩]) (ret))
def r_impl_spanOk : List ARes := [.tmp 4]
theorem k_impl_spanOk : acLin Go.Proofs.Tryz.prog 85 2 (inQ [80] []) [] = some (c_impl_spanOk, r_impl_spanOk) := by kernel_rfl
def c_spec_l05Frame : AC := seq (reg [⟨(some 2), box 2 (t 0), none⟩, ⟨(some 4), mv (c (.bool false)), none⟩]) (seq (reg [⟨(some 5), fad (t 2) 0, none⟩, ⟨(some 6), ld (t 5) 1 false, none⟩, ⟨(some 7), bin .leq (t 6) (c (.int .i64 3)), none⟩, ⟨(some 8), mv (t 7), none⟩, ⟨(some 9), mv (t 1), some (8, true)⟩, ⟨(some 10), fad (t 2) 0, some (8, true)⟩, ⟨(some 11), ld (t 10) 1 false, some (8, true)⟩, ⟨(some 12), callq (c (.fn 63 [])) [t 9, t 11, c (.int .i64 5)], some (8, true)⟩, ⟨(some 13), pick (t 8) (t 12) (c (.bool false)), none⟩, ⟨(some 4), mv (t 13), none⟩]) (ret))
def r_spec_l05Frame : List ARes := [.tmp 4]
theorem k_spec_l05Frame : acLin Go.Proofs.Tryz.prog 70 2 (inQ [63] []) [] = some (c_spec_l05Frame, r_spec_l05Frame) := by kernel_rfl
def c_cmp_isNaN_uint32 : AC := seq (reg [⟨(some 2), mv (c (.bool false)), none⟩]) (seq (reg [⟨(some 3), mv (t 0), none⟩, ⟨(some 4), mv (t 0), none⟩, ⟨(some 5), bin .neq (t 3) (t 4), none⟩, ⟨(some 2), mv (t 5), none⟩]) (ret))
def r_cmp_isNaN_uint32 : List ARes := [.tmp 2]
theorem k_cmp_isNaN_uint32 : acLin Go.Proofs.Tryz.prog 133 1 (inQ [] []) [] = some (c_cmp_isNaN_uint32, r_cmp_isNaN_uint32) := by kernel_rfl
def c_cmp_Compare_uint32 : AC := seq (reg [⟨(some 4), mv (c (.int .i64 0)), none⟩]) (seq (reg [⟨(some 7), mv (t 0), none⟩, ⟨(some 8), callq (c (.fn 133 [])) [t 7], none⟩, ⟨(some 5), mv (t 8), none⟩]) (seq (reg [⟨(some 9), mv (t 1), none⟩, ⟨(some 10), callq (c (.fn 133 [])) [t 9], none⟩, ⟨(some 6), mv (t 10), none⟩]) (seq (seq (reg [⟨(some 11), mv (t 5), none⟩]) (cond (t 11) (seq (seq (reg [⟨(some 12), mv (t 6), none⟩]) (cond (t 12) (seq (reg [⟨(some 4), mv (c (.int .i64 0)), none⟩]) (ret)) (skip))) (seq (reg [⟨(some 4), mv (c (.int .i64 (-1))), none⟩]) (ret))) (skip))) (seq (seq (reg [⟨(some 13), mv (t 6), none⟩]) (cond (t 13) (seq (reg [⟨(some 4), mv (c (.int .i64 1)), none⟩]) (ret)) (skip))) (seq (seq (reg [⟨(some 14), mv (t 0), none⟩, ⟨(some 15), mv (t 1), none⟩, ⟨(some 16), bin .lss (t 14) (t 15), none⟩]) (cond (t 16) (seq (reg [⟨(some 4), mv (c (.int .i64 (-1))), none⟩]) (ret)) (skip))) (seq (seq (reg [⟨(some 17), mv (t 0), none⟩, ⟨(some 18), mv (t 1), none⟩, ⟨(some 19), bin .gtr (t 17) (t 18), none⟩]) (cond (t 19) (seq (reg [⟨(some 4), mv (c (.int .i64 1)), none⟩]) (ret)) (skip))) (seq (reg [⟨(some 4), mv (c (.int .i64 0)), none⟩]) (ret))))))))
def r_cmp_Compare_uint32 : List ARes := [.tmp 4]
theorem k_cmp_Compare_uint32 : acLin Go.Proofs.Tryz.prog 114 2 (inQ [133] []) [] = some (c_cmp_Compare_uint32, r_cmp_Compare_uint32) := by kernel_rfl
def c_impl_flagOrder : AC := seq (reg [⟨(some 2), box 3 (t 0), none⟩, ⟨(some 3), box 3 (t 1), none⟩, ⟨(some 4), mv (c (.int .i64 0)), none⟩]) (seq (reg [⟨(some 5), fad (t 2) 1, none⟩, ⟨(some 6), fad (t 5) 1, none⟩, ⟨(some 7), ld (t 6) 1 false, none⟩, ⟨(some 8), fad (t 3) 1, none⟩, ⟨(some 9), fad (t 8) 1, none⟩, ⟨(some 10), ld (t 9) 1 false, none⟩, ⟨(some 11), callq (c (.fn 114 [])) [t 7, t 10], none⟩, ⟨(some 4), mv (t 11), none⟩]) (ret))
def r_impl_flagOrder : List ARes := [.tmp 4]
theorem k_impl_flagOrder : acLin Go.Proofs.Tryz.prog 89 2 (inQ [114] []) [] = some (c_impl_flagOrder, r_impl_flagOrder) := by kernel_rfl
def c_impl_Graph_least_1 : AC := seq (reg [⟨(some 4), mv (c (.bool false)), none⟩]) (seq (reg [⟨(some 5), fad (t 1) 1, none⟩, ⟨(some 6), ld (t 5) 1 false, none⟩, ⟨(some 7), ld (t 2) 2 true, none⟩, ⟨(some 8), mv (t 0), none⟩, ⟨(some 9), calle (c (.fn 129 [])) [t 7, t 8] [(c .nilf, 0, false)], none⟩, ⟨(some 10), fld (t 9) 1 1 false, none⟩, ⟨(some 11), min (t 6) (t 10), none⟩, ⟨(some 12), fad (t 1) 1, none⟩, ⟨none, st (t 12) 1 (t 11), none⟩]) (seq (reg [⟨(some 4), mv (c (.bool false)), none⟩]) (ret)))
def r_impl_Graph_least_1 : List ARes := [.tmp 4]
theorem k_impl_Graph_least_1 : acLin Go.Proofs.Tryz.prog 132 3 (inQ [] [129]) [⟨false, none, [], [], none⟩, ⟨false, some [0, 1, 2, 3, 4, 5, 6, 7, 8], [(4, [(c .nilf, 0, false)])], [], none⟩] = some (c_impl_Graph_least_1, r_impl_Graph_least_1) := by kernel_rfl
def c_impl_Graph_least : AC := seq (reg [⟨(some 2), box 2 (t 0), none⟩, ⟨(some 4), alloc [.int .i64 0, .int .u32 0], none⟩]) (seq (reg [⟨(some 6), ld (t 2) 2 true, none⟩, ⟨(some 5), alloc [.int .i64 0, .int .u32 0], none⟩, ⟨none, st (t 5) 2 (t 6), none⟩]) (seq (reg [⟨(some 7), ld (t 2) 2 true, none⟩, ⟨(some 8), mv (t 1), none⟩, ⟨(some 9), mkf 132 [t 5, t 2], none⟩, ⟨(some 10), call (c (.fn 131 [])) [t 7, t 8, t 9], none⟩]) (seq (reg [⟨(some 11), ld (t 5) 2 true, none⟩, ⟨none, st (t 4) 2 (t 11), none⟩]) (ret))))
def r_impl_Graph_least : List ARes := [.cell 4 2 true]
theorem k_impl_Graph_least : acLin Go.Proofs.Tryz.prog 113 2 (inQ [] []) [] = some (c_impl_Graph_least, r_impl_Graph_least) := by kernel_rfl
def c_impl_Flag_least : AC := seq (reg [⟨(some 1), box 3 (t 0), none⟩, ⟨(some 2), alloc [.int .i64 0, .int .i64 0, .int .u32 0], none⟩]) (seq (reg [⟨(some 3), fad (t 1) 0, none⟩, ⟨(some 4), ld (t 3) 1 false, none⟩, ⟨(some 5), fad (t 1) 1, none⟩, ⟨(some 6), ld (t 5) 2 true, none⟩, ⟨(some 7), fad (t 1) 0, none⟩, ⟨(some 8), ld (t 7) 1 false, none⟩, ⟨(some 9), callq (c (.fn 113 [])) [t 6, t 8], none⟩, ⟨(some 10), bld [.int .i64 0, .int .i64 0, .int .u32 0] [(0, 1, t 4), (1, 2, t 9)], none⟩, ⟨none, st (t 2) 3 (t 10), none⟩]) (ret))
def r_impl_Flag_least : List ARes := [.cell 2 3 true]
theorem k_impl_Flag_least : acLin Go.Proofs.Tryz.prog 88 1 (inQ [113] []) [⟨false, none, [], [], none⟩, ⟨false, some [0, 1, 2, 3, 4, 5, 6, 7, 8], [], [], none⟩] = some (c_impl_Flag_least, r_impl_Flag_least) := by kernel_rfl
def c_impl_Flag_typeOf : AC := seq (reg [⟨(some 1), box 3 (t 0), none⟩, ⟨(some 2), alloc [.int .i64 0, .int .u32 0], none⟩]) (seq (reg [⟨(some 3), fad (t 1) 1, none⟩, ⟨(some 4), ld (t 3) 2 true, none⟩, ⟨(some 5), fad (t 1) 0, none⟩, ⟨(some 6), ld (t 5) 1 false, none⟩, ⟨(some 7), calle (c (.fn 130 [])) [t 6] [(c .nilf, 0, false)], none⟩, ⟨(some 8), calle (c (.fn 129 [])) [t 4, t 7] [(c .nilf, 0, false)], none⟩, ⟨none, st (t 2) 2 (t 8), none⟩]) (ret))
def r_impl_Flag_typeOf : List ARes := [.cell 2 2 true]
theorem k_impl_Flag_typeOf : acLin Go.Proofs.Tryz.prog 112 1 (inQ [] [129, 130]) [⟨false, none, [], [], none⟩, ⟨false, some [0, 1, 2, 3, 4, 5, 6], [(4, [(c .nilf, 0, false)]), (5, [(c .nilf, 0, false)])], [], none⟩] = some (c_impl_Flag_typeOf, r_impl_Flag_typeOf) := by kernel_rfl
def c_impl_Flag_fits : AC := seq (reg [⟨(some 3), box 3 (t 0), none⟩, ⟨(some 4), box 2 (t 1), none⟩, ⟨(some 6), mv (c (.bool false)), none⟩]) (seq (reg [⟨(some 7), fad (t 3) 1, none⟩, ⟨(some 8), fad (t 7) 0, none⟩, ⟨(some 9), ld (t 8) 1 false, none⟩, ⟨(some 10), mv (t 2), none⟩, ⟨(some 11), bin .eql (t 9) (t 10), none⟩, ⟨(some 12), mv (t 11), none⟩, ⟨(some 13), ld (t 3) 3 true, some (12, true)⟩, ⟨(some 14), callq (c (.fn 112 [])) [t 13], some (12, true)⟩, ⟨(some 15), ld (t 4) 2 true, some (12, true)⟩, ⟨(some 16), eqs false [.i .i64, .i .u32] (t 14) (t 15), some (12, true)⟩, ⟨(some 17), pick (t 12) (t 16) (c (.bool false)), none⟩, ⟨(some 6), mv (t 17), none⟩]) (ret))
def r_impl_Flag_fits : List ARes := [.tmp 6]
theorem k_impl_Flag_fits : acLin Go.Proofs.Tryz.prog 87 3 (inQ [112] []) [⟨false, none, [], [], none⟩, ⟨false, some [0, 1, 2, 3, 4, 5, 6, 7, 8, 9, 10, 11], [], [], none⟩] = some (c_impl_Flag_fits, r_impl_Flag_fits) := by kernel_rfl
def c_spec_l03Type : AC := seq (reg [⟨(some 1), box 3 (t 0), none⟩, ⟨(some 2), alloc [.int .i64 0, .int .u32 0], none⟩]) (seq (reg [⟨(some 3), fad (t 1) 1, none⟩, ⟨(some 4), ld (t 3) 2 true, none⟩, ⟨(some 5), fad (t 1) 0, none⟩, ⟨(some 6), ld (t 5) 1 false, none⟩, ⟨(some 7), calle (c (.fn 95 [])) [t 6] [(c .nilf, 0, false)], none⟩, ⟨(some 8), calle (c (.fn 97 [])) [t 4, t 7] [(c .nilf, 0, false)], none⟩, ⟨none, st (t 2) 2 (t 8), none⟩]) (ret))
def r_spec_l03Type : List ARes := [.cell 2 2 true]
theorem k_spec_l03Type : acLin Go.Proofs.Tryz.prog 94 1 (inQ [] [95, 97]) [⟨false, none, [], [], none⟩, ⟨false, some [0, 1, 2, 3, 4, 5, 6], [(4, [(c .nilf, 0, false)]), (5, [(c .nilf, 0, false)])], [], none⟩] = some (c_spec_l03Type, r_spec_l03Type) := by kernel_rfl
def c_spec_l03Order : AC := seq (reg [⟨(some 4), mv (c (.sl [] true)), none⟩]) (seq (reg [⟨(some 7), mv (t 0), none⟩, ⟨(some 8), calle (c (.fn 95 [])) [t 7] [], none⟩, ⟨(some 5), mv (t 8), none⟩]) (seq (seq (reg [⟨(some 6), mv (c (.int .i64 0)), none⟩]) (block 0 (loop (seq (seq (reg [⟨(some 9), mv (t 6), none⟩, ⟨(some 10), mv (t 1), none⟩, ⟨(some 11), len (t 10), none⟩, ⟨(some 12), bin .lss (t 9) (t 11), none⟩]) (cond (t 12) (skip) (exit 0))) (seq (block 1 (reg [⟨(some 15), mv (t 5), none⟩, ⟨(some 16), mv (t 0), none⟩, ⟨(some 17), mv (t 1), none⟩, ⟨(some 18), mv (t 6), none⟩, ⟨(some 19), iad 1 (t 17) (t 18), none⟩, ⟨(some 20), ld (t 19) 1 false, none⟩, ⟨(some 21), bin .add (t 16) (t 20), none⟩, ⟨(some 22), bsl 1 1 [.int .i64 0] [(0, t 21)], none⟩, ⟨(some 23), app 1 8 (t 15) (t 22), none⟩, ⟨(some 5), mv (t 23), none⟩])) (reg [⟨(some 13), mv (t 6), none⟩, ⟨(some 14), bin .add (t 13) (c (.int .i64 1)), none⟩, ⟨(some 6), mv (t 14), none⟩])))))) (seq (reg [⟨(some 24), mv (t 5), none⟩, ⟨(some 4), mv (t 24), none⟩]) (ret))))
def r_spec_l03Order : List ARes := [.tmp 4]
theorem k_spec_l03Order : acLin Go.Proofs.Tryz.prog 98 2 (inQ [] [95]) [] = some (c_spec_l03Order, r_spec_l03Order) := by kernel_rfl
def c_spec_l03Least : AC := seq (reg [⟨(some 1), box 3 (t 0), none⟩, ⟨(some 2), alloc [.int .i64 0, .int .i64 0, .int .u32 0], none⟩]) (seq (reg [⟨(some 7), ld (t 1) 3 true, none⟩, ⟨(some 3), alloc [.int .i64 0, .int .i64 0, .int .u32 0], none⟩, ⟨none, st (t 3) 3 (t 7), none⟩]) (seq (reg [⟨(some 8), fad (t 1) 1, none⟩, ⟨(some 9), fad (t 8) 0, none⟩, ⟨(some 10), ld (t 9) 1 false, none⟩, ⟨(some 11), fad (t 1) 0, none⟩, ⟨(some 12), ld (t 11) 1 false, none⟩, ⟨(some 13), bin .sub (t 10) (t 12), none⟩, ⟨(some 14), calle (c (.fn 95 [])) [t 13] [], none⟩, ⟨(some 4), mv (t 14), none⟩]) (seq (seq (reg [⟨(some 5), mv (c (.bool true)), none⟩]) (block 0 (loop (seq (seq (reg [⟨(some 15), mv (t 5), none⟩]) (cond (t 15) (skip) (exit 0))) (seq (block 1 (seq (reg [⟨(some 24), fad (t 1) 1, none⟩, ⟨(some 25), ld (t 24) 2 true, none⟩, ⟨(some 26), fad (t 1) 0, none⟩, ⟨(some 27), ld (t 26) 1 false, none⟩, ⟨(some 28), mv (t 4), none⟩, ⟨(some 29), calle (c (.fn 98 [])) [t 27, t 28] [(c .nilf, 0, false)], none⟩, ⟨(some 30), calle (c (.fn 97 [])) [t 25, t 29] [(c .nilf, 0, false)], none⟩, ⟨(some 6), alloc [.int .i64 0, .int .u32 0], none⟩, ⟨none, st (t 6) 2 (t 30), none⟩]) (seq (reg [⟨(some 31), fad (t 6) 1, none⟩, ⟨(some 32), ld (t 31) 1 false, none⟩, ⟨(some 33), fad (t 3) 1, none⟩, ⟨(some 34), fad (t 33) 1, none⟩, ⟨(some 35), ld (t 34) 1 false, none⟩, ⟨(some 36), bin .lss (t 32) (t 35), none⟩]) (cond (t 36) (reg [⟨(some 37), ld (t 6) 2 true, none⟩, ⟨(some 38), fad (t 3) 1, none⟩, ⟨none, st (t 38) 2 (t 37), none⟩]) (skip))))) (reg [⟨(some 16), mv (t 4), none⟩, ⟨(some 17), fad (t 1) 1, none⟩, ⟨(some 18), fad (t 17) 0, none⟩, ⟨(some 19), ld (t 18) 1 false, none⟩, ⟨(some 20), fad (t 1) 0, none⟩, ⟨(some 21), ld (t 20) 1 false, none⟩, ⟨(some 22), bin .sub (t 19) (t 21), none⟩, ⟨(some 23), calle (c (.fn 96 [])) [t 16, t 22] [], none⟩, ⟨(some 5), mv (t 23), none⟩])))))) (seq (reg [⟨(some 39), ld (t 3) 3 true, none⟩, ⟨none, st (t 2) 3 (t 39), none⟩]) (ret)))))
def r_spec_l03Least : List ARes := [.cell 2 3 true]
theorem k_spec_l03Least : acLin Go.Proofs.Tryz.prog 73 1 (inQ [] [95, 96, 97, 98]) [⟨false, none, [], [], none⟩, ⟨false, none, [], [], none⟩, ⟨false, none, [], [], none⟩, ⟨false, none, [], [], none⟩, ⟨false, none, [], [], none⟩, ⟨false, none, [], [], none⟩, ⟨false, some [0, 1, 2, 3, 4, 5, 6, 7, 8], [(5, [(c .nilf, 0, false)]), (6, [(c .nilf, 0, false)])], [(7, [5, 6])], none⟩] = some (c_spec_l03Least, r_spec_l03Least) := by kernel_rfl
def c_spec_l05Fits : AC := seq (reg [⟨(some 3), box 3 (t 0), none⟩, ⟨(some 4), box 2 (t 1), none⟩, ⟨(some 6), mv (c (.bool false)), none⟩]) (seq (reg [⟨(some 7), ld (t 3) 3 true, none⟩, ⟨(some 8), callq (c (.fn 94 [])) [t 7], none⟩, ⟨(some 9), ld (t 4) 2 true, none⟩, ⟨(some 10), eqs false [.i .i64, .i .u32] (t 8) (t 9), none⟩, ⟨(some 11), mv (t 10), none⟩, ⟨(some 12), fad (t 3) 1, some (11, true)⟩, ⟨(some 13), fad (t 12) 0, some (11, true)⟩, ⟨(some 14), ld (t 13) 1 false, some (11, true)⟩, ⟨(some 15), mv (t 2), some (11, true)⟩, ⟨(some 16), bin .eql (t 14) (t 15), some (11, true)⟩, ⟨(some 17), pick (t 11) (t 16) (c (.bool false)), none⟩, ⟨(some 6), mv (t 17), none⟩]) (ret))
def r_spec_l05Fits : List ARes := [.tmp 6]
theorem k_spec_l05Fits : acLin Go.Proofs.Tryz.prog 72 3 (inQ [94] []) [⟨false, none, [], [], none⟩, ⟨false, some [0, 1, 2, 3, 4, 5, 6, 7, 8, 9, 10, 11], [], [], none⟩] = some (c_spec_l05Fits, r_spec_l05Fits) := by kernel_rfl
def c_spec_l05Ok : AC := seq (reg [⟨(some 2), mv (c (.bool false)), none⟩]) (seq (seq (reg [⟨(some 5), mv (t 0), none⟩, ⟨(some 6), nilc (t 5), none⟩, ⟨(some 7), fad (t 6) 0, none⟩, ⟨(some 8), ld (t 7) 2 true, none⟩, ⟨(some 9), callq (c (.fn 68 [])) [t 8], none⟩, ⟨(some 10), un .not (t 9), none⟩, ⟨(some 11), mv (t 10), none⟩, ⟨(some 12), mv (t 0), some (11, false)⟩, ⟨(some 13), nilc (t 12), some (11, false)⟩, ⟨(some 14), fad (t 13) 0, some (11, false)⟩, ⟨(some 15), ld (t 14) 2 true, some (11, false)⟩, ⟨(some 16), mv (t 0), some (11, false)⟩, ⟨(some 17), nilc (t 16), some (11, false)⟩, ⟨(some 18), fad (t 17) 2, some (11, false)⟩, ⟨(some 19), ld (t 18) 1 false, some (11, false)⟩, ⟨(some 20), callq (c (.fn 70 [])) [t 15, t 19], some (11, false)⟩, ⟨(some 21), un .not (t 20), some (11, false)⟩, ⟨(some 22), pick (t 11) (c (.bool true)) (t 21), none⟩, ⟨(some 23), mv (t 22), none⟩, ⟨(some 24), mv (t 0), some (23, false)⟩, ⟨(some 25), nilc (t 24), some (23, false)⟩, ⟨(some 26), fad (t 25) 3, some (23, false)⟩, ⟨(some 27), ld (t 26) 1 false, some (23, false)⟩, ⟨(some 28), len (t 27), some (23, false)⟩, ⟨(some 29), bin .gtr (t 28) (c (.int .i64 64)), some (23, false)⟩, ⟨(some 30), pick (t 23) (c (.bool true)) (t 29), none⟩]) (cond (t 30) (seq (reg [⟨(some 2), mv (c (.bool false)), none⟩]) (ret)) (skip))) (seq (seq (reg [⟨(some 3), mv (c (.int .i64 0)), none⟩]) (block 0 (loop (seq (seq (reg [⟨(some 31), mv (t 3), none⟩, ⟨(some 32), mv (t 0), none⟩, ⟨(some 33), nilc (t 32), none⟩, ⟨(some 34), fad (t 33) 3, none⟩, ⟨(some 35), ld (t 34) 1 false, none⟩, ⟨(some 36), len (t 35), none⟩, ⟨(some 37), bin .lss (t 31) (t 36), none⟩]) (cond (t 37) (skip) (exit 0))) (seq (block 1 (seq (reg [⟨(some 40), mv (t 0), none⟩, ⟨(some 41), nilc (t 40), none⟩, ⟨(some 42), fad (t 41) 3, none⟩, ⟨(some 43), ld (t 42) 1 false, none⟩, ⟨(some 44), mv (t 3), none⟩, ⟨(some 45), iad 5 (t 43) (t 44), none⟩, ⟨(some 46), fad (t 45) 0, none⟩, ⟨(some 47), ld (t 46) 3 true, none⟩, ⟨(some 4), alloc [.int .i64 0, .int .i64 0, .int .u32 0], none⟩, ⟨none, st (t 4) 3 (t 47), none⟩]) (seq (seq (reg [⟨(some 48), ld (t 4) 3 true, none⟩, ⟨(some 49), callq (c (.fn 71 [])) [t 48], none⟩, ⟨(some 50), un .not (t 49), none⟩, ⟨(some 51), mv (t 50), none⟩, ⟨(some 52), ld (t 4) 3 true, some (51, false)⟩, ⟨(some 53), mv (t 0), some (51, false)⟩, ⟨(some 54), nilc (t 53), some (51, false)⟩, ⟨(some 55), fad (t 54) 0, some (51, false)⟩, ⟨(some 56), ld (t 55) 2 true, some (51, false)⟩, ⟨(some 57), mv (t 0), some (51, false)⟩, ⟨(some 58), nilc (t 57), some (51, false)⟩, ⟨(some 59), fad (t 58) 2, some (51, false)⟩, ⟨(some 60), ld (t 59) 1 false, some (51, false)⟩, ⟨(some 61), callq (c (.fn 72 [])) [t 52, t 56, t 60], some (51, false)⟩, ⟨(some 62), un .not (t 61), some (51, false)⟩, ⟨(some 63), pick (t 51) (c (.bool true)) (t 62), none⟩, ⟨(some 64), mv (t 63), none⟩, ⟨(some 65), ld (t 4) 3 true, some (64, false)⟩, ⟨(some 66), callq (c (.fn 73 [])) [t 65], some (64, false)⟩, ⟨(some 67), ld (t 4) 3 true, some (64, false)⟩, ⟨(some 68), eqs true [.i .i64, .i .i64, .i .u32] (t 66) (t 67), some (64, false)⟩, ⟨(some 69), pick (t 64) (c (.bool true)) (t 68), none⟩, ⟨(some 70), mv (t 69), none⟩, ⟨(some 71), mv (t 3), some (70, false)⟩, ⟨(some 72), bin .gtr (t 71) (c (.int .i64 0)), some (70, false)⟩, ⟨(some 73), mv (t 72), some (70, false)⟩, ⟨(some 74), mv (t 0), some (73, true)⟩, ⟨(some 75), nilc (t 74), some (73, true)⟩, ⟨(some 76), fad (t 75) 3, some (73, true)⟩, ⟨(some 77), ld (t 76) 1 false, some (73, true)⟩, ⟨(some 78), mv (t 3), some (73, true)⟩, ⟨(some 79), bin .sub (t 78) (c (.int .i64 1)), some (73, true)⟩, ⟨(some 80), iad 5 (t 77) (t 79), some (73, true)⟩, ⟨(some 81), fad (t 80) 0, some (73, true)⟩, ⟨(some 82), fad (t 81) 1, some (73, true)⟩, ⟨(some 83), fad (t 82) 1, some (73, true)⟩, ⟨(some 84), ld (t 83) 1 false, some (73, true)⟩, ⟨(some 85), fad (t 4) 1, some (73, true)⟩, ⟨(some 86), fad (t 85) 1, some (73, true)⟩, ⟨(some 87), ld (t 86) 1 false, some (73, true)⟩, ⟨(some 88), bin .geq (t 84) (t 87), some (73, true)⟩, ⟨(some 89), pick (t 73) (t 88) (c (.bool false)), some (70, false)⟩, ⟨(some 90), pick (t 70) (c (.bool true)) (t 89), none⟩]) (cond (t 90) (seq (reg [⟨(some 2), mv (c (.bool false)), none⟩]) (ret)) (skip))) (seq (reg [⟨(some 91), mv (t 0), none⟩, ⟨(some 92), nilc (t 91), none⟩, ⟨(some 93), fad (t 92) 3, none⟩, ⟨(some 94), ld (t 93) 1 false, none⟩, ⟨(some 95), mv (t 3), none⟩, ⟨(some 96), iad 5 (t 94) (t 95), none⟩, ⟨(some 97), fad (t 96) 3, none⟩, ⟨(some 98), ld (t 97) 2 true, none⟩, ⟨(some 99), callq (c (.fn 33 [])) [t 98], none⟩, ⟨(some 100), un .not (t 99), none⟩, ⟨(some 101), mv (t 100), none⟩, ⟨(some 102), mv (t 0), some (101, false)⟩, ⟨(some 103), nilc (t 102), some (101, false)⟩, ⟨(some 104), fad (t 103) 3, some (101, false)⟩, ⟨(some 105), ld (t 104) 1 false, some (101, false)⟩, ⟨(some 106), mv (t 3), some (101, false)⟩, ⟨(some 107), iad 5 (t 105) (t 106), some (101, false)⟩, ⟨(some 108), fad (t 107) 3, some (101, false)⟩, ⟨(some 109), fad (t 108) 0, some (101, false)⟩, ⟨(some 110), ld (t 109) 1 false, some (101, false)⟩, ⟨(some 111), bin .eql (t 110) (c (.int .i64 0)), some (101, false)⟩, ⟨(some 112), pick (t 101) (c (.bool true)) (t 111), none⟩]) (cond (t 112) (seq (reg [⟨(some 2), mv (c (.bool false)), none⟩]) (ret)) (skip)))))) (reg [⟨(some 38), mv (t 3), none⟩, ⟨(some 39), bin .add (t 38) (c (.int .i64 1)), none⟩, ⟨(some 3), mv (t 39), none⟩])))))) (seq (reg [⟨(some 2), mv (c (.bool true)), none⟩]) (ret))))
def r_spec_l05Ok : List ARes := [.tmp 2]
theorem k_spec_l05Ok : acLin Go.Proofs.Tryz.prog 40 1 (inQ [33, 68, 70, 71, 72, 73] []) [⟨false, none, [], [], none⟩, ⟨false, some [0, 1, 2, 3, 4, 5, 6, 7, 8, 9, 10, 11, 12, 13, 14, 15, 16, 17, 18, 19, 20, 21, 22, 23, 24, 25], [], [], none⟩, ⟨false, none, [], [], none⟩, ⟨false, none, [], [], none⟩, ⟨false, none, [], [], none⟩, ⟨false, none, [], [], none⟩, ⟨false, none, [], [], none⟩, ⟨false, none, [], [], none⟩, ⟨false, some [0, 1, 2, 3, 4, 5, 6, 7, 8, 9, 10, 11, 12, 13, 14, 15, 16, 17, 18, 19, 20, 21, 22, 23, 24, 25, 26, 27, 28, 29, 30, 31, 32, 33, 34, 35, 36, 37, 38, 39, 40, 41, 42], [], [], none⟩] = some (c_spec_l05Ok, r_spec_l05Ok) := by kernel_rfl
def c_impl_ValidSum : AC := seq (reg [⟨(some 1), box 4 (t 0), none⟩, ⟨(some 2), mv (c (.bool false)), none⟩]) (seq (seq (reg [⟨(some 5), fad (t 1) 0, none⟩, ⟨(some 6), ld (t 5) 2 true, none⟩, ⟨(some 7), callq (c (.fn 84 [])) [t 6], none⟩, ⟨(some 8), un .not (t 7), none⟩, ⟨(some 9), mv (t 8), none⟩, ⟨(some 10), fad (t 1) 0, some (9, false)⟩, ⟨(some 11), ld (t 10) 2 true, some (9, false)⟩, ⟨(some 12), fad (t 1) 2, some (9, false)⟩, ⟨(some 13), ld (t 12) 1 false, some (9, false)⟩, ⟨(some 14), callq (c (.fn 85 [])) [t 11, t 13], some (9, false)⟩, ⟨(some 15), un .not (t 14), some (9, false)⟩, ⟨(some 16), pick (t 9) (c (.bool true)) (t 15), none⟩, ⟨(some 17), mv (t 16), none⟩, ⟨(some 18), fad (t 1) 3, some (17, false)⟩, ⟨(some 19), ld (t 18) 1 false, some (17, false)⟩, ⟨(some 20), len (t 19), some (17, false)⟩, ⟨(some 21), bin .gtr (t 20) (c (.int .i64 64)), some (17, false)⟩, ⟨(some 22), pick (t 17) (c (.bool true)) (t 21), none⟩]) (cond (t 22) (seq (reg [⟨(some 2), mv (c (.bool false)), none⟩]) (ret)) (skip))) (seq (seq (reg [⟨(some 23), fad (t 1) 3, none⟩, ⟨(some 24), ld (t 23) 1 false, none⟩, ⟨(some 25), len (t 24), none⟩, ⟨(some 26), mv (c (.int .i64 0)), none⟩]) (block 0 (loop (seq (reg [⟨(some 27), bin .lss (t 26) (t 25), none⟩]) (seq (cond (t 27) (skip) (exit 0)) (seq (block 1 (seq (reg [⟨(some 28), mv (t 26), none⟩, ⟨(some 29), iad 5 (t 24) (t 26), none⟩, ⟨(some 30), ld (t 29) 5 true, none⟩, ⟨(some 4), alloc [.int .i64 0, .int .i64 0, .int .u32 0, .int .i64 0, .int .i64 0], none⟩, ⟨(some 3), mv (t 28), none⟩, ⟨none, st (t 4) 5 (t 30), none⟩]) (seq (seq (reg [⟨(some 31), fad (t 4) 0, none⟩, ⟨(some 32), ld (t 31) 3 true, none⟩, ⟨(some 33), callq (c (.fn 86 [])) [t 32], none⟩, ⟨(some 34), un .not (t 33), none⟩, ⟨(some 35), mv (t 34), none⟩, ⟨(some 36), fad (t 4) 0, some (35, false)⟩, ⟨(some 37), ld (t 36) 3 true, some (35, false)⟩, ⟨(some 38), fad (t 1) 0, some (35, false)⟩, ⟨(some 39), ld (t 38) 2 true, some (35, false)⟩, ⟨(some 40), fad (t 1) 2, some (35, false)⟩, ⟨(some 41), ld (t 40) 1 false, some (35, false)⟩, ⟨(some 42), callq (c (.fn 87 [])) [t 37, t 39, t 41], some (35, false)⟩, ⟨(some 43), un .not (t 42), some (35, false)⟩, ⟨(some 44), pick (t 35) (c (.bool true)) (t 43), none⟩, ⟨(some 45), mv (t 44), none⟩, ⟨(some 46), fad (t 4) 0, some (45, false)⟩, ⟨(some 47), ld (t 46) 3 true, some (45, false)⟩, ⟨(some 48), callq (c (.fn 88 [])) [t 47], some (45, false)⟩, ⟨(some 49), fad (t 4) 0, some (45, false)⟩, ⟨(some 50), ld (t 49) 3 true, some (45, false)⟩, ⟨(some 51), eqs true [.i .i64, .i .i64, .i .u32] (t 48) (t 50), some (45, false)⟩, ⟨(some 52), pick (t 45) (c (.bool true)) (t 51), none⟩, ⟨(some 53), mv (t 52), none⟩, ⟨(some 54), fad (t 4) 3, some (53, false)⟩, ⟨(some 55), ld (t 54) 2 true, some (53, false)⟩, ⟨(some 56), callq (c (.fn 45 [])) [t 55], some (53, false)⟩, ⟨(some 57), un .not (t 56), some (53, false)⟩, ⟨(some 58), pick (t 53) (c (.bool true)) (t 57), none⟩, ⟨(some 59), mv (t 58), none⟩, ⟨(some 60), fad (t 4) 3, some (59, false)⟩, ⟨(some 61), fad (t 60) 0, some (59, false)⟩, ⟨(some 62), ld (t 61) 1 false, some (59, false)⟩, ⟨(some 63), bin .eql (t 62) (c (.int .i64 0)), some (59, false)⟩, ⟨(some 64), pick (t 59) (c (.bool true)) (t 63), none⟩]) (cond (t 64) (seq (reg [⟨(some 2), mv (c (.bool false)), none⟩]) (ret)) (skip))) (seq (reg [⟨(some 65), mv (t 3), none⟩, ⟨(some 66), bin .gtr (t 65) (c (.int .i64 0)), none⟩, ⟨(some 67), mv (t 66), none⟩, ⟨(some 68), fad (t 1) 3, some (67, true)⟩, ⟨(some 69), ld (t 68) 1 false, some (67, true)⟩, ⟨(some 70), mv (t 3), some (67, true)⟩, ⟨(some 71), bin .sub (t 70) (c (.int .i64 1)), some (67, true)⟩, ⟨(some 72), iad 5 (t 69) (t 71), some (67, true)⟩, ⟨(some 73), fad (t 72) 0, some (67, true)⟩, ⟨(some 74), ld (t 73) 3 true, some (67, true)⟩, ⟨(some 75), fad (t 4) 0, some (67, true)⟩, ⟨(some 76), ld (t 75) 3 true, some (67, true)⟩, ⟨(some 77), callq (c (.fn 89 [])) [t 74, t 76], some (67, true)⟩, ⟨(some 78), bin .geq (t 77) (c (.int .i64 0)), some (67, true)⟩, ⟨(some 79), pick (t 67) (t 78) (c (.bool false)), none⟩]) (cond (t 79) (seq (reg [⟨(some 2), mv (c (.bool false)), none⟩]) (ret)) (skip)))))) (reg [⟨(some 80), bin .add (t 26) (c (.int .i64 1)), none⟩, ⟨(some 26), mv (t 80), none⟩]))))))) (seq (reg [⟨(some 2), mv (c (.bool true)), none⟩]) (ret))))
def r_impl_ValidSum : List ARes := [.tmp 2]
theorem k_impl_ValidSum : acLin Go.Proofs.Tryz.prog 56 1 (inQ [45, 84, 85, 86, 87, 88, 89] []) [⟨false, none, [], [], none⟩, ⟨false, none, [], [], none⟩, ⟨false, none, [], [], none⟩, ⟨false, none, [], [], none⟩, ⟨false, none, [], [], none⟩, ⟨false, none, [], [], none⟩, ⟨false, none, [], [], none⟩, ⟨false, none, [], [], none⟩, ⟨false, some [0, 1, 2, 3, 4, 5, 6, 7, 8, 9, 10, 11, 12, 13, 14, 15, 16, 17, 18, 19, 20, 21, 22, 23, 24, 25, 26, 27, 28, 29, 30, 31, 32, 33], [], [], none⟩, ⟨false, none, [], [], none⟩, ⟨false, none, [], [], none⟩, ⟨false, some [0, 1, 2, 3, 4, 5, 6, 7, 8, 9, 10, 11, 12, 13, 14], [], [], none⟩] = some (c_impl_ValidSum, r_impl_ValidSum) := by kernel_rfl
def c_spec_l05Text : AC := seq (reg [⟨(some 2), mv (c (.str ⟨#[]⟩)), none⟩]) (seq (reg [⟨(some 5), mv (t 0), none⟩, ⟨(some 6), nilc (t 5), none⟩, ⟨(some 7), fad (t 6) 2, none⟩, ⟨(some 8), ld (t 7) 1 false, none⟩, ⟨(some 9), callq (c (.fn 66 [])) [t 8], none⟩, ⟨(some 10), bin .add (c (.str ⟨#[115, 117, 109, 32]⟩)) (t 9), none⟩, ⟨(some 11), bin .add (t 10) (c (.str ⟨#[32]⟩)), none⟩, ⟨(some 12), mv (t 0), none⟩, ⟨(some 13), nilc (t 12), none⟩, ⟨(some 14), fad (t 13) 0, none⟩, ⟨(some 15), ld (t 14) 2 true, none⟩, ⟨(some 16), callq (c (.fn 38 [])) [t 15], none⟩, ⟨(some 17), bin .add (t 11) (t 16), none⟩, ⟨(some 18), bin .add (t 17) (c (.str ⟨#[10]⟩)), none⟩, ⟨(some 3), mv (t 18), none⟩]) (seq (seq (reg [⟨(some 4), mv (c (.int .i64 0)), none⟩]) (block 0 (loop (seq (seq (reg [⟨(some 19), mv (t 4), none⟩, ⟨(some 20), mv (t 0), none⟩, ⟨(some 21), nilc (t 20), none⟩, ⟨(some 22), fad (t 21) 3, none⟩, ⟨(some 23), ld (t 22) 1 false, none⟩, ⟨(some 24), len (t 23), none⟩, ⟨(some 25), bin .lss (t 19) (t 24), none⟩]) (cond (t 25) (skip) (exit 0))) (seq (block 1 (reg [⟨(some 28), mv (t 3), none⟩, ⟨(some 29), mv (t 0), none⟩, ⟨(some 30), nilc (t 29), none⟩, ⟨(some 31), fad (t 30) 3, none⟩, ⟨(some 32), ld (t 31) 1 false, none⟩, ⟨(some 33), mv (t 4), none⟩, ⟨(some 34), iad 5 (t 32) (t 33), none⟩, ⟨(some 35), fad (t 34) 3, none⟩, ⟨(some 36), ld (t 35) 2 true, none⟩, ⟨(some 37), callq (c (.fn 34 [])) [t 36], none⟩, ⟨(some 38), bin .add (t 37) (c (.str ⟨#[32]⟩)), none⟩, ⟨(some 39), mv (t 0), none⟩, ⟨(some 40), nilc (t 39), none⟩, ⟨(some 41), fad (t 40) 3, none⟩, ⟨(some 42), ld (t 41) 1 false, none⟩, ⟨(some 43), mv (t 4), none⟩, ⟨(some 44), iad 5 (t 42) (t 43), none⟩, ⟨(some 45), fad (t 44) 0, none⟩, ⟨(some 46), fad (t 45) 1, none⟩, ⟨(some 47), ld (t 46) 2 true, none⟩, ⟨(some 48), callq (c (.fn 38 [])) [t 47], none⟩, ⟨(some 49), bin .add (t 38) (t 48), none⟩, ⟨(some 50), bin .add (t 49) (c (.str ⟨#[10]⟩)), none⟩, ⟨(some 51), bin .add (t 28) (t 50), none⟩, ⟨(some 3), mv (t 51), none⟩])) (reg [⟨(some 26), mv (t 4), none⟩, ⟨(some 27), bin .add (t 26) (c (.int .i64 1)), none⟩, ⟨(some 4), mv (t 27), none⟩])))))) (seq (reg [⟨(some 52), mv (t 3), none⟩, ⟨(some 2), mv (t 52), none⟩]) (ret))))
def r_spec_l05Text : List ARes := [.tmp 2]
theorem k_spec_l05Text : acLin Go.Proofs.Tryz.prog 41 1 (inQ [34, 38, 66] []) [⟨false, none, [], [], none⟩, ⟨false, some [0, 1, 2, 3, 4, 5, 6, 7, 8, 9, 10, 11, 12, 13, 14], [], [], none⟩, ⟨false, none, [], [], none⟩, ⟨false, none, [], [], none⟩, ⟨false, none, [], [], none⟩, ⟨false, some [0, 1, 2, 3, 4, 5, 6, 7, 8, 9, 10, 11, 12, 13, 14, 15, 16, 17, 18, 19, 20, 21, 22, 23, 24], [], [], none⟩] = some (c_spec_l05Text, r_spec_l05Text) := by kernel_rfl
def c_impl_FlagSum_text : AC := seq (reg [⟨(some 1), box 4 (t 0), none⟩, ⟨(some 2), mv (c (.str ⟨#[]⟩)), none⟩]) (seq (reg [⟨(some 6), fad (t 1) 2, none⟩, ⟨(some 7), ld (t 6) 1 false, none⟩, ⟨(some 8), callq (c (.fn 76 [])) [t 7], none⟩, ⟨(some 9), bin .add (c (.str ⟨#[115, 117, 109, 32]⟩)) (t 8), none⟩, ⟨(some 10), bin .add (t 9) (c (.str ⟨#[32]⟩)), none⟩, ⟨(some 11), fad (t 1) 0, none⟩, ⟨(some 12), ld (t 11) 2 true, none⟩, ⟨(some 13), callq (c (.fn 54 [])) [t 12], none⟩, ⟨(some 14), bin .add (t 10) (t 13), none⟩, ⟨(some 15), bin .add (t 14) (c (.str ⟨#[10]⟩)), none⟩, ⟨(some 3), mv (t 15), none⟩]) (seq (seq (reg [⟨(some 16), fad (t 1) 3, none⟩, ⟨(some 17), ld (t 16) 1 false, none⟩, ⟨(some 18), len (t 17), none⟩, ⟨(some 19), mv (c (.int .i64 0)), none⟩]) (block 0 (loop (seq (reg [⟨(some 20), bin .lss (t 19) (t 18), none⟩]) (seq (cond (t 20) (skip) (exit 0)) (seq (block 1 (seq (reg [⟨(some 21), iad 5 (t 17) (t 19), none⟩, ⟨(some 22), ld (t 21) 5 true, none⟩, ⟨(some 5), alloc [.int .i64 0, .int .i64 0, .int .u32 0, .int .i64 0, .int .i64 0], none⟩, ⟨none, st (t 5) 5 (t 22), none⟩]) (reg [⟨(some 23), mv (t 3), none⟩, ⟨(some 24), fad (t 5) 3, none⟩, ⟨(some 25), ld (t 24) 2 true, none⟩, ⟨(some 26), callq (c (.fn 46 [])) [t 25], none⟩, ⟨(some 27), bin .add (t 26) (c (.str ⟨#[32]⟩)), none⟩, ⟨(some 28), fad (t 5) 0, none⟩, ⟨(some 29), fad (t 28) 1, none⟩, ⟨(some 30), ld (t 29) 2 true, none⟩, ⟨(some 31), callq (c (.fn 54 [])) [t 30], none⟩, ⟨(some 32), bin .add (t 27) (t 31), none⟩, ⟨(some 33), bin .add (t 32) (c (.str ⟨#[10]⟩)), none⟩, ⟨(some 34), bin .add (t 23) (t 33), none⟩, ⟨(some 3), mv (t 34), none⟩]))) (reg [⟨(some 35), bin .add (t 19) (c (.int .i64 1)), none⟩, ⟨(some 19), mv (t 35), none⟩]))))))) (seq (reg [⟨(some 36), mv (t 3), none⟩, ⟨(some 2), mv (t 36), none⟩]) (ret))))
def r_impl_FlagSum_text : List ARes := [.tmp 2]
theorem k_impl_FlagSum_text : acLin Go.Proofs.Tryz.prog 57 1 (inQ [46, 54, 76] []) [⟨false, none, [], [], none⟩, ⟨false, some [0, 1, 2, 3, 4, 5, 6, 7, 8, 9, 10], [], [], none⟩, ⟨false, none, [], [], none⟩, ⟨false, none, [], [], none⟩, ⟨false, none, [], [], none⟩, ⟨false, none, [], [], none⟩, ⟨false, some [0, 1, 2, 3, 4, 5, 6, 7, 8, 9, 10, 11, 12], [], [], none⟩] = some (c_impl_FlagSum_text, r_impl_FlagSum_text) := by kernel_rfl
def c_laws_eqTerm : AC := seq (reg [⟨(some 2), box 5 (t 0), none⟩, ⟨(some 3), box 5 (t 1), none⟩, ⟨(some 4), mv (c (.bool false)), none⟩]) (seq (seq (reg [⟨(some 5), fad (t 2) 0, none⟩, ⟨(some 6), ld (t 5) 3 true, none⟩, ⟨(some 7), fad (t 3) 0, none⟩, ⟨(some 8), ld (t 7) 3 true, none⟩, ⟨(some 9), callq (c (.fn 116 [])) [t 6, t 8], none⟩, ⟨(some 10), un .not (t 9), none⟩]) (cond (t 10) (seq (reg [⟨(some 4), mv (c (.bool false)), none⟩]) (ret)) (skip))) (seq (seq (reg [⟨(some 11), fad (t 2) 3, none⟩, ⟨(some 12), ld (t 11) 2 true, none⟩, ⟨(some 13), fad (t 3) 3, none⟩, ⟨(some 14), ld (t 13) 2 true, none⟩, ⟨(some 15), callq (c (.fn 27 [])) [t 12, t 14], none⟩, ⟨(some 16), un .not (t 15), none⟩]) (cond (t 16) (seq (reg [⟨(some 4), mv (c (.bool false)), none⟩]) (ret)) (skip))) (seq (reg [⟨(some 4), mv (c (.bool true)), none⟩]) (ret))))
def r_laws_eqTerm : List ARes := [.tmp 4]
theorem k_laws_eqTerm : acLin Go.Proofs.Tryz.prog 92 2 (inQ [27, 116] []) [] = some (c_laws_eqTerm, r_laws_eqTerm) := by kernel_rfl
def c_laws_eqTermS : AC := seq (reg [⟨(some 4), mv (c (.bool false)), none⟩]) (seq (seq (reg [⟨(some 6), mv (t 0), none⟩, ⟨(some 7), len (t 6), none⟩, ⟨(some 8), mv (t 1), none⟩, ⟨(some 9), len (t 8), none⟩, ⟨(some 10), bin .neq (t 7) (t 9), none⟩]) (cond (t 10) (seq (reg [⟨(some 4), mv (c (.bool false)), none⟩]) (ret)) (skip))) (seq (seq (reg [⟨(some 5), mv (c (.int .i64 0)), none⟩]) (block 0 (loop (seq (seq (reg [⟨(some 11), mv (t 5), none⟩, ⟨(some 12), mv (t 0), none⟩, ⟨(some 13), len (t 12), none⟩, ⟨(some 14), bin .lss (t 11) (t 13), none⟩]) (cond (t 14) (skip) (exit 0))) (seq (block 1 (seq (reg [⟨(some 17), mv (t 0), none⟩, ⟨(some 18), mv (t 5), none⟩, ⟨(some 19), iad 5 (t 17) (t 18), none⟩, ⟨(some 20), ld (t 19) 5 true, none⟩, ⟨(some 21), mv (t 1), none⟩, ⟨(some 22), mv (t 5), none⟩, ⟨(some 23), iad 5 (t 21) (t 22), none⟩, ⟨(some 24), ld (t 23) 5 true, none⟩, ⟨(some 25), callq (c (.fn 92 [])) [t 20, t 24], none⟩, ⟨(some 26), un .not (t 25), none⟩]) (cond (t 26) (seq (reg [⟨(some 4), mv (c (.bool false)), none⟩]) (ret)) (skip)))) (reg [⟨(some 15), mv (t 5), none⟩, ⟨(some 16), bin .add (t 15) (c (.int .i64 1)), none⟩, ⟨(some 5), mv (t 16), none⟩])))))) (seq (reg [⟨(some 4), mv (c (.bool true)), none⟩]) (ret))))
def r_laws_eqTermS : List ARes := [.tmp 4]
theorem k_laws_eqTermS : acLin Go.Proofs.Tryz.prog 60 2 (inQ [92] []) [⟨false, none, [], [], none⟩, ⟨false, none, [], [], none⟩, ⟨false, none, [], [], none⟩, ⟨false, none, [], [], none⟩, ⟨false, none, [], [], none⟩, ⟨false, none, [], [], none⟩, ⟨false, none, [], [], none⟩, ⟨false, some [0, 1, 2, 3, 4, 5, 6, 7, 8, 9], [], [], none⟩] = some (c_laws_eqTermS, r_laws_eqTermS) := by kernel_rfl
def c_laws_eqFlagSum : AC := seq (reg [⟨(some 2), box 4 (t 0), none⟩, ⟨(some 3), box 4 (t 1), none⟩, ⟨(some 4), mv (c (.bool false)), none⟩]) (seq (seq (reg [⟨(some 5), fad (t 2) 0, none⟩, ⟨(some 6), ld (t 5) 2 true, none⟩, ⟨(some 7), fad (t 3) 0, none⟩, ⟨(some 8), ld (t 7) 2 true, none⟩, ⟨(some 9), callq (c (.fn 59 [])) [t 6, t 8], none⟩, ⟨(some 10), un .not (t 9), none⟩]) (cond (t 10) (seq (reg [⟨(some 4), mv (c (.bool false)), none⟩]) (ret)) (skip))) (seq (seq (reg [⟨(some 11), fad (t 2) 2, none⟩, ⟨(some 12), ld (t 11) 1 false, none⟩, ⟨(some 13), fad (t 3) 2, none⟩, ⟨(some 14), ld (t 13) 1 false, none⟩, ⟨(some 15), bin .neq (t 12) (t 14), none⟩]) (cond (t 15) (seq (reg [⟨(some 4), mv (c (.bool false)), none⟩]) (ret)) (skip))) (seq (seq (reg [⟨(some 16), fad (t 2) 3, none⟩, ⟨(some 17), ld (t 16) 1 false, none⟩, ⟨(some 18), fad (t 3) 3, none⟩, ⟨(some 19), ld (t 18) 1 false, none⟩, ⟨(some 20), callq (c (.fn 60 [])) [t 17, t 19], none⟩, ⟨(some 21), un .not (t 20), none⟩]) (cond (t 21) (seq (reg [⟨(some 4), mv (c (.bool false)), none⟩]) (ret)) (skip))) (seq (reg [⟨(some 4), mv (c (.bool true)), none⟩]) (ret)))))
def r_laws_eqFlagSum : List ARes := [.tmp 4]
theorem k_laws_eqFlagSum : acLin Go.Proofs.Tryz.prog 26 2 (inQ [59, 60] []) [] = some (c_laws_eqFlagSum, r_laws_eqFlagSum) := by kernel_rfl
end Go.Proofs.YtgiakpeneckgfaaGreatDoorAi
end

section
/- Contracts: types and least forms of flags. -/
namespace Go.Proofs.YtgiakpeneckgfaaGreatDoorAi
open Go Go.RowKit
set_option linter.unusedVariables false
set_option linter.unusedSimpArgs false
set_option maxRecDepth 20000

def spanB (n k : Int) : Bool := decide (n ≤ 3) && (decide (n ≤ k) && decide (k ≤ 5))
noncomputable def sp_span : List AV → Option (AV) := pf (ι := (Int) × (Int) × (Int)) (α := AV) (fun ⟨n, e, k⟩ => 0 ≤ e ∧ e ≤ 4294967295) (fun ⟨n, e, k⟩ => [.agg [.int .i64 n, .int .u32 e], .int .i64 k]) (fun ⟨n, e, k⟩ => .bool (spanB n k))
theorem sp_span_eq (n e k : Int) (h : 0 ≤ e ∧ e ≤ 4294967295) : sp_span [.agg [.int .i64 n, .int .u32 e], .int .i64 k] = some (.bool (spanB n k)) := by
  unfold sp_span
  exact pf_eq (ι := (Int) × (Int) × (Int)) (α := AV) (n, e, k) h (by rintro ⟨n', e', k'⟩ _ e; simp_all [Int.natCast_inj])
theorem q_impl_spanOk : QP PP 85 sp_span := by
  refine QP_pf (fun i h => ?_) fun i h => ?_
  · obtain ⟨n, e, k⟩ := i; exact ⟨by first | rfl | simp, by first | rfl | simp⟩
  obtain ⟨n, e, k⟩ := i
  replace h : 0 ≤ e ∧ e ≤ 4294967295 := h
  refine P_code (Quiet.q1 q_impl_in Quiet.nil) hmix k_impl_spanOk rfl ?_ ?_
  · first | rfl | simp
  show wpc 0 PP _ c_impl_spanOk (initSt [.agg [.int .i64 n, .int .u32 e], .int .i64 k] .nil) (endP r_impl_spanOk (.bool (spanB n k)))
  unfold spanB
  by_cases h1 : n ≤ 3 <;> simp -dsimp -implicitDefEqProofs [c_impl_spanOk, r_impl_spanOk, h1]
theorem q_spec_l05Frame : QP PP 70 sp_span := by
  refine QP_pf (fun i h => ?_) fun i h => ?_
  · obtain ⟨n, e, k⟩ := i; exact ⟨by first | rfl | simp, by first | rfl | simp⟩
  obtain ⟨n, e, k⟩ := i
  replace h : 0 ≤ e ∧ e ≤ 4294967295 := h
  refine P_code (Quiet.q1 q_spec_l00In Quiet.nil) hmix k_spec_l05Frame rfl ?_ ?_
  · first | rfl | simp
  show wpc 0 PP _ c_spec_l05Frame (initSt [.agg [.int .i64 n, .int .u32 e], .int .i64 k] .nil) (endP r_spec_l05Frame (.bool (spanB n k)))
  unfold spanB
  by_cases h1 : n ≤ 3 <;> simp -dsimp -implicitDefEqProofs [c_spec_l05Frame, r_spec_l05Frame, h1]
noncomputable def sp_nan32 : List AV → Option (AV) := pf (ι := (Int)) (α := AV) (fun a => True) (fun a => [.int .u32 a]) (fun a => .bool false)
theorem sp_nan32_eq (a : Int) : sp_nan32 [.int .u32 a] = some (.bool false) := by
  unfold sp_nan32
  exact pf_eq (ι := (Int)) (α := AV) a trivial (by rintro a' _ e; simp_all [Int.natCast_inj])
attribute [simp] sp_nan32_eq
theorem q_cmp_isNaN_uint32 : QP PP 133 sp_nan32 := by
  refine QP_pf (fun a h => ?_) fun a h => ?_
  · exact ⟨by first | rfl | simp, by first | rfl | simp⟩
  replace h : True := h
  refine P_code Quiet.nil hmix k_cmp_isNaN_uint32 rfl ?_ ?_
  · first | rfl | simp
  show wpc 0 PP _ c_cmp_isNaN_uint32 (initSt [.int .u32 a] .nil) (endP r_cmp_isNaN_uint32 (.bool false))
  have h1 : (a != a) = false := by simp
  simp -dsimp -implicitDefEqProofs [c_cmp_isNaN_uint32, r_cmp_isNaN_uint32, h1]
def ordI (a b : Int) : Int := if a < b then -1 else if b < a then 1 else 0
noncomputable def sp_cmp32 : List AV → Option (AV) := pf (ι := (Int) × (Int)) (α := AV) (fun ⟨a, b⟩ => True) (fun ⟨a, b⟩ => [.int .u32 a, .int .u32 b]) (fun ⟨a, b⟩ => .int .i64 (ordI a b))
theorem sp_cmp32_eq (a b : Int) : sp_cmp32 [.int .u32 a, .int .u32 b] = some (.int .i64 (ordI a b)) := by
  unfold sp_cmp32
  exact pf_eq (ι := (Int) × (Int)) (α := AV) (a, b) trivial (by rintro ⟨a', b'⟩ _ e; simp_all [Int.natCast_inj])
attribute [simp] sp_cmp32_eq
theorem q_cmp_Compare_uint32 : QP PP 114 sp_cmp32 := by
  refine QP_pf (fun i h => ?_) fun i h => ?_
  · obtain ⟨a, b⟩ := i; exact ⟨by first | rfl | simp, by first | rfl | simp⟩
  obtain ⟨a, b⟩ := i
  replace h : True := h
  refine P_code (Quiet.q1 q_cmp_isNaN_uint32 Quiet.nil) hmix k_cmp_Compare_uint32 rfl ?_ ?_
  · first | rfl | simp
  show wpc 0 PP _ c_cmp_Compare_uint32 (initSt [.int .u32 a, .int .u32 b] .nil) (endP r_cmp_Compare_uint32 (.int .i64 (ordI a b)))
  unfold ordI
  by_cases h1 : a < b
  · simp -dsimp -implicitDefEqProofs [c_cmp_Compare_uint32, r_cmp_Compare_uint32, h1]
  · by_cases h2 : b < a <;> simp -dsimp -implicitDefEqProofs [c_cmp_Compare_uint32, r_cmp_Compare_uint32, h1, h2]
noncomputable def sp_flagOrd : List AV → Option (AV) := pf (ι := (Int) × (Int) × (Int) × (Int) × (Int) × (Int)) (α := AV) (fun ⟨k, n, a, k', n', b⟩ => True) (fun ⟨k, n, a, k', n', b⟩ => [.agg [.int .i64 k, .int .i64 n, .int .u32 a], .agg [.int .i64 k', .int .i64 n', .int .u32 b]]) (fun ⟨k, n, a, k', n', b⟩ => .int .i64 (ordI a b))
theorem sp_flagOrd_eq (k n a k' n' b : Int) : sp_flagOrd [.agg [.int .i64 k, .int .i64 n, .int .u32 a], .agg [.int .i64 k', .int .i64 n', .int .u32 b]] = some (.int .i64 (ordI a b)) := by
  unfold sp_flagOrd
  exact pf_eq (ι := (Int) × (Int) × (Int) × (Int) × (Int) × (Int)) (α := AV) (k, n, a, k', n', b) trivial (by rintro ⟨k', n', a', k'', n'', b'⟩ _ e; simp_all [Int.natCast_inj])
attribute [simp] sp_flagOrd_eq
theorem q_impl_flagOrder : QP PP 89 sp_flagOrd := by
  refine QP_pf (fun i h => ?_) fun i h => ?_
  · obtain ⟨k, n, a, k', n', b⟩ := i; exact ⟨by first | rfl | simp, by first | rfl | simp⟩
  obtain ⟨k, n, a, k', n', b⟩ := i
  replace h : True := h
  refine P_code (Quiet.q1 q_cmp_Compare_uint32 Quiet.nil) hmix k_impl_flagOrder rfl ?_ ?_
  · first | rfl | simp
  show wpc 0 PP _ c_impl_flagOrder (initSt [.agg [.int .i64 k, .int .i64 n, .int .u32 a], .agg [.int .i64 k', .int .i64 n', .int .u32 b]] .nil) (endP r_impl_flagOrder (.int .i64 (ordI a b)))
  simp -dsimp -implicitDefEqProofs [c_impl_flagOrder, r_impl_flagOrder]
theorem ordI_ge (a b : Int) : decide (0 ≤ ordI a b) = decide (b ≤ a) := by
  unfold ordI
  by_cases h1 : a < b
  · rw [if_pos h1, decide_eq_false (by omega), decide_eq_false (by omega)]
  · rw [if_neg h1, decide_eq_true (show b ≤ a by omega)]
    split <;> rfl
/-! ### least graphs -/
noncomputable def sp_least2 : List (Option (List AV)) → List AV → Option (AV × List (Option (List AV))) := pv (pf (ι := (Nat) × (Int) × (Nat) × (List Int)) (α := AV × List (Option (List AV))) (fun ⟨n, e, c, K⟩ => (0 ≤ e ∧ e ≤ 4294967295) ∧ distL K ∧ K.length = n) (fun i => .agg (((fun ⟨n, e, c, K⟩ => [some [.int .i64 n, .int .u32 c], some [.int .i64 n, .int .u32 e]] : (Nat) × (Int) × (Nat) × (List Int) → List (Option (List AV))) i).map enO) :: (fun ⟨n, e, c, K⟩ => [.sl (insA K) false, .ptr 0 0, .ptr 1 0] : (Nat) × (Int) × (Nat) × (List Int) → List AV) i) (fun ⟨n, e, c, K⟩ => (.bool false, [some [.int .i64 n, .int .u32 (min c (onE e K) : Nat)], some [.int .i64 n, .int .u32 e]])))
theorem sp_least2_eq (n : Nat) (e : Int) (c : Nat) (K : List Int) (h : (0 ≤ e ∧ e ≤ 4294967295) ∧ distL K ∧ K.length = n) : sp_least2 [some [.int .i64 n, .int .u32 c], some [.int .i64 n, .int .u32 e]] [.sl (insA K) false, .ptr 0 0, .ptr 1 0] = some (.bool false, [some [.int .i64 n, .int .u32 (min c (onE e K) : Nat)], some [.int .i64 n, .int .u32 e]]) := by
  unfold sp_least2 pv
  exact pf_eq (ι := (Nat) × (Int) × (Nat) × (List Int)) (α := AV × List (Option (List AV))) (n, e, c, K) h (by rintro ⟨n', e', c', K'⟩ _ e; simp_all [enO, Int.natCast_inj])
theorem v_impl_Graph_least_1 : QV PP 132 sp_least2 := by
  refine QV_pf fun i h => ?_
  obtain ⟨n, e, c, K⟩ := i
  replace h : (0 ≤ e ∧ e ≤ 4294967295) ∧ distL K ∧ K.length = n := h
  refine H_code (Quiet.e1 q_impl_Graph_on.toR Quiet.nil) hmix k_impl_Graph_least_1 rfl (fun b => b) (by simp [AHeap.n]) (fun _ _ => rfl) (by rfl) (by first | rfl | simp) ?_
  show wpc _ PP _ c_impl_Graph_least_1 (initSt [.sl (insA K) false, .ptr 0 0, .ptr 1 0] ⟨[some [.int .i64 n, .int .u32 c], some [.int .i64 n, .int .u32 e]]⟩) (endH (fun b => b) r_impl_Graph_least_1 (.bool false) [some [.int .i64 n, .int .u32 (min c (onE e K) : Nat)], some [.int .i64 n, .int .u32 e]])
  obtain ⟨he, hK, hl⟩ := h
  have ho := sp_on_eq n e K ⟨he, hK⟩
  rw [hl] at ho
  simp -dsimp -implicitDefEqProofs [c_impl_Graph_least_1, r_impl_Graph_least_1, ho, hsub]
  split <;> omega
def lstF (e : Int) (AL : List (List Int)) (c : Nat) : Nat := AL.foldl (fun c K => min c (onE e K)) c
def lstEn (e : Int) : List Int → Nat → Bool × Nat := fun K c => (false, min c (onE e K))
theorem goL_lst (e : Int) : ∀ (AL : List (List Int)) (c : Nat), goL (lstEn e) AL c = (false, lstF e AL c)
  | [], c => rfl
  | L :: r, c => by
    rw [goL]
    show (if (lstEn e L c).1 = true then _ else goL (lstEn e) r (lstEn e L c).2) = _
    simp only [lstEn, Bool.false_eq_true, if_false]
    exact goL_lst e r _
def leastE (n stay : Nat) (e : Nat) : Nat := lstF e (ordersL n stay) e
theorem hget3 {a b d : Option (List AV)} {i : Nat} {cs : List AV} (h : hget [a, b, d] i = some cs) : (i = 0 ∧ a = some cs) ∨ (i = 1 ∧ b = some cs) ∨ (i = 2 ∧ d = some cs) := by
  have := hget_lt h
  simp at this
  have h2 : i = 0 ∨ i = 1 ∨ i = 2 := by omega
  rcases h2 with rfl | rfl | rfl
  · exact .inl ⟨rfl, by simpa [hget] using h⟩
  · exact .inr (.inl ⟨rfl, by simpa [hget] using h⟩)
  · exact .inr (.inr ⟨rfl, by simpa [hget] using h⟩)
noncomputable def sp_leastG2 : List AV → Option (AV) := pf (ι := (Nat) × (Nat) × (Nat)) (α := AV) (fun ⟨n, stay, e⟩ => (n ≤ 5 ∧ stay ≤ n) ∧ e ≤ 4294967295) (fun ⟨n, stay, e⟩ => [.agg [.int .i64 n, .int .u32 e], .int .i64 stay]) (fun ⟨n, stay, e⟩ => .agg [.int .i64 n, .int .u32 (leastE n stay e)])
theorem sp_leastG2_eq (n stay e : Nat) (h : (n ≤ 5 ∧ stay ≤ n) ∧ e ≤ 4294967295) : sp_leastG2 [.agg [.int .i64 n, .int .u32 e], .int .i64 stay] = some (.agg [.int .i64 n, .int .u32 (leastE n stay e)]) := by
  unfold sp_leastG2
  exact pf_eq (ι := (Nat) × (Nat) × (Nat)) (α := AV) (n, stay, e) h (by rintro ⟨n', stay', e'⟩ _ e; simp_all [Int.natCast_inj])
theorem q_impl_Graph_least : QP PP 113 sp_leastG2 := by
  refine QP_pf (fun i h => ?_) fun i h => ?_
  · obtain ⟨n, stay, e⟩ := i; exact ⟨by first | rfl | simp, by first | rfl | simp⟩
  obtain ⟨n, stay, e⟩ := i
  replace h : (n ≤ 5 ∧ stay ≤ n) ∧ e ≤ 4294967295 := h
  refine P_code Quiet.nil hmix k_impl_Graph_least rfl ?_ ?_
  · first | rfl | simp
  show wpc 0 PP _ c_impl_Graph_least (initSt [.agg [.int .i64 n, .int .u32 e], .int .i64 stay] .nil) (endP r_impl_Graph_least (.agg [.int .i64 n, .int .u32 (leastE n stay e)]))
  obtain ⟨⟨hn, hst⟩, he⟩ := h
  let H : Nat → List (Option (List AV)) := fun c => [some [.int .i64 n, .int .u32 e], some [.int .i64 0, .int .u32 0], some [.int .i64 n, .int .u32 c]]
  have hT := T_orders (ι := Nat) (H := H) (N := 3) (g2 := 132) (caps2 := [.ptr 2 0, .ptr 0 0]) (en := lstEn e) (e := e) (fun s => rfl)
    (fun s b hb => by
      have h2 : b = 0 ∨ b = 1 ∨ b = 2 := by omega
      rcases h2 with rfl | rfl | rfl <;> rfl)
    (fun s b cs hb => by
      rcases hget3 hb with ⟨_, h⟩ | ⟨_, h⟩ | ⟨_, h⟩ <;> (obtain rfl := Option.some.inj h; simp [H]))
    (by simp) rfl hn hst
    (fun s K hK hr hnd => by
      refine v_impl_Graph_least_1.toE _ _ _ _ ?_
      have := sp_least2_eq n e s K ⟨⟨by omega, by omega⟩, ⟨hnd, by omega, fun x hx => by have := hr x hx; omega⟩, hK⟩
      simp [H, this, lstEn]) e
  have hG : goL (lstEn e) (ordersL n stay) e = (false, leastE n stay e) := goL_lst e _ _
  rw [hG] at hT
  simp -dsimp -implicitDefEqProofs [c_impl_Graph_least, r_impl_Graph_least]
  refine T.mono hT ?_
  rintro r A' ⟨rfl, rfl⟩
  simp only [H]
  simp -dsimp -implicitDefEqProofs
noncomputable def sp_flagLst : List AV → Option (AV) := pf (ι := (Nat) × (Nat) × (Nat)) (α := AV) (fun ⟨k, n, e⟩ => (n ≤ 5 ∧ k ≤ n) ∧ e ≤ 4294967295) (fun ⟨k, n, e⟩ => [.agg [.int .i64 k, .int .i64 n, .int .u32 e]]) (fun ⟨k, n, e⟩ => .agg [.int .i64 k, .int .i64 n, .int .u32 (leastE n k e)])
theorem sp_flagLst_eq (k n e : Nat) (h : (n ≤ 5 ∧ k ≤ n) ∧ e ≤ 4294967295) : sp_flagLst [.agg [.int .i64 k, .int .i64 n, .int .u32 e]] = some (.agg [.int .i64 k, .int .i64 n, .int .u32 (leastE n k e)]) := by
  unfold sp_flagLst
  exact pf_eq (ι := (Nat) × (Nat) × (Nat)) (α := AV) (k, n, e) h (by rintro ⟨k', n', e'⟩ _ e; simp_all [Int.natCast_inj])
theorem q_impl_Flag_least : QP PP 88 sp_flagLst := by
  refine QP_pf (fun i h => ?_) fun i h => ?_
  · obtain ⟨k, n, e⟩ := i; exact ⟨by first | rfl | simp, by first | rfl | simp⟩
  obtain ⟨k, n, e⟩ := i
  replace h : (n ≤ 5 ∧ k ≤ n) ∧ e ≤ 4294967295 := h
  refine P_code (Quiet.q1 q_impl_Graph_least Quiet.nil) hmix k_impl_Flag_least rfl ?_ ?_
  · first | rfl | simp
  show wpc 0 PP _ c_impl_Flag_least (initSt [.agg [.int .i64 k, .int .i64 n, .int .u32 e]] .nil) (endP r_impl_Flag_least (.agg [.int .i64 k, .int .i64 n, .int .u32 (leastE n k e)]))
  simp -dsimp -implicitDefEqProofs [c_impl_Flag_least, r_impl_Flag_least, sp_leastG2_eq n k e h]
end Go.Proofs.YtgiakpeneckgfaaGreatDoorAi
end

section
/- Contracts: types of flags, orders of flags. -/
namespace Go.Proofs.YtgiakpeneckgfaaGreatDoorAi
open Go Go.RowKit
set_option linter.unusedVariables false
set_option linter.unusedSimpArgs false
set_option maxRecDepth 20000

theorem upTo_dist {k : Nat} (h : k ≤ 5) : distL (upTo k) := ⟨upTo_nodup k, by simp; omega, fun x hx => by have := upTo_mem hx; omega⟩
def typeE (k e : Nat) : Nat := onE e (upTo k)
noncomputable def sp_typeF : List AV → Option (AV) := pf (ι := (Nat) × (Nat) × (Nat)) (α := AV) (fun ⟨k, n, e⟩ => k ≤ 3 ∧ e ≤ 4294967295) (fun ⟨k, n, e⟩ => [.agg [.int .i64 k, .int .i64 n, .int .u32 e]]) (fun ⟨k, n, e⟩ => .agg [.int .i64 k, .int .u32 (typeE k e)])
theorem sp_typeF_eq (k n e : Nat) (h : k ≤ 3 ∧ e ≤ 4294967295) : sp_typeF [.agg [.int .i64 k, .int .i64 n, .int .u32 e]] = some (.agg [.int .i64 k, .int .u32 (typeE k e)]) := by
  unfold sp_typeF
  exact pf_eq (ι := (Nat) × (Nat) × (Nat)) (α := AV) (k, n, e) h (by rintro ⟨k', n', e'⟩ _ e; simp_all [Int.natCast_inj])
theorem q_impl_Flag_typeOf : QP PP 112 sp_typeF := by
  refine QP_pf (fun i h => ?_) fun i h => ?_
  · obtain ⟨k, n, e⟩ := i; exact ⟨by first | rfl | simp, by first | rfl | simp⟩
  obtain ⟨k, n, e⟩ := i
  replace h : k ≤ 3 ∧ e ≤ 4294967295 := h
  refine P_code (Quiet.e1 n_impl_first.toE (Quiet.e1 q_impl_Graph_on.toR Quiet.nil)) hmix k_impl_Flag_typeOf rfl ?_ ?_
  · first | rfl | simp
  show wpc 0 PP _ c_impl_Flag_typeOf (initSt [.agg [.int .i64 k, .int .i64 n, .int .u32 e]] .nil) (endP r_impl_Flag_typeOf (.agg [.int .i64 k, .int .u32 (typeE k e)]))
  have hf := sp_firstP_eq k (by omega)
  have ho := sp_on_eq n e (upTo k) ⟨⟨by omega, by omega⟩, upTo_dist (by omega)⟩
  rw [upTo_len] at ho
  unfold firstR at hf
  unfold typeE
  rcases Nat.eq_zero_or_pos k with rfl | hk
  · rw [if_pos rfl] at hf
    have ho' : sp_on [.agg [.int .i64 n, .int .u32 e], .sl [] false] = some (.agg [.int .i64 0, .int .u32 (onE e (upTo 0))]) := ho
    have hf' : sp_firstP [.int .i64 0] = some (.sl [] true, []) := hf
    simp -dsimp -implicitDefEqProofs [c_impl_Flag_typeOf, r_impl_Flag_typeOf, hf', ho']
  · rw [if_neg (by omega)] at hf
    simp -dsimp -implicitDefEqProofs [c_impl_Flag_typeOf, r_impl_Flag_typeOf, hf, ho]
theorem q_spec_l03Type : QP PP 94 sp_typeF := by
  refine QP_pf (fun i h => ?_) fun i h => ?_
  · obtain ⟨k, n, e⟩ := i; exact ⟨by first | rfl | simp, by first | rfl | simp⟩
  obtain ⟨k, n, e⟩ := i
  replace h : k ≤ 3 ∧ e ≤ 4294967295 := h
  refine P_code (Quiet.e1 n_spec_l01First.toE (Quiet.e1 q_spec_l01On.toR Quiet.nil)) hmix k_spec_l03Type rfl ?_ ?_
  · first | rfl | simp
  show wpc 0 PP _ c_spec_l03Type (initSt [.agg [.int .i64 k, .int .i64 n, .int .u32 e]] .nil) (endP r_spec_l03Type (.agg [.int .i64 k, .int .u32 (typeE k e)]))
  have hf := sp_firstP_eq k (by omega)
  have ho := sp_on_eq n e (upTo k) ⟨⟨by omega, by omega⟩, upTo_dist (by omega)⟩
  rw [upTo_len] at ho
  unfold firstR at hf
  unfold typeE
  rcases Nat.eq_zero_or_pos k with rfl | hk
  · rw [if_pos rfl] at hf
    have ho' : sp_on [.agg [.int .i64 n, .int .u32 e], .sl [] false] = some (.agg [.int .i64 0, .int .u32 (onE e (upTo 0))]) := ho
    have hf' : sp_firstP [.int .i64 0] = some (.sl [] true, []) := hf
    simp -dsimp -implicitDefEqProofs [c_spec_l03Type, r_spec_l03Type, hf', ho']
  · rw [if_neg (by omega)] at hf
    simp -dsimp -implicitDefEqProofs [c_spec_l03Type, r_spec_l03Type, hf, ho]
/-- The orders in which some first vertices stay: those of the others behind them. -/
def behind (k : Nat) (L : List Int) : List Int := upTo k ++ L.map (· + (k : Int))
theorem orders_behind : ∀ n : Nat, n ≤ 5 → ∀ k : Nat, k ≤ n → ordersL n k = (permL (n - k) (n - k)).map (behind k) := by
  have : ∀ n : Nat, n < 6 → ∀ k : Nat, k < n + 1 → ordersL n k = (permL (n - k) (n - k)).map (behind k) := by decide +kernel
  exact fun n hn k hk => this n (by omega) k (by omega)
def fitTB (k n e tn te s : Int) : Bool := (n == s) && (((k : Int) == tn) && ((typeE k.toNat e.toNat : Int) == te))
noncomputable def sp_fitsF : List AV → Option (AV) := pf (ι := (Nat) × (Nat) × (Nat) × (Int) × (Int) × (Int)) (α := AV) (fun ⟨k, n, e, tn, te, s⟩ => k ≤ 3 ∧ e ≤ 4294967295) (fun ⟨k, n, e, tn, te, s⟩ => [.agg [.int .i64 k, .int .i64 n, .int .u32 e], .agg [.int .i64 tn, .int .u32 te], .int .i64 s]) (fun ⟨k, n, e, tn, te, s⟩ => .bool (fitTB k n e tn te s))
theorem sp_fitsF_eq (k n e : Nat) (tn te s : Int) (h : k ≤ 3 ∧ e ≤ 4294967295) : sp_fitsF [.agg [.int .i64 k, .int .i64 n, .int .u32 e], .agg [.int .i64 tn, .int .u32 te], .int .i64 s] = some (.bool (fitTB k n e tn te s)) := by
  unfold sp_fitsF
  exact pf_eq (ι := (Nat) × (Nat) × (Nat) × (Int) × (Int) × (Int)) (α := AV) (k, n, e, tn, te, s) h (by rintro ⟨k', n', e', tn', te', s'⟩ _ e; simp_all [Int.natCast_inj])
theorem q_impl_Flag_fits : QP PP 87 sp_fitsF := by
  refine QP_pf (fun i h => ?_) fun i h => ?_
  · obtain ⟨k, n, e, tn, te, s⟩ := i; exact ⟨by first | rfl | simp, by first | rfl | simp⟩
  obtain ⟨k, n, e, tn, te, s⟩ := i
  replace h : k ≤ 3 ∧ e ≤ 4294967295 := h
  refine P_code (Quiet.q1 q_impl_Flag_typeOf Quiet.nil) hmix k_impl_Flag_fits rfl ?_ ?_
  · first | rfl | simp
  show wpc 0 PP _ c_impl_Flag_fits (initSt [.agg [.int .i64 k, .int .i64 n, .int .u32 e], .agg [.int .i64 tn, .int .u32 te], .int .i64 s] .nil) (endP r_impl_Flag_fits (.bool (fitTB k n e tn te s)))
  have ht := sp_typeF_eq k n e h
  unfold fitTB
  cases h1 : ((n : Int) == s) <;> simp -dsimp -implicitDefEqProofs [c_impl_Flag_fits, r_impl_Flag_fits, ht, h1]
theorem q_spec_l05Fits : QP PP 72 sp_fitsF := by
  refine QP_pf (fun i h => ?_) fun i h => ?_
  · obtain ⟨k, n, e, tn, te, s⟩ := i; exact ⟨by first | rfl | simp, by first | rfl | simp⟩
  obtain ⟨k, n, e, tn, te, s⟩ := i
  replace h : k ≤ 3 ∧ e ≤ 4294967295 := h
  refine P_code (Quiet.q1 q_spec_l03Type Quiet.nil) hmix k_spec_l05Fits rfl ?_ ?_
  · first | rfl | simp
  show wpc 0 PP _ c_spec_l05Fits (initSt [.agg [.int .i64 k, .int .i64 n, .int .u32 e], .agg [.int .i64 tn, .int .u32 te], .int .i64 s] .nil) (endP r_spec_l05Fits (.bool (fitTB k n e tn te s)))
  have ht := sp_typeF_eq k n e h
  unfold fitTB
  cases h1 : ((n : Int) == s) <;> cases h2 : ((k : Int) == tn) <;> cases h3 : ((typeE k e : Int) == te) <;> simp -dsimp -implicitDefEqProofs [c_spec_l05Fits, r_spec_l05Fits, ht, h1, h2, h3]
end Go.Proofs.YtgiakpeneckgfaaGreatDoorAi
end

section
/- Contracts: orders in which labels stay. -/
namespace Go.Proofs.YtgiakpeneckgfaaGreatDoorAi
open Go Go.RowKit
set_option linter.unusedVariables false
set_option linter.unusedSimpArgs false
set_option maxRecDepth 20000

def curO (k : Nat) (L : List Int) (i : Nat) : List Int := upTo k ++ (L.take i).map (· + (k : Int))
theorem curO_zero (k : Nat) (L : List Int) : curO k L 0 = upTo k := by simp [curO]
theorem curO_all (k : Nat) (L : List Int) : curO k L L.length = behind k L := by simp [curO, behind]
theorem curO_snoc (k : Nat) (L : List Int) (i : Nat) (h : i < L.length) : curO k L (i + 1) = curO k L i ++ [L[i] + (k : Int)] := by
  unfold curO; rw [take_snoc L i h, List.map_append, List.append_assoc]; rfl
theorem curO_len (k : Nat) (L : List Int) (i : Nat) (h : i ≤ L.length) : (curO k L i).length = k + i := by
  simp [curO]; omega
def listR (M : List Int) : AV × List (Option (List AV)) := (cellL 0 M, objL M)
def l3St (k : Nat) (L : List Int) (i : Nat) : St := ⟨tl [(0, .int .i64 k), (1, .sl (insA L) false), (5, cellL 0 (curO k L i)), (6, .int .i64 i)], ⟨objL (curO k L i)⟩⟩
theorem objL_inj (f : Nat → Nat) (L : List Int) : injB f (objL L).length = true := by
  by_cases hL : L = []
  · rw [hL, objL_nil]; rfl
  · rw [objL_cons hL]; rfl
theorem cellL_lt0 (L : List Int) : AV.lt (objL L).length (cellL 0 L) = true := by
  by_cases hL : L = []
  · rw [hL, objL_nil, cellL_nil]; rfl
  · rw [objL_cons hL, cellL_cons hL]; simp
noncomputable def sp_orderP : List AV → Option (AV × List (Option (List AV))) := pf (ι := (Nat) × (List Int)) (α := AV × List (Option (List AV))) (fun ⟨k, L⟩ => k ≤ 5 ∧ L.length ≤ 5 ∧ ∀ x ∈ L, 0 ≤ x ∧ x ≤ 5) (fun ⟨k, L⟩ => [.int .i64 k, .sl (insA L) false]) (fun ⟨k, L⟩ => listR (behind k L))
theorem sp_orderP_eq (k : Nat) (L : List Int) (h : k ≤ 5 ∧ L.length ≤ 5 ∧ ∀ x ∈ L, 0 ≤ x ∧ x ≤ 5) : sp_orderP [.int .i64 k, .sl (insA L) false] = some (listR (behind k L)) := by
  unfold sp_orderP
  exact pf_eq (ι := (Nat) × (List Int)) (α := AV × List (Option (List AV))) (k, L) h (by rintro ⟨k', L'⟩ _ e; simp_all [Int.natCast_inj])
theorem n_spec_l03Order : QN PP 98 sp_orderP := by
  refine QN_pf (fun i h => ?_) fun i h => ?_
  · obtain ⟨k, L⟩ := i; first | rfl | simp
  obtain ⟨k, L⟩ := i
  replace h : k ≤ 5 ∧ L.length ≤ 5 ∧ ∀ x ∈ L, 0 ≤ x ∧ x ≤ 5 := h
  show T PP 98 [.int .i64 k, .sl (insA L) false] .nil fun r' A' => r' = ((listR (behind k L) : AV × List (Option (List AV)))).1 ∧ A' = ⟨((listR (behind k L) : AV × List (Option (List AV)))).2⟩
  obtain ⟨hk, hl, hx⟩ := h
  unfold listR
  refine H_code (Quiet.e1 n_spec_l01First.toE Quiet.nil) hmix k_spec_l03Order rfl (fun _ => 0) (by simp [AHeap.n, AHeap.nil]) (by intro b hb; simp [AHeap.n, AHeap.nil] at hb <;> subst hb <;> rfl) (objL_inj _ _) (cellL_lt0 _) ?_
  have hf := sp_firstP_eq k (by omega)
  unfold firstR at hf
  rcases Nat.eq_zero_or_pos k with rfl | hk0
  · rw [if_pos rfl] at hf
    have hf' : sp_firstP [.int .i64 0] = some (.sl [] true, []) := hf
    simp -dsimp -implicitDefEqProofs [c_spec_l03Order, r_spec_l03Order, hf']
    refine wpLoop_st (l3St 0 L) (fun i => i ≤ L.length) (fun i => L.length - i) 0 (by omega) (Sub.keep (by simp [l3St]) (by simp [hsub, l3St, curO_zero, upTo, objL_nil]) (by simp [l3St, curO_zero, upTo, cellL_nil, objL_nil])) ?_
    intro i hi
    have hcl := curO_len 0 L i hi
    rcases Nat.eq_zero_or_pos i with rfl | hi0
    · have hc0 : curO 0 L 0 = [] := rfl
      simp -dsimp -implicitDefEqProofs [l3St, hc0, cellL_nil, objL_nil]
      refine brW_of (fun h => ?_) (fun h => ?_) <;> simp only [decide_eq_true_eq, decide_eq_false_iff_not] at h
      · have hi' : 0 < L.length := by omega
        have hxi := hx L[0] (List.getElem_mem hi')
        have hwk : IntKind.wrap .i64 L[0] = L[0] := wrapI64 (by omega) (by omega)
        have hsn : curO 0 L 1 = [L[0]] := by
          have := curO_snoc 0 L 0 hi'
          rw [hc0] at this
          simpa using this
        have hw1 : IntKind.wrap .i64 1 = 1 := rfl
        have hm : 1 * 9 ≤ mostBytes := by decide
        have hne1 : [L[0]] ≠ [] := by simp
        simp -dsimp -implicitDefEqProofs [hi', hwk, hw1, hm]
        exact .mk 1 (by omega) (by omega) (Sub.mk' (fun b => if b = 0 then 1 else b) (by simp [l3St]) (by intro b hb; omega) (by show injB _ (objL (curO 0 L 1)).length = true; rw [hsn, objL_cons hne1]; rfl) (by simp [hsub, l3St, hsn, objL_cons hne1, flat_in]) (by simp [l3St, hsn, cellL_cons hne1, objL_cons hne1, hw1]))
      · have hL : L = [] := List.eq_nil_of_length_eq_zero (by omega)
        subst hL
        have hbh : behind 0 [] = [] := rfl
        simp -dsimp -implicitDefEqProofs [hsub, hbh, cellL_nil, objL_nil]
    have hne : curO 0 L i ≠ [] := by intro e; have := congrArg List.length e; rw [hcl] at this; simp only [List.length_nil] at this; omega
    simp -dsimp -implicitDefEqProofs [l3St]
    refine brW_of (fun h => ?_) (fun h => ?_) <;> simp only [decide_eq_true_eq, decide_eq_false_iff_not] at h
    · have hi' : i < L.length := by omega
      have hw := wrapNat (i := i) (by omega)
      have hxi := hx L[i] (List.getElem_mem hi')
      have hwk : IntKind.wrap .i64 (((0 : Nat) : Int) + L[i]) = L[i] + ((0 : Nat) : Int) := by rw [wrapI64 (by omega) (by omega)]; omega
      have hsn := curO_snoc 0 L i hi'
      have hcl2 := curO_len 0 L (i + 1) (by omega)
      have hne2 : curO 0 L (i + 1) ≠ [] := by intro e; have := congrArg List.length e; rw [hcl2] at this; simp only [List.length_nil] at this; omega
      have hcat : flatA (insA (curO 0 L i)) ++ [.int .i64 (L[i] + ((0 : Nat) : Int))] = flatA (insA (curO 0 L (i + 1))) := by rw [hsn, flatA_append, flatA_one]; rfl
      have hwk' : IntKind.wrap .i64 L[i] = L[i] := wrapI64 (by omega) (by omega)
      have hcat' : flatA (insA (curO 0 L i)) ++ [.int .i64 L[i]] = flatA (insA (curO 0 L (i + 1))) := by simpa using hcat
      generalize hC2 : curO 0 L (i + 1) = C2 at *
      generalize curO 0 L i = C at *
      have hm : (C.length + 1) * 9 ≤ mostBytes := by simp only [mostBytes]; omega
      have hfit : ¬ (C.length + 1 ≤ C.length) := by omega
      have htl : (flatA (insA C)).take C.length = flatA (insA C) := List.take_of_length_le (by simp)
      have hC2l : C2.length = C.length + 1 := by omega
      simp -dsimp -implicitDefEqProofs [hi', hw, hwk', hm, hfit, htl, hcat', cellL_cons hne, objL_cons hne]
      exact .mk (i + 1) (by omega) (by omega) (Sub.mk' (fun b => if b = 0 then 2 else b) (by simp [l3St]) (by intro b hb; omega) (by show injB _ (objL (curO 0 L (i + 1))).length = true; rw [hC2, objL_cons hne2]; rfl) (by simp [hsub, l3St, hC2, objL_cons hne2]) (by simp [l3St, hC2, cellL_cons hne2, objL_cons hne2, hC2l, hw]))
    · have : i = L.length := by omega
      subst this
      rw [curO_all] at hne ⊢
      simp -dsimp -implicitDefEqProofs [hsub, cellL_cons hne, objL_cons hne]
  · rw [if_neg (by omega)] at hf
    simp -dsimp -implicitDefEqProofs [c_spec_l03Order, r_spec_l03Order, hf]
    refine wpLoop_st (l3St k L) (fun i => i ≤ L.length) (fun i => L.length - i) 0 (by omega) (Sub.keep (by simp [l3St]) (by simp [hsub, l3St, curO_zero, objL_cons (upTo_ne hk0)]) (by simp [l3St, curO_zero, cellL_cons (upTo_ne hk0), objL_cons (upTo_ne hk0)])) ?_
    intro i hi
    have hcl := curO_len k L i hi
    have hne : curO k L i ≠ [] := by intro e; have := congrArg List.length e; rw [hcl] at this; simp only [List.length_nil] at this; omega
    simp -dsimp -implicitDefEqProofs [l3St]
    refine brW_of (fun h => ?_) (fun h => ?_) <;> simp only [decide_eq_true_eq, decide_eq_false_iff_not] at h
    · have hi' : i < L.length := by omega
      have hw := wrapNat (i := i) (by omega)
      have hxi := hx L[i] (List.getElem_mem hi')
      have hwk : IntKind.wrap .i64 ((k : Int) + L[i]) = L[i] + k := by rw [wrapI64 (by omega) (by omega)]; omega
      have hsn := curO_snoc k L i hi'
      have hcl2 := curO_len k L (i + 1) (by omega)
      have hne2 : curO k L (i + 1) ≠ [] := by intro e; have := congrArg List.length e; rw [hcl2] at this; simp only [List.length_nil] at this; omega
      have hcat : flatA (insA (curO k L i)) ++ [.int .i64 (L[i] + (k : Int))] = flatA (insA (curO k L (i + 1))) := by rw [hsn, flatA_append, flatA_one]; rfl
      generalize hC2 : curO k L (i + 1) = C2 at *
      generalize curO k L i = C at *
      have hm : (C.length + 1) * 9 ≤ mostBytes := by simp only [mostBytes]; omega
      have hfit : ¬ (C.length + 1 ≤ C.length) := by omega
      have htl : (flatA (insA C)).take C.length = flatA (insA C) := List.take_of_length_le (by simp)
      have hC2l : C2.length = C.length + 1 := by omega
      simp -dsimp -implicitDefEqProofs [hi', hw, hwk, hm, hfit, htl, hcat, cellL_cons hne, objL_cons hne]
      exact .mk (i + 1) (by omega) (by omega) (Sub.mk' (fun b => if b = 0 then 2 else b) (by simp [l3St]) (by intro b hb; omega) (by show injB _ (objL (curO k L (i + 1))).length = true; rw [hC2, objL_cons hne2]; rfl) (by simp [hsub, l3St, hC2, objL_cons hne2]) (by simp [l3St, hC2, cellL_cons hne2, objL_cons hne2, hC2l, hw]))
    · have : i = L.length := by omega
      subst this
      rw [curO_all] at hne ⊢
      simp -dsimp -implicitDefEqProofs [hsub, cellL_cons hne, objL_cons hne]
end Go.Proofs.YtgiakpeneckgfaaGreatDoorAi
end

section
/- Contracts: the least flag of the reference. -/
namespace Go.Proofs.YtgiakpeneckgfaaGreatDoorAi
open Go Go.RowKit
set_option linter.unusedVariables false
set_option linter.unusedSimpArgs false
set_option maxRecDepth 20000

noncomputable def sp_nextNil : List AV → Option (AV) := pf (ι := (Int)) (α := AV) (fun n => True) (fun n => [.sl [] false, .int .i64 n]) (fun n => .bool false)
theorem sp_nextNil_eq (n : Int) : sp_nextNil [.sl [] false, .int .i64 n] = some (.bool false) := by
  unfold sp_nextNil
  exact pf_eq (ι := (Int)) (α := AV) n trivial (by rintro n' _ e; simp_all [Int.natCast_inj])
attribute [simp] sp_nextNil_eq
theorem q_nextNil : QP PP 96 sp_nextNil := by
  refine QP_pf (fun n h => ?_) fun n h => ?_
  · exact ⟨by first | rfl | simp, by first | rfl | simp⟩
  refine P_code Quiet.nil hmix k_spec_l01Next rfl ?_ ?_
  · first | rfl | simp
  show wpc 0 PP _ c_spec_l01Next (initSt [.sl [] false, .int .i64 n] .nil) (endP r_spec_l01Next (.bool false))
  have w0 : IntKind.i64.wrap (0 - 1) = -1 := rfl
  have w0' : IntKind.i64.wrap (-1) = -1 := rfl
  simp -dsimp -implicitDefEqProofs [c_spec_l01Next, r_spec_l01Next, w0, w0']
  refine wpLoop_st (fun (_ : Unit) => ⟨tl [(0, .sl [] false), (1, .int .i64 n), (5, .int .i64 0), (6, .int .i64 (-1))], ⟨[]⟩⟩) (fun _ => True) (fun _ => 0) () trivial (Sub.keep (by simp) (by simp [hsub]) (by simp)) ?_
  intro _ _
  simp -dsimp -implicitDefEqProofs
theorem e_nextF : QE PP 96 (refE (spV sp_nextP) (spR sp_nextNil)) := QE.ref v_spec_l01Next.toE q_nextNil.toR
theorem behind_dist {k d : Nat} (h : k + d ≤ 5) {L : List Int} (hL : L.length = d) (hr : ∀ x ∈ L, 0 ≤ x ∧ x < (d : Int)) (hn : L.Nodup) : distL (behind k L) := by
  refine ⟨?_, by simp [behind]; omega, fun x hx => ?_⟩
  · unfold behind
    refine List.nodup_append.2 ⟨upTo_nodup k, ?_, ?_⟩
    · exact List.pairwise_map.2 (hn.imp fun {a b} hab e => hab (by simpa using e))
    · intro a ha b hb e
      obtain ⟨y, hy, rfl⟩ := List.mem_map.1 hb
      have h1 := upTo_mem ha
      have h2 := hr y hy
      omega
  · unfold behind at hx
    rcases List.mem_append.1 hx with hx | hx
    · have := upTo_mem hx; omega
    · obtain ⟨y, hy, rfl⟩ := List.mem_map.1 hx
      have := hr y hy
      omega
theorem behind_len (k : Nat) (L : List Int) : (behind k L).length = k + L.length := by simp [behind]
theorem leastE_behind {n k e : Nat} (hn : n ≤ 5) (hk : k ≤ n) : leastE n k e = (permL (n - k) (n - k)).foldl (fun c L => min c (onE e (behind k L))) e := by
  unfold leastE lstF
  rw [orders_behind n hn k hk, List.foldl_map]
set_option maxHeartbeats 4000000 in
theorem q_spec_l03Least : QP PP 73 sp_flagLst := by
  refine QP_pf (fun i h => ?_) fun i h => ?_
  · obtain ⟨k, n, e⟩ := i; exact ⟨by first | rfl | simp, by first | rfl | simp⟩
  obtain ⟨k, n, e⟩ := i
  replace h : (n ≤ 5 ∧ k ≤ n) ∧ e ≤ 4294967295 := h
  refine P_code (Quiet.e1 n_spec_l01First.toE (Quiet.e1 n_spec_l03Order.toR (Quiet.e1 q_spec_l01On.toR (Quiet.e1 e_nextF Quiet.nil)))) hmix k_spec_l03Least rfl ?_ ?_
  · first | rfl | simp
  show wpc 0 PP _ c_spec_l03Least (initSt [.agg [.int .i64 k, .int .i64 n, .int .u32 e]] .nil) (endP r_spec_l03Least (.agg [.int .i64 k, .int .i64 n, .int .u32 (leastE n k e)]))
  obtain ⟨⟨hn5, hk⟩, he⟩ := h
  rw [leastE_behind hn5 hk]
  have hf := sp_firstP_eq (n - k) (by omega)
  unfold firstR at hf
  have hw : IntKind.wrap .i64 ((n : Int) - k) = ((n - k : Nat) : Int) := by rw [wrapI64 (by omega) (by omega)]; omega
  generalize hd : n - k = d at *
  have hnk : n = k + d := by omega
  rcases Nat.eq_zero_or_pos d with rfl | hdp
  · have hp : permL 0 0 = [[]] := rfl
    rw [hp, List.foldl_cons, List.foldl_nil]
    have hf0 : sp_firstP [.int .i64 0] = some (.sl [] true, []) := hf
    have hw0 : IntKind.wrap .i64 ((n : Int) - k) = 0 := hw
    have hbd := behind_dist (k := k) (d := 0) (L := []) (by omega) rfl (fun x hx => by cases hx) List.nodup_nil
    have hbl := behind_len k []
    have hon := sp_on_eq n e (behind k []) ⟨⟨by omega, by omega⟩, hbd⟩
    have hor := sp_orderP_eq k [] ⟨by omega, by simp, fun x hx => by cases hx⟩
    have hor' : sp_orderP [.int .i64 k, .sl [] false] = some (listR (behind k [])) := hor
    unfold listR at hor'
    have hbl2 : (behind k []).length = n := by rw [hbl]; simp; omega
    rw [hbl2] at hon
    generalize hX : onE e (behind k []) = X at *
    simp -dsimp -implicitDefEqProofs [c_spec_l03Least, r_spec_l03Least, hf0, hw0]
    refine wpLoop_st (fun (q : Bool × Nat) => ⟨tl [(1, .ptr 0 0), (2, .ptr 1 0), (3, .ptr 2 0), (4, .sl [] true), (5, .bool q.1)], ⟨[some [.int .i64 k, .int .i64 n, .int .u32 e], some [.int .i64 0, .int .i64 0, .int .u32 0], some [.int .i64 k, .int .i64 n, .int .u32 q.2]]⟩⟩)
      (fun q => (q.1 = true → q.2 = e) ∧ (q.1 = false → q.2 = min e X)) (fun q => if q.1 = true then 1 else 0) (true, e) ⟨fun _ => rfl, fun h => (by cases h)⟩ (Sub.keep (by simp) (by simp [hsub]) (by simp)) ?_
    rintro ⟨m, c⟩ ⟨m1, m2⟩
    simp only at m1 m2
    cases m with
    | false =>
      have hc := m2 rfl
      simp -dsimp -implicitDefEqProofs [hc]
    | true =>
      have hc := m1 rfl
      subst hc
      by_cases hbn : behind k [] = []
      · rw [hbn, cellL_nil, objL_nil] at hor'
        rw [hbn] at hon
        have hon' : sp_on [.agg [.int .i64 n, .int .u32 c], .sl [] false] = some (.agg [.int .i64 n, .int .u32 X]) := hon
        by_cases hb : X < c
        · have hbi : (X : Int) < c := by omega
          simp -dsimp -implicitDefEqProofs [hor', hon', hw0, hb, hbi]
          exact .mk (false, X) ⟨fun h => (by cases h), fun _ => (by simp only; omega)⟩ (by simp) (Sub.keep (by simp) (by simp [hsub]) (by simp))
        · have hbi : ¬ (X : Int) < c := by omega
          simp -dsimp -implicitDefEqProofs [hor', hon', hw0, hb, hbi]
          exact .mk (false, c) ⟨fun h => (by cases h), fun _ => (by simp only; omega)⟩ (by simp) (Sub.keep (by simp) (by simp [hsub]) (by simp))
      · rw [cellL_cons hbn, objL_cons hbn, hbl2] at hor'
        generalize behind k [] = BL at *
        by_cases hb : X < c
        · have hbi : (X : Int) < c := by omega
          simp -dsimp -implicitDefEqProofs [hor', hon, hbl2, hw0, hb, hbi]
          exact .mk (false, X) ⟨fun h => (by cases h), fun _ => (by simp only; omega)⟩ (by simp) (Sub.keep (by simp) (by simp [hsub]) (by simp))
        · have hbi : ¬ (X : Int) < c := by omega
          simp -dsimp -implicitDefEqProofs [hor', hon, hbl2, hw0, hb, hbi]
          exact .mk (false, c) ⟨fun h => (by cases h), fun _ => (by simp only; omega)⟩ (by simp) (Sub.keep (by simp) (by simp [hsub]) (by simp))
  · rw [if_neg (by omega)] at hf
    have hch := permL_chain d (by omega) d (Nat.le_refl _)
    have hfi := permL_first d (by omega) d (Nat.le_refl _)
    have hmem : ∀ (i : Nat) (L : List Int), (permL d d)[i]? = some L → distL L ∧ L.length = d ∧ ∀ x ∈ L, 0 ≤ x ∧ x < (d : Int) := fun i L h => permL_dist (by omega) (Nat.le_refl _) (List.mem_of_getElem? h)
    generalize permL d d = AL at hch hfi hmem ⊢
    have hAL : 0 < AL.length := by
      rcases Nat.eq_zero_or_pos AL.length with h0 | h0
      · rw [List.getElem?_eq_none (by omega)] at hfi; cases hfi
      · exact h0
    generalize hA : AL.foldl (fun c L => min c (onE e (behind k L))) e = A
    simp -dsimp -implicitDefEqProofs [c_spec_l03Least, r_spec_l03Least, hf, hw]
    refine wpLoop_st (fun (q : Nat × List Int × Nat) => ⟨tl [(1, .ptr 0 0), (2, .ptr 1 0), (3, .ptr 2 0), (4, .ref 3 1 0 d .full), (5, .bool (decide (q.1 < AL.length)))], ⟨[some [.int .i64 k, .int .i64 n, .int .u32 e], some [.int .i64 0, .int .i64 0, .int .u32 0], some [.int .i64 k, .int .i64 n, .int .u32 q.2.2], some (flatA (insA q.2.1))]⟩⟩)
      (fun q => q.1 ≤ AL.length ∧ q.2.1.length = d ∧ (q.1 < AL.length → AL[q.1]? = some q.2.1) ∧ (AL.drop q.1).foldl (fun c L => min c (onE e (behind k L))) q.2.2 = A)
      (fun q => AL.length - q.1) (0, upTo d, e) ⟨by omega, by simp, fun _ => hfi, by simpa using hA⟩ (Sub.keep (by simp) (by simp [hsub]) (by simp [hAL])) ?_
    rintro ⟨i, L, c⟩ ⟨q1, q2, q3, q4⟩
    simp only at q1 q2 q3 q4
    by_cases hi : i < AL.length
    · have hL := q3 hi
      obtain ⟨hdist, _, hr⟩ := hmem i L hL
      have hbd := behind_dist (k := k) (d := d) (by omega) q2 hr hdist.1
      have hbl := behind_len k L
      have hon := sp_on_eq n e (behind k L) ⟨⟨by omega, by omega⟩, hbd⟩
      have hbn : behind k L ≠ [] := by intro e0; have := congrArg List.length e0; rw [hbl] at this; simp only [List.length_nil] at this; omega
      have hor := sp_orderP_eq k L ⟨by omega, by omega, fun x hx => by have := hr x hx; omega⟩
      unfold listR at hor
      rw [cellL_cons hbn, objL_cons hbn] at hor
      have hnx0 := sp_nextP_eq d L .full ⟨by omega, by omega, fun x hx => by have := hr x hx; omega⟩
      have hbl2 : (behind k L).length = n := by omega
      rw [hbl2] at hon hor
      rw [q2] at hnx0
      have hnx := chainB_get hch i L hL
      have hod : (nextF d L d).2 = decide (i + 1 < AL.length) ∧ (i + 1 < AL.length → AL[i + 1]? = some (nextF d L d).1) := by
        unfold nextN at hnx
        rw [q2] at hnx
        cases ho : (nextF d L d).2 with
        | true =>
          rw [ho, if_pos rfl] at hnx
          have := (List.getElem?_eq_some_iff.1 hnx.symm).1
          exact ⟨by simp [this], fun _ => hnx.symm⟩
        | false =>
          rw [ho] at hnx
          simp only [Bool.false_eq_true, if_false] at hnx
          have : ¬ i + 1 < AL.length := fun hlt => by rw [List.getElem?_eq_getElem hlt] at hnx; cases hnx
          exact ⟨by simp [this], fun h => absurd h this⟩
      have hod1 := hod.1
      have hlen2 : (nextF d L d).1.length = d := by rw [nextF_len]; exact q2
      have hL0 : AL[i] = L := by rw [List.getElem?_eq_getElem hi] at hL; exact Option.some.inj hL
      rw [drop_cons hi, hL0, List.foldl_cons] at q4
      have hgo : ∀ c' : Nat, min c (onE e (behind k L)) = c' → (AL.drop (i + 1)).foldl (fun c L => min c (onE e (behind k L))) c' = A := fun c' e1 => by rw [← e1]; exact q4
      clear q4
      generalize onE e (behind k L) = X at *
      generalize behind k L = BL at *
      by_cases hb : X < c
      · have hbi : (X : Int) < c := by omega
        have hg := hgo X (Nat.min_eq_right (by omega))
        simp -dsimp -implicitDefEqProofs [hi, q2, hor, hon, hbl2, hw, hb, hbi, hnx0, hod1]
        exact .mk (i + 1, (nextF d L d).1, X) ⟨by simp only; omega, hlen2, hod.2, hg⟩ (by simp only; omega) (Sub.keep (by simp) (by simp [hsub]) (by simp))
      · have hbi : ¬ (X : Int) < c := by omega
        have hg := hgo c (Nat.min_eq_left (by omega))
        simp -dsimp -implicitDefEqProofs [hi, q2, hor, hon, hbl2, hw, hb, hbi, hnx0, hod1]
        exact .mk (i + 1, (nextF d L d).1, c) ⟨by simp only; omega, hlen2, hod.2, hg⟩ (by simp only; omega) (Sub.keep (by simp) (by simp [hsub]) (by simp))
    · have : i = AL.length := by omega
      subst this
      rw [drop_end hi] at q4
      have q4 : c = A := q4
      simp -dsimp -implicitDefEqProofs [hi, q4]
end Go.Proofs.YtgiakpeneckgfaaGreatDoorAi
end

section
/- Contracts: valid sums of flags. -/
namespace Go.Proofs.YtgiakpeneckgfaaGreatDoorAi
open Go Go.RowKit
set_option linter.unusedVariables false
set_option linter.unusedSimpArgs false
set_option maxRecDepth 20000

/-- A term: a flag (labels, size, edges) and a fraction. -/
structure Tm where
  k : Int
  n : Int
  e : Int
  p : Int
  q : Int
  deriving DecidableEq
abbrev tmA (x : Tm) : AV := .agg [.int .i64 x.k, .int .i64 x.n, .int .u32 x.e, .int .i64 x.p, .int .i64 x.q]
instance : Plain tmA 5 := ⟨fun _ => rfl, by omega, fun _ => rfl, fun _ => rfl, fun _ => rfl, fun _ _ => rfl⟩
theorem tmA_inj (x y : Tm) (h : tmA x = tmA y) : x = y := by cases x; cases y; simp_all
abbrev tmsA (l : List Tm) : List AV := mapA tmA l
@[simp] theorem tmsA_inj {l k : List Tm} : mapA tmA l = mapA tmA k ↔ l = k := ⟨mapA_inj tmA_inj, fun h => by rw [h]⟩
def termB (tn te s : Int) (x : Tm) : Bool := flagOk x.k x.n x.e && (fitTB x.k x.n x.e tn te s && ((((leastE x.n.toNat x.k.toNat x.e.toNat : Nat) : Int) == x.e) && (frOk x.p x.q && !(x.p == 0))))
def okTm (tn te s : Int) (L : List Tm) (i : Nat) : Prop := ∀ h : i < L.length, termB tn te s L[i] = true ∧ ∀ j (hj : j + 1 = i), (L[j]'(by omega)).e < L[i].e
def SumP (tn te s : Int) (L : List Tm) : Prop := (graphOk tn te = true ∧ spanB tn s = true ∧ L.length ≤ 64) ∧ ∀ i, i < L.length → okTm tn te s L i
open Classical in
noncomputable def sumB (tn te s : Int) (L : List Tm) : Bool := decide (SumP tn te s L)
theorem sumB_true {tn te s : Int} {L : List Tm} (h : SumP tn te s L) : sumB tn te s L = true := by unfold sumB; simp [h]
theorem sumB_false {tn te s : Int} {L : List Tm} (h : ¬ SumP tn te s L) : sumB tn te s L = false := by unfold sumB; simp [h]
theorem sumB_P {tn te s : Int} {L : List Tm} (h : sumB tn te s L = true) : SumP tn te s L := by unfold sumB at h; simpa using h
theorem sum_bad {tn te s : Int} {L : List Tm} {i : Nat} (h : i < L.length) (hb : termB tn te s L[i] = false) : sumB tn te s L = false :=
  sumB_false fun hp => by have := (hp.2 i h h).1; rw [hb] at this; cases this
theorem sum_bad2 {tn te s : Int} {L : List Tm} {j : Nat} (h : j + 1 < L.length) (hb : ¬ (L[j]'(by omega)).e < (L[j + 1]'h).e) : sumB tn te s L = false :=
  sumB_false fun hp => hb ((hp.2 (j + 1) h h).2 j rfl)
abbrev u32L (L : List Tm) : Prop := ∀ x ∈ L, 0 ≤ x.e ∧ x.e ≤ 4294967295
/-- What is known of a flag that is right. -/
theorem flag_facts {k n e : Int} (h : flagOk k n e = true) (he : 0 ≤ e ∧ e ≤ 4294967295) : ((k.toNat : Nat) : Int) = k ∧ ((n.toNat : Nat) : Int) = n ∧ ((e.toNat : Nat) : Int) = e ∧ (k.toNat ≤ 3 ∧ e.toNat ≤ 4294967295) ∧ ((n.toNat ≤ 5 ∧ k.toNat ≤ n.toNat) ∧ e.toNat ≤ 4294967295) := by
  have hf := flagOk_in h
  unfold flagOk at h
  simp only [Bool.and_eq_true, decide_eq_true_eq] at h
  have := h.2
  omega
theorem fits_of {k n e : Int} (tn te s : Int) (h : flagOk k n e = true) (he : 0 ≤ e ∧ e ≤ 4294967295) : sp_fitsF [.agg [.int .i64 k, .int .i64 n, .int .u32 e], .agg [.int .i64 tn, .int .u32 te], .int .i64 s] = some (.bool (fitTB k n e tn te s)) := by
  obtain ⟨h1, h2, h3, h4, h5⟩ := flag_facts h he
  have := sp_fitsF_eq k.toNat n.toNat e.toNat tn te s h4
  rw [h1, h2, h3] at this
  exact this
theorem leastF_of {k n e : Int} (h : flagOk k n e = true) (he : 0 ≤ e ∧ e ≤ 4294967295) : sp_flagLst [.agg [.int .i64 k, .int .i64 n, .int .u32 e]] = some (.agg [.int .i64 k, .int .i64 n, .int .u32 (leastE n.toNat k.toNat e.toNat)]) := by
  obtain ⟨h1, h2, h3, h4, h5⟩ := flag_facts h he
  have := sp_flagLst_eq k.toNat n.toNat e.toNat h5
  rw [h1, h2, h3] at this
  exact this
noncomputable def sp_sumOk : List AV → Option (AV) := pf (ι := (Int) × (Int) × (Int) × (List Tm)) (α := AV) (fun ⟨tn, te, s, L⟩ => (0 ≤ te ∧ te ≤ 4294967295) ∧ L.length ≤ maxLen ∧ u32L L) (fun ⟨tn, te, s, L⟩ => [.agg [.int .i64 tn, .int .u32 te, .int .i64 s, .sl (tmsA L) false]]) (fun ⟨tn, te, s, L⟩ => .bool (sumB tn te s L))
theorem sp_sumOk_eq (tn te s : Int) (L : List Tm) (h : (0 ≤ te ∧ te ≤ 4294967295) ∧ L.length ≤ maxLen ∧ u32L L) : sp_sumOk [.agg [.int .i64 tn, .int .u32 te, .int .i64 s, .sl (tmsA L) false]] = some (.bool (sumB tn te s L)) := by
  unfold sp_sumOk
  exact pf_eq (ι := (Int) × (Int) × (Int) × (List Tm)) (α := AV) (tn, te, s, L) h (by rintro ⟨tn', te', s', L'⟩ _ e; simp_all [Int.natCast_inj])
set_option maxHeartbeats 4000000 in
theorem q_impl_ValidSum : QP PP 56 sp_sumOk := by
  refine QP_pf (fun i h => ?_) fun i h => ?_
  · obtain ⟨tn, te, s, L⟩ := i; exact ⟨by first | rfl | simp, by first | rfl | simp⟩
  obtain ⟨tn, te, s, L⟩ := i
  replace h : (0 ≤ te ∧ te ≤ 4294967295) ∧ L.length ≤ maxLen ∧ u32L L := h
  refine P_code (Quiet.q1 q_impl_ValidGraph (Quiet.q1 q_impl_spanOk (Quiet.q1 q_impl_ValidFlag (Quiet.q1 q_impl_Flag_fits (Quiet.q1 q_impl_Flag_least (Quiet.q1 q_impl_ValidFraction (Quiet.q1 q_impl_flagOrder Quiet.nil))))))) hmix k_impl_ValidSum rfl ?_ ?_
  · first | rfl | simp
  show wpc 0 PP _ c_impl_ValidSum (initSt [.agg [.int .i64 tn, .int .u32 te, .int .i64 s, .sl (tmsA L) false]] .nil) (endP r_impl_ValidSum (.bool (sumB tn te s L)))
  obtain ⟨hte, hl, hu⟩ := h
  simp only [maxLen] at hl
  have hg := sp_graphOk_eq tn te hte
  have hs := sp_span_eq tn te s hte
  cases h1 : graphOk tn te with
  | false =>
    rw [h1] at hg
    have hm := sumB_false (tn := tn) (te := te) (s := s) (L := L) (fun h => by have := h.1.1; rw [h1] at this; cases this)
    simp -dsimp -implicitDefEqProofs [c_impl_ValidSum, r_impl_ValidSum, hg, hm]
  | true =>
    rw [h1] at hg
    cases h2 : spanB tn s with
    | false =>
      rw [h2] at hs
      have hm := sumB_false (tn := tn) (te := te) (s := s) (L := L) (fun h => by have := h.1.2.1; rw [h2] at this; cases this)
      simp -dsimp -implicitDefEqProofs [c_impl_ValidSum, r_impl_ValidSum, hg, hs, hm]
    | true =>
      rw [h2] at hs
      by_cases h64 : L.length ≤ 64
      · have h64' : ¬ (64 : Int) < L.length := by omega
        simp -dsimp -implicitDefEqProofs [c_impl_ValidSum, r_impl_ValidSum, hg, hs, h64']
        refine wpLoop_st (fun (i : Nat) => ⟨tl [(1, .ptr 0 0), (24, .sl (tmsA L) false), (25, .int .i64 L.length), (26, .int .i64 i)], ⟨[some [.int .i64 tn, .int .u32 te, .int .i64 s, .sl (tmsA L) false]]⟩⟩) (fun i => i ≤ L.length ∧ ∀ i', i' < i → okTm tn te s L i') (fun i => L.length - i) 0 ⟨by omega, fun i' h => by omega⟩ (Sub.keep (by simp) (by simp [hsub]) (by simp)) ?_
        rintro i ⟨hi, hok⟩
        simp -dsimp -implicitDefEqProofs
        refine brW_of (fun h => ?_) (fun h => ?_) <;> simp only [decide_eq_true_eq, decide_eq_false_iff_not] at h
        · have hx : i < L.length := by omega
          have hwi := wrapNat (i := i) (by omega)
          have hue := hu L[i] (List.getElem_mem hx)
          have hf := sp_flagOk_eq L[i].k L[i].n L[i].e hue
          have hbad := sum_bad (tn := tn) (te := te) (s := s) hx
          unfold termB at hbad
          cases c1 : flagOk L[i].k L[i].n L[i].e with
          | false =>
            rw [c1] at hf hbad
            simp -dsimp -implicitDefEqProofs [hx, hf, hbad rfl]
          | true =>
            rw [c1] at hf hbad
            have hft := fits_of tn te s c1 hue
            have hls := leastF_of c1 hue
            cases c2 : fitTB L[i].k L[i].n L[i].e tn te s with
            | false =>
              rw [c2] at hft hbad
              simp -dsimp -implicitDefEqProofs [hx, hf, hft, hbad rfl]
            | true =>
              rw [c2] at hft hbad
              cases c3 : (((leastE L[i].n.toNat L[i].k.toNat L[i].e.toNat : Nat) : Int) == L[i].e) with
              | false =>
                rw [c3] at hbad
                simp -dsimp -implicitDefEqProofs [hx, hf, hft, hls, c3, hbad rfl]
              | true =>
                rw [c3] at hbad
                cases c4 : frOk L[i].p L[i].q with
                | false =>
                  rw [c4] at hbad
                  simp -dsimp -implicitDefEqProofs [hx, hf, hft, hls, c3, c4, hbad rfl]
                | true =>
                  rw [c4] at hbad
                  cases c5 : (L[i].p == 0) with
                  | true =>
                    rw [c5] at hbad
                    simp -dsimp -implicitDefEqProofs [hx, hf, hft, hls, c3, c4, c5, hbad rfl]
                  | false =>
                    have hgood : termB tn te s L[i] = true := by unfold termB; rw [c1, c2, c3, c4, c5]; rfl
                    rcases i with _ | j
                    · simp -dsimp -implicitDefEqProofs [hx, hf, hft, hls, c3, c4, c5, hwi]
                      have w1 : IntKind.wrap .i64 1 = 1 := rfl
                      exact .mk 1 ⟨by omega, fun i' h' => by
                        obtain rfl : i' = 0 := by omega
                        exact fun _ => ⟨hgood, fun j hj => by omega⟩⟩ (by omega) (Sub.keep (by simp) (by simp [hsub]) (by simp [w1]))
                    · have hj : j < L.length := by omega
                      have hp : (0 : Int) < ((j : Int) + 1) := by omega
                      have hp0 : (0 : Int) ≤ ((j : Int) + 1) := by omega
                      have hwj : IntKind.wrap .i64 (j : Int) = j := wrapI64 (by omega) (by omega)
                      have hge := ordI_ge L[j].e L[j + 1].e
                      by_cases c6 : L[j + 1].e ≤ L[j].e
                      · rw [decide_eq_true c6] at hge
                        have hm := sum_bad2 (tn := tn) (te := te) (s := s) hx (by omega)
                        simp -dsimp -implicitDefEqProofs [hx, hf, hft, hls, c3, c4, c5, hj, hp, hp0, hwj, hge, hm]
                      · rw [decide_eq_false c6] at hge
                        simp -dsimp -implicitDefEqProofs [hx, hf, hft, hls, c3, c4, c5, hj, hp, hp0, hwj, hge, hwi]
                        have hw2 : IntKind.wrap .i64 ((j : Int) + 1 + 1) = (j : Int) + 1 + 1 := wrapI64 (by omega) (by omega)
                        exact .mk (j + 1 + 1) ⟨by omega, fun i' h' => by
                          by_cases e : i' = j + 1
                          · subst e; exact fun _ => ⟨hgood, fun j' hj' => by
                              obtain rfl : j' = j := by omega
                              omega⟩
                          · exact hok i' (by omega)⟩ (by omega) (Sub.keep (by simp) (by simp [hsub]) (by simp [hw2]))
        · have : i = L.length := by omega
          subst this
          have hm := sumB_true (tn := tn) (te := te) (s := s) (L := L) ⟨⟨h1, h2, h64⟩, hok⟩
          simp -dsimp -implicitDefEqProofs [hm]
      · have h64' : (64 : Int) < L.length := by omega
        have hm := sumB_false (tn := tn) (te := te) (s := s) (L := L) (fun h => h64 h.1.2.2)
        simp -dsimp -implicitDefEqProofs [c_impl_ValidSum, r_impl_ValidSum, hg, hs, h64', hm]
end Go.Proofs.YtgiakpeneckgfaaGreatDoorAi
end

section
/- Contracts: valid sums of the reference. -/
namespace Go.Proofs.YtgiakpeneckgfaaGreatDoorAi
open Go Go.RowKit
set_option linter.unusedVariables false
set_option linter.unusedSimpArgs false
set_option maxRecDepth 20000

noncomputable def sp_l05Ok : List AV → List AV → Option (AV × List AV) := pm (pf (ι := (Int) × (Int) × (Int) × (List Tm)) (α := AV × List AV) (fun ⟨tn, te, s, L⟩ => (0 ≤ te ∧ te ≤ 4294967295) ∧ L.length ≤ maxLen ∧ u32L L) (fun i => .agg ((fun ⟨tn, te, s, L⟩ => [.int .i64 tn, .int .u32 te, .int .i64 s, .sl (tmsA L) false] : (Int) × (Int) × (Int) × (List Tm) → List AV) i) :: (fun ⟨tn, te, s, L⟩ => [] : (Int) × (Int) × (Int) × (List Tm) → List AV) i) (fun ⟨tn, te, s, L⟩ => (.bool (sumB tn te s L), [.int .i64 tn, .int .u32 te, .int .i64 s, .sl (tmsA L) false])))
theorem sp_l05Ok_eq (tn te s : Int) (L : List Tm) (h : (0 ≤ te ∧ te ≤ 4294967295) ∧ L.length ≤ maxLen ∧ u32L L) : sp_l05Ok [.int .i64 tn, .int .u32 te, .int .i64 s, .sl (tmsA L) false] [] = some (.bool (sumB tn te s L), [.int .i64 tn, .int .u32 te, .int .i64 s, .sl (tmsA L) false]) := by
  unfold sp_l05Ok pm
  exact pf_eq (ι := (Int) × (Int) × (Int) × (List Tm)) (α := AV × List AV) (tn, te, s, L) h (by rintro ⟨tn', te', s', L'⟩ _ e; simp_all [Int.natCast_inj])
set_option maxHeartbeats 4000000 in
theorem m_spec_l05Ok : QM PP 40 sp_l05Ok := by
  refine QM_pf (fun i h => ?_) fun i h => ?_
  · obtain ⟨tn, te, s, L⟩ := i; exact ⟨⟨by first | rfl | simp, by first | rfl | simp⟩, by first | rfl | simp, by first | rfl | simp⟩
  obtain ⟨tn, te, s, L⟩ := i
  replace h : (0 ≤ te ∧ te ≤ 4294967295) ∧ L.length ≤ maxLen ∧ u32L L := h
  refine H_code (Quiet.q1 q_spec_l01Ok (Quiet.q1 q_spec_l05Frame (Quiet.q1 q_spec_l03Ok (Quiet.q1 q_spec_l05Fits (Quiet.q1 q_spec_l03Least (Quiet.q1 q_spec_l02Ok Quiet.nil)))))) hmix k_spec_l05Ok rfl (fun b => b) (Nat.le_refl _) (fun _ _ => rfl) rfl (by first | rfl | simp) ?_
  show wpc 1 PP _ c_spec_l05Ok (initSt [.ptr 0 0] ⟨[some [.int .i64 tn, .int .u32 te, .int .i64 s, .sl (tmsA L) false]]⟩) (endH (fun b => b) r_spec_l05Ok (.bool (sumB tn te s L)) [some [.int .i64 tn, .int .u32 te, .int .i64 s, .sl (tmsA L) false]])
  obtain ⟨hte, hl, hu⟩ := h
  simp only [maxLen] at hl
  have hg := sp_graphOk_eq tn te hte
  have hs := sp_span_eq tn te s hte
  cases h1 : graphOk tn te with
  | false =>
    rw [h1] at hg
    have hm := sumB_false (tn := tn) (te := te) (s := s) (L := L) (fun h => by have := h.1.1; rw [h1] at this; cases this)
    simp -dsimp -implicitDefEqProofs [hsub, c_spec_l05Ok, r_spec_l05Ok, hg, hm]
  | true =>
    rw [h1] at hg
    cases h2 : spanB tn s with
    | false =>
      rw [h2] at hs
      have hm := sumB_false (tn := tn) (te := te) (s := s) (L := L) (fun h => by have := h.1.2.1; rw [h2] at this; cases this)
      simp -dsimp -implicitDefEqProofs [hsub, c_spec_l05Ok, r_spec_l05Ok, hg, hs, hm]
    | true =>
      rw [h2] at hs
      by_cases h64 : L.length ≤ 64
      · have h64' : ¬ (64 : Int) < L.length := by omega
        simp -dsimp -implicitDefEqProofs [hsub, c_spec_l05Ok, r_spec_l05Ok, hg, hs, h64']
        refine wpLoop_st (fun (i : Nat) => ⟨tl [(0, .ptr 0 0), (3, .int .i64 i)], ⟨[some [.int .i64 tn, .int .u32 te, .int .i64 s, .sl (tmsA L) false]]⟩⟩) (fun i => i ≤ L.length ∧ ∀ i', i' < i → okTm tn te s L i') (fun i => L.length - i) 0 ⟨by omega, fun i' h => by omega⟩ (Sub.keep (by simp) (by simp [hsub]) (by simp)) ?_
        rintro i ⟨hi, hok⟩
        simp -dsimp -implicitDefEqProofs
        refine brW_of (fun h => ?_) (fun h => ?_) <;> simp only [decide_eq_true_eq, decide_eq_false_iff_not] at h
        · have hx : i < L.length := by omega
          have hwi := wrapNat (i := i) (by omega)
          have hue := hu L[i] (List.getElem_mem hx)
          have hf := sp_flagOk_eq L[i].k L[i].n L[i].e hue
          have hbad := sum_bad (tn := tn) (te := te) (s := s) hx
          unfold termB at hbad
          cases c1 : flagOk L[i].k L[i].n L[i].e with
          | false =>
            rw [c1] at hf hbad
            simp -dsimp -implicitDefEqProofs [hsub, hx, hf, hbad rfl]
          | true =>
            rw [c1] at hf hbad
            have hft := fits_of tn te s c1 hue
            have hls := leastF_of c1 hue
            cases c2 : fitTB L[i].k L[i].n L[i].e tn te s with
            | false =>
              rw [c2] at hft hbad
              simp -dsimp -implicitDefEqProofs [hsub, hx, hf, hft, hbad rfl]
            | true =>
              rw [c2] at hft hbad
              cases c3 : (((leastE L[i].n.toNat L[i].k.toNat L[i].e.toNat : Nat) : Int) == L[i].e) with
              | false =>
                rw [c3] at hbad
                simp -dsimp -implicitDefEqProofs [hsub, hx, hf, hft, hls, c3, hbad rfl]
              | true =>
                rw [c3] at hbad
                rcases i with _ | j
                · cases c4 : frOk L[0].p L[0].q with
                  | false =>
                    rw [c4] at hbad
                    simp -dsimp -implicitDefEqProofs [hsub, hx, hf, hft, hls, c3, c4, hbad rfl]
                  | true =>
                    rw [c4] at hbad
                    cases c5 : (L[0].p == 0) with
                    | true =>
                      rw [c5] at hbad
                      simp -dsimp -implicitDefEqProofs [hsub, hx, hf, hft, hls, c3, c4, c5, hbad rfl]
                    | false =>
                      have hgood : termB tn te s L[0] = true := by unfold termB; rw [c1, c2, c3, c4, c5]; rfl
                      simp -dsimp -implicitDefEqProofs [hsub, hx, hf, hft, hls, c3, c4, c5, hwi]
                      have w1 : IntKind.wrap .i64 1 = 1 := rfl
                      exact .mk 1 ⟨by omega, fun i' h' => by
                        obtain rfl : i' = 0 := by omega
                        exact fun _ => ⟨hgood, fun j hj => by omega⟩⟩ (by omega) (Sub.keep (by simp) (by simp [hsub]) (by simp [w1]))
                · have hj : j < L.length := by omega
                  have hp : (0 : Int) < ((j : Int) + 1) := by omega
                  have hp0 : (0 : Int) ≤ ((j : Int) + 1) := by omega
                  have hwj : IntKind.wrap .i64 (j : Int) = j := wrapI64 (by omega) (by omega)
                  by_cases c6 : L[j + 1].e ≤ L[j].e
                  · have hm := sum_bad2 (tn := tn) (te := te) (s := s) hx (by omega)
                    simp -dsimp -implicitDefEqProofs [hsub, hx, hf, hft, hls, c3, hj, hp, hp0, hwj, c6, hm]
                  · cases c4 : frOk L[j + 1].p L[j + 1].q with
                    | false =>
                      rw [c4] at hbad
                      simp -dsimp -implicitDefEqProofs [hsub, hx, hf, hft, hls, c3, c4, hj, hp, hp0, hwj, c6, hbad rfl]
                    | true =>
                      rw [c4] at hbad
                      cases c5 : (L[j + 1].p == 0) with
                      | true =>
                        rw [c5] at hbad
                        simp -dsimp -implicitDefEqProofs [hsub, hx, hf, hft, hls, c3, c4, c5, hj, hp, hp0, hwj, c6, hbad rfl]
                      | false =>
                        have hgood : termB tn te s L[j + 1] = true := by unfold termB; rw [c1, c2, c3, c4, c5]; rfl
                        simp -dsimp -implicitDefEqProofs [hsub, hx, hf, hft, hls, c3, c4, c5, hj, hp, hp0, hwj, c6, hwi]
                        have hw2 : IntKind.wrap .i64 ((j : Int) + 1 + 1) = (j : Int) + 1 + 1 := wrapI64 (by omega) (by omega)
                        exact .mk (j + 1 + 1) ⟨by omega, fun i' h' => by
                          by_cases e : i' = j + 1
                          · subst e; exact fun _ => ⟨hgood, fun j' hj' => by
                              obtain rfl : j' = j := by omega
                              omega⟩
                          · exact hok i' (by omega)⟩ (by omega) (Sub.keep (by simp) (by simp [hsub]) (by simp [hw2]))
        · have : i = L.length := by omega
          subst this
          have hm := sumB_true (tn := tn) (te := te) (s := s) (L := L) ⟨⟨h1, h2, h64⟩, hok⟩
          simp -dsimp -implicitDefEqProofs [hsub, hm]
      · have h64' : (64 : Int) < L.length := by omega
        have hm := sumB_false (tn := tn) (te := te) (s := s) (L := L) (fun h => h64 h.1.2.2)
        simp -dsimp -implicitDefEqProofs [hsub, c_spec_l05Ok, r_spec_l05Ok, hg, hs, h64', hm]
end Go.Proofs.YtgiakpeneckgfaaGreatDoorAi
end

section
/- MADE BY PROGRAM (wip/tools/gen.py): the abstract code of functions. -/
namespace Go.Proofs.YtgiakpeneckgfaaGreatDoorAi
open Go AC AOp Opd
set_option linter.unusedVariables false
set_option maxRecDepth 100000

end Go.Proofs.YtgiakpeneckgfaaGreatDoorAi
end

section
/- Contracts: searching in lists of fractions and of rows; valid lists; valid matrices. -/
namespace Go.Proofs.YtgiakpeneckgfaaGreatDoorAi
open Go Go.RowKit
set_option linter.unusedVariables false
set_option linter.unusedSimpArgs false
set_option maxRecDepth 20000

@[simp] def rowA (r : List Fr) : AV := .sl (frsA r) false
theorem rowA_inj0 : ∀ x y, rowA x = rowA y → x = y := by
  intro x y h
  simp only [rowA] at h
  injection h with h _
  exact frsA_inj.1 h
@[simp] theorem rowsA_inj {l k : List (List Fr)} : mapA rowA l = mapA rowA k ↔ l = k := ⟨mapA_inj rowA_inj0, fun h => by rw [h]⟩

/-! ### valid lists -/
end Go.Proofs.YtgiakpeneckgfaaGreatDoorAi
end

section
/- Contracts: strings.Join. -/
namespace Go.Proofs.YtgiakpeneckgfaaGreatDoorAi
open Go Go.RowKit
set_option linter.unusedVariables false
set_option linter.unusedSimpArgs false
set_option maxRecDepth 20000

@[simp] def strA (s : ByteArray) : AV := .str s
theorem strA_inj0 : ∀ x y, strA x = strA y → x = y := by
  intro x y h
  simp only [strA] at h
  injection h
abbrev strsA (l : List ByteArray) : List AV := mapA strA l
@[simp] theorem strsA_inj {l k : List ByteArray} : mapA strA l = mapA strA k ↔ l = k := ⟨mapA_inj strA_inj0, fun h => by rw [h]⟩
instance : Plain strA 1 := ⟨fun _ => rfl, by omega, fun _ => rfl, fun _ => rfl, fun _ => rfl, fun _ _ => rfl⟩
end Go.Proofs.YtgiakpeneckgfaaGreatDoorAi
end
