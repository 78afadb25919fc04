/- Contracts: graphs with so many vertices in each part. -/
import Derived.Test.YtkgodhdpcomjbaaAdB19
namespace Go.Proofs.YtkgodhdpcomjbaaAi
open Go Go.RowKit
set_option linter.unusedVariables false
set_option linter.unusedSimpArgs false
set_option maxRecDepth 20000

theorem flat_in (L : List Int) : flatA (mapA inA L) = L.map inA := by rw [List.map_eq_flatMap]; simp [flatA, mapA, List.flatMap_map]
@[simp] theorem flat_in_get (L : List Int) (i : Nat) (h : i < (flatA (mapA inA L)).length) : (flatA (mapA inA L))[i] = inA (L[i]'(by simpa using h)) := by simp [flat_in]
@[simp] theorem flat_in_inj {L K : List Int} : flatA (mapA inA L) = flatA (mapA inA K) ↔ L = K := by
  constructor
  · intro h
    rw [flat_in, flat_in] at h
    exact mapA_inj inA_inj h
  · intro h; rw [h]
theorem news_in1 (n : Nat) (p : Int) : List.replicate n (AV.int .i64 p) = flatA (mapA inA (List.replicate n p)) := by rw [flat_in]; simp
theorem wrapI0 : IntKind.i64.wrap 0 = 0 := rfl
theorem reps_in (n : Nat) (p : Int) : rep n [.int .i64 p] = flatA (insA (List.replicate n p)) := news_in n p
noncomputable def sp_repeatI : List AV → List AV → Option (AV × List (Option (List AV))) := pb (pf (ι := (Int) × (Int)) (α := AV × List (Option (List AV))) (fun ⟨p, n⟩ => 0 ≤ n ∧ n ≤ 5) (fun i => .agg ((fun ⟨p, n⟩ => [.int .i64 p] : (Int) × (Int) → List AV) i) :: (fun ⟨p, n⟩ => [.ref 0 1 0 1 .tight, .int .i64 n] : (Int) × (Int) → List AV) i) (fun ⟨p, n⟩ => (.ref 1 1 0 n.toNat .tight, [some [.int .i64 p], some (flatA (insA (List.replicate n.toNat p)))])))
theorem sp_repeatI_eq (p n : Int) (h : 0 ≤ n ∧ n ≤ 5) : sp_repeatI [.int .i64 p] [.ref 0 1 0 1 .tight, .int .i64 n] = some (.ref 1 1 0 n.toNat .tight, [some [.int .i64 p], some (flatA (insA (List.replicate n.toNat p)))]) := by
  unfold sp_repeatI pb
  exact pf_eq (ι := (Int) × (Int)) (α := AV × List (Option (List AV))) (p, n) h (by rintro ⟨p', n'⟩ _ e; simp_all [Int.natCast_inj])
theorem b_slices_Repeat_Sint64_int64 : QB PP 79 sp_repeatI := by
  refine QB_pf (fun i h => ?_) fun i h => ?_
  · obtain ⟨p, n⟩ := i; exact ⟨by first | rfl | simp, by first | rfl | simp, by first | simp⟩
  obtain ⟨p, n⟩ := i
  replace h : 0 ≤ n ∧ n ≤ 5 := h
  refine H_code (Quiet.q1 q_math_bits_Mul Quiet.nil) hmix k_slices_Repeat_Sint64_int64 rfl (fun b => b) (by simp [AHeap.n]) (by intro b hb; simp [AHeap.n] at hb; subst hb; rfl) (by rfl) (by first | rfl | simp) ?_
  show wpc 1 PP _ c_slices_Repeat_Sint64_int64 (initSt [.ref 0 1 0 1 .tight, .int .i64 n] ⟨[some [.int .i64 p]]⟩) (endH (fun b => b) r_slices_Repeat_Sint64_int64 (.ref 1 1 0 n.toNat .tight) [some [.int .i64 p], some (flatA (insA (List.replicate n.toNat p)))])
  obtain ⟨m, rfl⟩ := Int.eq_ofNat_of_zero_le (show 0 ≤ n by omega)
  have n0 : ¬ ((m : Int) < 0) := by omega
  have w1 : IntKind.u64.wrap (m : Int) = m := wrapU64 (by omega) (by omega)
  have w2 : IntKind.i64.wrap (m : Int) = m := wrapI64 (by omega) (by omega)
  have w3 : IntKind.u64.wrap 1 = 1 := rfl
  have l0 : ¬ (9223372036854775807 < (m : Int)) := by omega
  have l1 : (m : Int) * 9 ≤ (mostBytes : Int) := by simp only [mostBytes]; omega
  rcases Nat.eq_zero_or_pos m with rfl | hm
  · simp -dsimp -implicitDefEqProofs [c_slices_Repeat_Sint64_int64, r_slices_Repeat_Sint64_int64, n0, w3, sp_Mul64_eq 1 0 (by omega), wrap0, wrapI0, l1, mostBytes]
    refine wpLoop_st (fun (k : Unit) => ⟨tl [(7, .ref 1 1 0 0 .tight), (8, .int .i64 0)], ⟨[some [.int .i64 p], some []]⟩⟩) (fun _ => True) (fun k => 0) () trivial (Sub.keep (by simp) (by simp [hsub]) (by simp)) ?_
    rintro _ _
    simp -dsimp -implicitDefEqProofs [hsub]
  have l2 : 1 ≤ m := hm
  have l3 : min m 1 = 1 := by omega
  simp -dsimp -implicitDefEqProofs [c_slices_Repeat_Sint64_int64, r_slices_Repeat_Sint64_int64, n0, w1, w2, w3, sp_Mul64_eq 1 m (by omega), wrap0, l0, l1, l2, l3]
  have hs := set_in (List.replicate m 0) 0 p (by simp; omega)
  refine wpLoop_st (fun (k : Nat) => ⟨tl [(7, .ref 1 1 0 m .tight), (8, .int .i64 k)], ⟨[some [.int .i64 p], some (flatA (insA (List.replicate k p ++ List.replicate (m - k) 0)))]⟩⟩) (fun k => 1 ≤ k ∧ k ≤ m) (fun k => m - k) 1 ⟨by omega, by omega⟩ (Sub.keep (by simp) (by
    obtain ⟨j, rfl⟩ : ∃ j, m = j + 1 := ⟨m - 1, by omega⟩
    simp [hsub, List.replicate_succ] at hs ⊢
    simp [flat_in]) (by simp)) ?_
  rintro k ⟨k1, k2⟩
  simp -dsimp -implicitDefEqProofs
  refine brW_of (fun h => ?_) (fun h => ?_) <;> simp only [decide_eq_true_eq, decide_eq_false_iff_not] at h
  · have hk : k ≤ m := k2
    have hl : k + (m - k) = m := by omega
    have hj : min (m - k) k ≤ k := by omega
    have hf : k + min (m - k) k ≤ m := by omega
    have hw : IntKind.i64.wrap ((k : Int) + (min (m - k) k : Nat)) = ((k + min (m - k) k : Nat) : Int) := by rw [wrapI64 (by omega) (by omega)]; omega
    have hp := rep_pre (e := 1) (N := m) (k := k) (j := min (m - k) k) (x := [.int .i64 p]) (z := [.int .i64 0]) rfl (by omega)
    have ht := rep_step (e := 1) (N := m) (k := k) (j := min (m - k) k) (x := [.int .i64 p]) (z := [.int .i64 0]) rfl rfl (by omega)
    simp only [reps_in, ← flatA_append, Nat.mul_one] at hp ht
    simp -dsimp -implicitDefEqProofs [hl, hk, hj, hf, hw, hp, ht]
    exact .mk (k + min (m - k) k) ⟨by omega, by omega⟩ (by omega) (Sub.keep (by simp) (by simp [hsub]) (by simp))
  · have hk : k = m := by omega
    subst hk
    simp -dsimp -implicitDefEqProofs [hsub]

def sizeI (n : Int) : Bool := decide (0 ≤ n) && decide (n ≤ 5)
noncomputable def sp_badSize : List AV → Option (AV) := pf (ι := (Int)) (α := AV) (fun n => True) (fun n => [.int .i64 n]) (fun n => .bool (!sizeI n))
theorem sp_badSize_eq (n : Int) : sp_badSize [.int .i64 n] = some (.bool (!sizeI n)) := by
  unfold sp_badSize
  exact pf_eq (ι := (Int)) (α := AV) n trivial (by rintro n' _ e; simp_all [Int.natCast_inj])
attribute [simp] sp_badSize_eq
theorem q_impl_BlowUp_1 : QP PP 77 sp_badSize := by
  refine QP_pf (fun n h => ?_) fun n h => ?_
  · exact ⟨by first | rfl | simp, by first | rfl | simp⟩
  replace h : True := h
  refine P_code (Quiet.q1 q_impl_sizeOk Quiet.nil) hmix k_impl_BlowUp_1 rfl ?_ ?_
  · first | rfl | simp
  show wpc 0 PP _ c_impl_BlowUp_1 (initSt [.int .i64 n] .nil) (endP r_impl_BlowUp_1 (.bool (!sizeI n)))
  simp -dsimp -implicitDefEqProofs [c_impl_BlowUp_1, r_impl_BlowUp_1, sizeI]
theorem e_anyI_size : QE PP 76 (spAnyI 77 (spR sp_badSize)) := QE_anyI q_impl_BlowUp_1.toR
def atI (L : List Int) (i : Nat) : Int := L.getD i 0
def allPart (L : List Int) : Prop := ∀ x ∈ L, 0 ≤ x ∧ x < 5
theorem allPart.at {L : List Int} (h : allPart L) {i : Nat} (hi : i < L.length) : 0 ≤ atI L i ∧ atI L i < 5 := by
  have : atI L i = L[i] := by simp [atI, hi]
  rw [this]; exact h _ (List.getElem_mem hi)
theorem atI_get {L : List Int} {i : Nat} (hi : i < L.length) : L[i] = atI L i := by simp [atI, hi]
noncomputable def sp_blow2 : List (Option (List AV)) → List AV → Option (AV × List (Option (List AV))) := pv (pf (ι := (Int) × (Int) × (Int) × (List Fr) × (List Int) × (Int) × (Int)) (α := AV × List (Option (List AV))) (fun ⟨n, e, l, ps, L, i, j⟩ => ((0 ≤ e ∧ e ≤ 4294967295) ∧ (0 ≤ l ∧ l ≤ 4294967295)) ∧ allPart L ∧ (0 ≤ i ∧ i < L.length) ∧ (0 ≤ j ∧ j < L.length)) (fun i => .agg (((fun ⟨n, e, l, ps, L, i, j⟩ => [some [.int .i64 n, .int .u32 e, .int .u32 l, .sl (frsA ps) false], some [.ref 2 1 0 L.length .full], some (flatA (insA L))] : (Int) × (Int) × (Int) × (List Fr) × (List Int) × (Int) × (Int) → List (Option (List AV))) i).map enO) :: (fun ⟨n, e, l, ps, L, i, j⟩ => [.int .i64 i, .int .i64 j, .ptr 0 0, .ptr 1 0] : (Int) × (Int) × (Int) × (List Fr) × (List Int) × (Int) × (Int) → List AV) i) (fun ⟨n, e, l, ps, L, i, j⟩ => (.bool (joinB e l (atI L i.toNat) (atI L j.toNat)), [some [.int .i64 n, .int .u32 e, .int .u32 l, .sl (frsA ps) false], some [.ref 2 1 0 L.length .full], some (flatA (insA L))])))
theorem sp_blow2_eq (n e l : Int) (ps : List Fr) (L : List Int) (i j : Int) (h : ((0 ≤ e ∧ e ≤ 4294967295) ∧ (0 ≤ l ∧ l ≤ 4294967295)) ∧ allPart L ∧ (0 ≤ i ∧ i < L.length) ∧ (0 ≤ j ∧ j < L.length)) : sp_blow2 [some [.int .i64 n, .int .u32 e, .int .u32 l, .sl (frsA ps) false], some [.ref 2 1 0 L.length .full], some (flatA (insA L))] [.int .i64 i, .int .i64 j, .ptr 0 0, .ptr 1 0] = some (.bool (joinB e l (atI L i.toNat) (atI L j.toNat)), [some [.int .i64 n, .int .u32 e, .int .u32 l, .sl (frsA ps) false], some [.ref 2 1 0 L.length .full], some (flatA (insA L))]) := by
  unfold sp_blow2 pv
  exact pf_eq (ι := (Int) × (Int) × (Int) × (List Fr) × (List Int) × (Int) × (Int)) (α := AV × List (Option (List AV))) (n, e, l, ps, L, i, j) h (by rintro ⟨n', e', l', ps', L', i', j'⟩ _ e; simp_all [enO])
theorem v_impl_BlowUp_2 : QV PP 81 sp_blow2 := by
  refine QV_pf fun i h => ?_
  obtain ⟨n, e, l, ps, L, i, j⟩ := i
  replace h : ((0 ≤ e ∧ e ≤ 4294967295) ∧ (0 ≤ l ∧ l ≤ 4294967295)) ∧ allPart L ∧ (0 ≤ i ∧ i < L.length) ∧ (0 ≤ j ∧ j < L.length) := h
  refine H_code (Quiet.e1 v_impl_Pattern_joined.toE Quiet.nil) hmix k_impl_BlowUp_2 rfl (fun b => b) (by simp [AHeap.n]) (fun _ _ => rfl) (by rfl) (by first | rfl | simp) ?_
  show wpc _ PP _ c_impl_BlowUp_2 (initSt [.int .i64 i, .int .i64 j, .ptr 0 0, .ptr 1 0] ⟨[some [.int .i64 n, .int .u32 e, .int .u32 l, .sl (frsA ps) false], some [.ref 2 1 0 L.length .full], some (flatA (insA L))]⟩) (endH (fun b => b) r_impl_BlowUp_2 (.bool (joinB e l (atI L i.toNat) (atI L j.toNat))) [some [.int .i64 n, .int .u32 e, .int .u32 l, .sl (frsA ps) false], some [.ref 2 1 0 L.length .full], some (flatA (insA L))])
  obtain ⟨he, hL, ⟨i0, hi⟩, ⟨j0, hj⟩⟩ := h
  obtain ⟨i, rfl⟩ := Int.eq_ofNat_of_zero_le i0
  obtain ⟨j, rfl⟩ := Int.eq_ofNat_of_zero_le j0
  have hi : i < L.length := by omega
  have hj : j < L.length := by omega
  simp -dsimp -implicitDefEqProofs [c_impl_BlowUp_2, r_impl_BlowUp_2, hi, hj, atI_get hi, atI_get hj, sp_joinP_eq n e l ps _ _ ⟨he, hL.at hi, hL.at hj⟩, hsub]
theorem e_made_blow : QE PP 80 (spMade 81 (spV sp_blow2)) := QE_made v_impl_BlowUp_2.toE

/-- Each part so often. -/
def partsN : Nat → List Int → List Int
  | _, [] => []
  | i, n :: r => List.replicate n.toNat (i : Int) ++ partsN (i + 1) r
theorem partsN_snoc : ∀ (l : List Int) (i : Nat) (n : Int), partsN i (l ++ [n]) = partsN i l ++ List.replicate n.toNat ((i + l.length : Nat) : Int)
  | [], i, n => by simp [partsN]
  | x :: l, i, n => by
    rw [List.cons_append, partsN, partsN, partsN_snoc l (i + 1) n, List.append_assoc, List.length_cons, show i + 1 + l.length = i + (l.length + 1) by omega]
theorem partsN_part : ∀ (l : List Int) (i : Nat), i + l.length ≤ 5 → allPart (partsN i l)
  | [], i, h => fun x hx => by cases hx
  | n :: l, i, h => fun x hx => by
    rw [partsN, List.mem_append] at hx
    rw [List.length_cons] at h
    rcases hx with hx | hx
    · have := List.eq_of_mem_replicate hx
      omega
    · exact partsN_part l (i + 1) (by omega) x hx
theorem partsN_len : ∀ (l : List Int) (i : Nat), (∀ x ∈ l, sizeI x = true) → (partsN i l).length ≤ 5 * l.length
  | [], i, h => by simp [partsN]
  | n :: l, i, h => by
    have h1 := partsN_len l (i + 1) fun x hx => h x (List.mem_cons_of_mem _ hx)
    have h2 := h n (List.mem_cons_self ..)
    simp only [sizeI, Bool.and_eq_true, decide_eq_true_eq] at h2
    rw [partsN, List.length_append, List.length_replicate, List.length_cons]
    omega
def sizesOk (l : List Int) : Bool := l.all sizeI
theorem any_sizes (l : List Int) : (l.any fun x => !sizeI x) = !(sizesOk l) := by
  unfold sizesOk
  rw [List.not_all_eq_any_not]
def blowE (e l : Int) (L : List Int) : Nat := madeE (fun i j => joinB e l (atI L i) (atI L j)) L.length
/-- A graph with so many vertices in each part, with a code. -/
def blowR (n e l : Int) (ps : List Fr) (zs : List Int) : AV :=
  if patOk n e l ps = false then .tup [.agg [.int .i64 0, .int .u32 0], .int .i64 1]
  else if (zs.length = ps.length ∧ sizesOk zs = true) ∧ (partsN 0 zs).length ≤ 5 then .tup [.agg [.int .i64 (partsN 0 zs).length, .int .u32 (blowE e l (partsN 0 zs))], .int .i64 0]
  else .tup [.agg [.int .i64 0, .int .u32 0], .int .i64 2]
@[simp] theorem blowR_lt (n e l : Int) (ps : List Fr) (zs : List Int) (k : Nat) : (blowR n e l ps zs).lt k = true := by unfold blowR; split; rfl; split <;> rfl
/-- A list that grows in a cell. -/
def cellL (b : Nat) (L : List Int) : AV := if L = [] then .sl [] true else .ref b 1 0 L.length .full
def objL (L : List Int) : List (Option (List AV)) := if L = [] then [] else [some (flatA (insA L))]
theorem cellL_nil (b : Nat) : cellL b [] = .sl [] true := rfl
theorem objL_nil : objL [] = [] := rfl
theorem cellL_cons {b : Nat} {L : List Int} (h : L ≠ []) : cellL b L = .ref b 1 0 L.length .full := if_neg h
theorem objL_cons {L : List Int} (h : L ≠ []) : objL L = [some (flatA (insA L))] := if_neg h
noncomputable def sp_blowP : List AV → Option (AV) := pf (ι := (Int) × (Int) × (Int) × (List Fr) × (List Int)) (α := AV) (fun ⟨n, e, l, ps, zs⟩ => ((0 ≤ e ∧ e ≤ 4294967295) ∧ (0 ≤ l ∧ l ≤ 4294967295)) ∧ ps.length ≤ maxLen ∧ zs.length ≤ 1048576) (fun ⟨n, e, l, ps, zs⟩ => [.agg [.int .i64 n, .int .u32 e, .int .u32 l, .sl (frsA ps) false], .sl (insA zs) false]) (fun ⟨n, e, l, ps, zs⟩ => blowR n e l ps zs)
theorem sp_blowP_eq (n e l : Int) (ps : List Fr) (zs : List Int) (h : ((0 ≤ e ∧ e ≤ 4294967295) ∧ (0 ≤ l ∧ l ≤ 4294967295)) ∧ ps.length ≤ maxLen ∧ zs.length ≤ 1048576) : sp_blowP [.agg [.int .i64 n, .int .u32 e, .int .u32 l, .sl (frsA ps) false], .sl (insA zs) false] = some (blowR n e l ps zs) := by
  unfold sp_blowP
  exact pf_eq (ι := (Int) × (Int) × (Int) × (List Fr) × (List Int)) (α := AV) (n, e, l, ps, zs) h (by rintro ⟨n', e', l', ps', zs'⟩ _ e; simp_all [Int.natCast_inj])
theorem q_impl_BlowUp : QP PP 27 sp_blowP := by
  refine QP_pf (fun i h => ?_) fun i h => ?_
  · obtain ⟨n, e, l, ps, zs⟩ := i; exact ⟨by first | rfl | simp, by first | rfl | simp⟩
  obtain ⟨n, e, l, ps, zs⟩ := i
  replace h : ((0 ≤ e ∧ e ≤ 4294967295) ∧ (0 ≤ l ∧ l ≤ 4294967295)) ∧ ps.length ≤ maxLen ∧ zs.length ≤ 1048576 := h
  refine P_code (Quiet.q1 q_impl_ValidPattern (Quiet.e1 e_anyI_size (Quiet.e1 b_slices_Repeat_Sint64_int64.toE (Quiet.e1 e_made_blow Quiet.nil)))) hmix k_impl_BlowUp rfl ?_ ?_
  · first | rfl | simp
  show wpc 0 PP _ c_impl_BlowUp (initSt [.agg [.int .i64 n, .int .u32 e, .int .u32 l, .sl (frsA ps) false], .sl (insA zs) false] .nil) (endP r_impl_BlowUp (blowR n e l ps zs))
  obtain ⟨⟨he, hl⟩, hps, hzs⟩ := h
  have hv := sp_patOk_eq n e l ps ⟨he, hl, hps⟩
  have hany := spAnyI_eq (g := 77) (sp := spR sp_badSize) (fun x => !sizeI x) (l := zs) (caps := []) (A := ⟨[some [.int .i64 n, .int .u32 e, .int .u32 l, .sl (frsA ps) false], some [.int .i64 0, .int .u32 0]]⟩) (by simp [maxLen]; omega) rfl (fun x hx => by simp [spR, seeL_cons, seeL_nil, seeV_int, AV.flat])
  rw [any_sizes] at hany
  unfold blowR
  cases hp : patOk n e l ps with
  | false => simp -dsimp -implicitDefEqProofs [c_impl_BlowUp, r_impl_BlowUp, hv, hp]
  | true =>
    obtain ⟨_, _, _, hlen, _⟩ := patOk_spec hp
    by_cases hz : zs.length = ps.length
    · have hz' : ((zs.length : Int) != ps.length) = false := by simp [hz]
      cases ha : sizesOk zs with
      | false => simp -dsimp -implicitDefEqProofs [c_impl_BlowUp, r_impl_BlowUp, hv, hp, hz', hz, hany, ha]
      | true =>
        simp -dsimp -implicitDefEqProofs [c_impl_BlowUp, r_impl_BlowUp, hv, hp, hz', hz, hany, ha]
        refine wpLoop_st (fun (i : Nat) => ⟨tl [(2, .ptr 0 0), (4, .ptr 1 0), (6, .ptr 2 0), (25, .sl (insA zs) false), (26, .int .i64 ps.length), (27, .int .i64 i)], ⟨[some [.int .i64 n, .int .u32 e, .int .u32 l, .sl (frsA ps) false], some [.int .i64 0, .int .u32 0], some [cellL 3 (partsN 0 (zs.take i))]] ++ objL (partsN 0 (zs.take i))⟩⟩) (fun i => i ≤ zs.length) (fun i => zs.length - i) 0 (by omega) (Sub.mk' (fun b => if b = 2 then 3 else b) (by simp) (by intro b hb; omega) (by rfl) (by simp [hsub, partsN, cellL_nil, objL_nil]) (by simp [objL_nil, partsN])) ?_
        intro i hi
        simp -dsimp -implicitDefEqProofs
        refine brW_of (fun h => ?_) (fun h => ?_) <;> simp only [decide_eq_true_eq, decide_eq_false_iff_not] at h
        · have hi' : i < zs.length := by omega
          have hw := wrapNat (i := i) (by omega)
          have hsz : 0 ≤ zs[i] ∧ zs[i] ≤ 5 := by
            have := List.all_eq_true.1 ha _ (List.getElem_mem hi')
            simpa [sizeI] using this
          have hpl := partsN_len (zs.take i) 0 (fun x hx => List.all_eq_true.1 ha x (List.mem_of_mem_take hx))
          have hstep : partsN 0 (zs.take (i + 1)) = partsN 0 (zs.take i) ++ List.replicate zs[i].toNat (i : Int) := by
            rw [take_snoc zs i hi', partsN_snoc]
            simp; omega
          have hrep := sp_repeatI_eq (i : Int) zs[i] hsz
          rw [List.length_take] at hpl
          generalize partsN 0 (zs.take i) = L at hstep hpl ⊢
          generalize hk : zs[i].toNat = k at hstep hrep
          have hk5 : k ≤ 5 := by omega
          have htk : (flatA (insA (List.replicate k (i : Int)))).take k = flatA (insA (List.replicate k (i : Int))) := List.take_of_length_le (by simp)
          by_cases hL : L = []
          · subst hL
            simp only [List.nil_append] at hstep
            rw [cellL_nil, objL_nil]
            rcases Nat.eq_zero_or_pos k with rfl | hkp
            · simp -dsimp -implicitDefEqProofs [hi', hw, hrep]
              exact .mk (i + 1) (by omega) (by omega) (Sub.keep (by simp) (by simp [hsub, hstep, cellL_nil, objL_nil]) (by simp [hstep, cellL_nil, objL_nil, hw]))
            · have hk0 : ¬ k = 0 := by omega
              have hm : k * 9 ≤ mostBytes := by simp only [mostBytes]; omega
              have hne : List.replicate k (i : Int) ≠ [] := by simp [hk0]
              simp -dsimp -implicitDefEqProofs [hi', hw, hrep, hk0, hm, htk]
              refine .mk (i + 1) (by omega) (by omega) ?_
              simp only [hstep, cellL_cons hne, objL_cons hne]
              exact Sub.mk' (fun b => if b = 3 then 5 else b) (by simp) (by intro b hb; omega) (by rfl) (by simp [hsub]) (by simp [hw])
          · rw [cellL_cons hL, objL_cons hL]
            rcases Nat.eq_zero_or_pos k with rfl | hkp
            · simp only [List.replicate_zero, List.append_nil] at hstep
              simp -dsimp -implicitDefEqProofs [hi', hw, hrep]
              refine .mk (i + 1) (by omega) (by omega) ?_
              simp only [hstep, cellL_cons hL, objL_cons hL]
              exact Sub.keep (by simp) (by simp [hsub]) (by simp [hw])
            · have hk0 : ¬ k = 0 := by omega
              have hm : (L.length + k) * 9 ≤ mostBytes := by simp only [mostBytes]; omega
              have hne : L ++ List.replicate k (i : Int) ≠ [] := by simp [hL]
              have hfit : ¬ (L.length + k ≤ L.length) := by omega
              have htl : (flatA (insA L)).take L.length = flatA (insA L) := List.take_of_length_le (by simp)
              have hcat : flatA (insA L) ++ flatA (insA (List.replicate k (i : Int))) = flatA (insA (L ++ List.replicate k (i : Int))) := flatA_append .. |>.symm
              simp -dsimp -implicitDefEqProofs [hi', hw, hrep, hk0, hm, hfit, htk, htl, hcat]
              refine .mk (i + 1) (by omega) (by omega) ?_
              simp only [hstep, cellL_cons hne, objL_cons hne]
              exact Sub.mk' (fun b => if b = 3 then 6 else b) (by simp) (by intro b hb; omega) (by rfl) (by simp [hsub]) (by simp [hw])
        · have hi' : i = zs.length := by omega
          subst hi'
          rw [List.take_length]
          have hpart := partsN_part zs 0 (by omega)
          generalize hL : partsN 0 zs = L at hpart ⊢
          by_cases h5 : L.length ≤ 5
          · have h5' : ¬ 5 < (L.length : Int) := by omega
            have hn : 0 ≤ (L.length : Int) ∧ (L.length : Int) ≤ 5 := by omega
            by_cases hL0 : L = []
            · subst hL0
              rw [cellL_nil, objL_nil]
              have hmade := spMade_eq (g := 81) (sp := spV sp_blow2) (n := 0) (caps := [.ptr 0 0, .ptr 2 0]) (A := ⟨[some [.int .i64 n, .int .u32 e, .int .u32 l, .sl (frsA ps) false], some [.int .i64 0, .int .u32 0], some [.sl [] true]]⟩) (fun i j => joinB e l (atI [] i) (atI [] j)) (by omega) (fun i j hi hj => by simp at hj)
              simp -dsimp -implicitDefEqProofs [hmade, blowE]
            · rw [cellL_cons hL0, objL_cons hL0]
              have hmade := spMade_eq (g := 81) (sp := spV sp_blow2) (n := L.length) (caps := [.ptr 0 0, .ptr 2 0]) (A := ⟨[some [.int .i64 n, .int .u32 e, .int .u32 l, .sl (frsA ps) false], some [.int .i64 0, .int .u32 0], some [.ref 3 1 0 L.length .full], some (flatA (insA L))]⟩) (fun i j => joinB e l (atI L i) (atI L j)) hn (fun i j hi hj => by
                have := sp_blow2_eq n e l ps L i j ⟨⟨he, hl⟩, hpart, by omega, by omega⟩
                simp [this])
              simp -dsimp -implicitDefEqProofs [h5', hmade, h5, blowE]
          · have h5' : 5 < (L.length : Int) := by omega
            have hL0 : L ≠ [] := by intro h0; rw [h0] at h5; simp at h5
            rw [cellL_cons hL0, objL_cons hL0]
            simp -dsimp -implicitDefEqProofs [h5', h5]
    · have hz' : ((zs.length : Int) != ps.length) = true := by simp; omega
      simp -dsimp -implicitDefEqProofs [c_impl_BlowUp, r_impl_BlowUp, hv, hp, hz', hz]
end Go.Proofs.YtkgodhdpcomjbaaAi
