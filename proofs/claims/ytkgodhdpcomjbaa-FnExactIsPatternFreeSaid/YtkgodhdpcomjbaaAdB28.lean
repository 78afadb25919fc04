/- The law of FirstMapOf. -/
import Derived.Test.YtkgodhdpcomjbaaAdB27
namespace Go.Proofs.YtkgodhdpcomjbaaAi
open Go Go.RowKit
set_option linter.unusedVariables false
set_option linter.unusedSimpArgs false
set_option maxRecDepth 20000

def cloneR (L : List Int) : AV × List (Option (List AV)) := if L = [] then (.sl [] true, []) else (.ref 0 1 0 L.length .full, [some (flatA (insA L))])
noncomputable def sp_cloneI : List AV → Option (AV × List (Option (List AV))) := pf (ι := (List Int)) (α := AV × List (Option (List AV))) (fun L => L.length ≤ 1048576) (fun L => [.sl (insA L) false]) (fun L => cloneR L)
theorem sp_cloneI_eq (L : List Int) (h : L.length ≤ 1048576) : sp_cloneI [.sl (insA L) false] = some (cloneR L) := by
  unfold sp_cloneI
  exact pf_eq (ι := (List Int)) (α := AV × List (Option (List AV))) L h (by rintro L' _ e; simp_all [Int.natCast_inj])
theorem n_slices_Clone_Sint64_int64 : QN PP 96 sp_cloneI := by
  refine QN_pf (fun L h => ?_) fun L h => ?_
  · first | rfl | simp
  replace h : L.length ≤ 1048576 := h
  show T PP 96 [.sl (insA L) false] .nil fun r' A' => r' = ((cloneR L : AV × List (Option (List AV)))).1 ∧ A' = ⟨((cloneR L : AV × List (Option (List AV)))).2⟩
  by_cases hL : L = []
  · subst hL
    rw [show cloneR [] = (.sl [] true, []) from rfl]
    refine H_code Quiet.nil hmix k_slices_Clone_Sint64_int64 rfl (fun _ => 0) (by simp [AHeap.n, AHeap.nil]) (by intro b hb; simp [AHeap.n, AHeap.nil] at hb <;> subst hb <;> rfl) (by rfl) (by first | rfl | simp) ?_
    simp -dsimp -implicitDefEqProofs [c_slices_Clone_Sint64_int64, r_slices_Clone_Sint64_int64, hsub]
  · rw [show cloneR L = (.ref 0 1 0 L.length .full, [some (flatA (insA L))]) from if_neg hL]
    have hl : L.length * 9 ≤ mostBytes := by simp only [mostBytes]; omega
    refine H_code Quiet.nil hmix k_slices_Clone_Sint64_int64 rfl (fun _ => 1) (by simp [AHeap.n, AHeap.nil]) (by intro b hb; simp [AHeap.n, AHeap.nil] at hb <;> subst hb <;> rfl) (by rfl) (by first | rfl | simp) ?_
    simp -dsimp -implicitDefEqProofs [c_slices_Clone_Sint64_int64, r_slices_Clone_Sint64_int64, hL, hl, hsub]

def fmapS (n e l : Int) (ps : List Fr) (hn he : Int) : AV × List (Option (List AV)) := if patOk n e l ps = true ∧ graphOk hn he = true then (match mapO n e l ps hn.toNat he with
  | some L => (.tup [.ref 0 1 0 hn.toNat .tight, .int .i64 0], [some (flatA (insA L))])
  | none => (.tup [.sl [] true, .int .i64 6], [])) else (.tup [.sl [] true, .int .i64 1], [])
def fmapI (n e l : Int) (ps : List Fr) (hn he : Int) : AV × List (Option (List AV)) := if patOk n e l ps = true ∧ graphOk hn he = true then (match mapO n e l ps hn.toNat he with
  | some L => if L = [] then (.tup [.sl [] true, .int .i64 0], []) else (.tup [.ref 0 1 0 L.length .full, .int .i64 0], [some (flatA (insA L))])
  | none => (.tup [.sl [] true, .int .i64 6], [])) else (.tup [.sl [] true, .int .i64 1], [])
def fmD (e l : Int) (ps : List Fr) (he : Int) : Prop := ((0 ≤ e ∧ e ≤ 4294967295) ∧ (0 ≤ l ∧ l ≤ 4294967295) ∧ ps.length ≤ maxLen) ∧ (0 ≤ he ∧ he ≤ 4294967295)
noncomputable def sp_fmapSP : List AV → Option (AV × List (Option (List AV))) := pf (ι := (Int) × (Int) × (Int) × (List Fr) × (Int) × (Int)) (α := AV × List (Option (List AV))) (fun ⟨n, e, l, ps, hn, he⟩ => fmD e l ps he) (fun ⟨n, e, l, ps, hn, he⟩ => [.agg [.int .i64 n, .int .u32 e, .int .u32 l, .sl (frsA ps) false], .agg [.int .i64 hn, .int .u32 he]]) (fun ⟨n, e, l, ps, hn, he⟩ => fmapS n e l ps hn he)
theorem sp_fmapSP_eq (n e l : Int) (ps : List Fr) (hn he : Int) (h : fmD e l ps he) : sp_fmapSP [.agg [.int .i64 n, .int .u32 e, .int .u32 l, .sl (frsA ps) false], .agg [.int .i64 hn, .int .u32 he]] = some (fmapS n e l ps hn he) := by
  unfold sp_fmapSP
  exact pf_eq (ι := (Int) × (Int) × (Int) × (List Fr) × (Int) × (Int)) (α := AV × List (Option (List AV))) (n, e, l, ps, hn, he) h (by rintro ⟨n', e', l', ps', hn', he'⟩ _ e; simp_all [Int.natCast_inj])
noncomputable def sp_fmapIP : List AV → Option (AV × List (Option (List AV))) := pf (ι := (Int) × (Int) × (Int) × (List Fr) × (Int) × (Int)) (α := AV × List (Option (List AV))) (fun ⟨n, e, l, ps, hn, he⟩ => fmD e l ps he) (fun ⟨n, e, l, ps, hn, he⟩ => [.agg [.int .i64 n, .int .u32 e, .int .u32 l, .sl (frsA ps) false], .agg [.int .i64 hn, .int .u32 he]]) (fun ⟨n, e, l, ps, hn, he⟩ => fmapI n e l ps hn he)
theorem sp_fmapIP_eq (n e l : Int) (ps : List Fr) (hn he : Int) (h : fmD e l ps he) : sp_fmapIP [.agg [.int .i64 n, .int .u32 e, .int .u32 l, .sl (frsA ps) false], .agg [.int .i64 hn, .int .u32 he]] = some (fmapI n e l ps hn he) := by
  unfold sp_fmapIP
  exact pf_eq (ι := (Int) × (Int) × (Int) × (List Fr) × (Int) × (Int)) (α := AV × List (Option (List AV))) (n, e, l, ps, hn, he) h (by rintro ⟨n', e', l', ps', hn', he'⟩ _ e; simp_all [Int.natCast_inj])
theorem patOk_nn {n e l : Int} {ps : List Fr} (h : patOk n e l ps = true) : ∀ x ∈ ps, 0 ≤ x.p := by
  simp only [patOk, Bool.and_eq_true, decide_eq_true_eq] at h
  intro x hx
  have := List.all_eq_true.1 h.1.2 x hx
  simpa using this
theorem mapO_len {n e l : Int} {ps : List Fr} {m : Nat} {he : Int} {L : List Int} (h : mapO n e l ps m he = some L) : L.length = m := allL_len (List.mem_of_find?_eq_some h)
theorem n_spec_FirstMapOf : QN PP 33 sp_fmapSP := by
  refine QN_pf (fun i h => ?_) fun i h => ?_
  · obtain ⟨n, e, l, ps, hn, he⟩ := i; first | rfl | simp
  obtain ⟨n, e, l, ps, hn, he⟩ := i
  replace h : fmD e l ps he := h
  show T PP 33 [.agg [.int .i64 n, .int .u32 e, .int .u32 l, .sl (frsA ps) false], .agg [.int .i64 hn, .int .u32 he]] .nil fun r' A' => r' = ((fmapS n e l ps hn he : AV × List (Option (List AV)))).1 ∧ A' = ⟨((fmapS n e l ps hn he : AV × List (Option (List AV)))).2⟩
  obtain ⟨hp, hhe⟩ := h
  have h1 := sp_l07Ok_eq n e l ps hp
  have h2 := sp_graphOk_eq hn he hhe
  unfold fmapS
  cases hpo : patOk n e l ps with
  | false =>
    simp only [Bool.false_eq_true, false_and, if_false]
    refine H_code (Quiet.q1 q_spec_l01Ok (Quiet.e1 m_spec_l07Ok.toE (Quiet.e1 v_spec_l07First.toE Quiet.nil))) hmix k_spec_FirstMapOf rfl (fun _ => 0) (by simp [AHeap.n, AHeap.nil]) (by intro b hb; simp [AHeap.n, AHeap.nil] at hb <;> subst hb <;> rfl) (by rfl) (by first | rfl | simp) ?_
    simp -dsimp -implicitDefEqProofs [c_spec_FirstMapOf, r_spec_FirstMapOf, h1, hpo, hsub]
  | true =>
    cases hg : graphOk hn he with
    | false =>
      simp only [Bool.false_eq_true, and_false, if_false]
      refine H_code (Quiet.q1 q_spec_l01Ok (Quiet.e1 m_spec_l07Ok.toE (Quiet.e1 v_spec_l07First.toE Quiet.nil))) hmix k_spec_FirstMapOf rfl (fun _ => 0) (by simp [AHeap.n, AHeap.nil]) (by intro b hb; simp [AHeap.n, AHeap.nil] at hb <;> subst hb <;> rfl) (by rfl) (by first | rfl | simp) ?_
      simp -dsimp -implicitDefEqProofs [c_spec_FirstMapOf, r_spec_FirstMapOf, h1, h2, hpo, hg, hsub]
    | true =>
      obtain ⟨_, hn4, _, hlen, hall⟩ := patOk_spec hpo
      obtain ⟨⟨m0, m5⟩, _⟩ := graphOk_lt hg hhe.1
      obtain ⟨m, rfl⟩ := Int.eq_ofNat_of_zero_le m0
      have h3 := sp_firstS_eq n e l ps m he ⟨⟨hp.1, hp.2.1⟩, ⟨by omega, hhe⟩, hn4, hlen⟩
      simp only [Int.toNat_natCast, and_self, if_true]
      cases hmo : mapO n e l ps m he with
      | none =>
        rw [hmo] at h3
        simp only [fmR, fmO] at h3
        refine H_code (Quiet.q1 q_spec_l01Ok (Quiet.e1 m_spec_l07Ok.toE (Quiet.e1 v_spec_l07First.toE Quiet.nil))) hmix k_spec_FirstMapOf rfl (fun _ => 0) (by simp [AHeap.n, AHeap.nil]) (by intro b hb; simp [AHeap.n, AHeap.nil] at hb <;> subst hb <;> rfl) (by rfl) (by first | rfl | simp) ?_
        simp -dsimp -implicitDefEqProofs [c_spec_FirstMapOf, r_spec_FirstMapOf, h1, h2, hpo, hg, h3, hsub]
      | some L =>
        rw [hmo] at h3
        simp only [fmR, fmO] at h3
        refine H_code (Quiet.q1 q_spec_l01Ok (Quiet.e1 m_spec_l07Ok.toE (Quiet.e1 v_spec_l07First.toE Quiet.nil))) hmix k_spec_FirstMapOf rfl (fun _ => 2) (by simp [AHeap.n, AHeap.nil]) (by intro b hb; simp [AHeap.n, AHeap.nil] at hb <;> subst hb <;> rfl) (by rfl) (by first | rfl | simp) ?_
        simp -dsimp -implicitDefEqProofs [c_spec_FirstMapOf, r_spec_FirstMapOf, h1, h2, hpo, hg, h3, hsub]
theorem n_impl_FirstMapOf : QN PP 34 sp_fmapIP := by
  refine QN_pf (fun i h => ?_) fun i h => ?_
  · obtain ⟨n, e, l, ps, hn, he⟩ := i; first | rfl | simp
  obtain ⟨n, e, l, ps, hn, he⟩ := i
  replace h : fmD e l ps he := h
  show T PP 34 [.agg [.int .i64 n, .int .u32 e, .int .u32 l, .sl (frsA ps) false], .agg [.int .i64 hn, .int .u32 he]] .nil fun r' A' => r' = ((fmapI n e l ps hn he : AV × List (Option (List AV)))).1 ∧ A' = ⟨((fmapI n e l ps hn he : AV × List (Option (List AV)))).2⟩
  obtain ⟨hp, hhe⟩ := h
  have h1 := sp_patOk_eq n e l ps hp
  have h2 := sp_badGraph_eq hn he hhe
  unfold fmapI
  cases hpo : patOk n e l ps with
  | false =>
    simp only [Bool.false_eq_true, false_and, if_false]
    refine H_code (Quiet.q1 q_impl_ValidPattern (Quiet.q1 q_impl_badGraph (Quiet.e1 v_impl_Pattern_firstMap.toE (Quiet.e1 n_slices_Clone_Sint64_int64.toE Quiet.nil)))) hmix k_impl_FirstMapOf rfl (fun _ => 0) (by simp [AHeap.n, AHeap.nil]) (by intro b hb; simp [AHeap.n, AHeap.nil] at hb <;> subst hb <;> rfl) (by rfl) (by first | rfl | simp) ?_
    simp -dsimp -implicitDefEqProofs [c_impl_FirstMapOf, r_impl_FirstMapOf, h1, hpo, hsub]
  | true =>
    cases hg : graphOk hn he with
    | false =>
      simp only [Bool.false_eq_true, and_false, if_false]
      refine H_code (Quiet.q1 q_impl_ValidPattern (Quiet.q1 q_impl_badGraph (Quiet.e1 v_impl_Pattern_firstMap.toE (Quiet.e1 n_slices_Clone_Sint64_int64.toE Quiet.nil)))) hmix k_impl_FirstMapOf rfl (fun _ => 0) (by simp [AHeap.n, AHeap.nil]) (by intro b hb; simp [AHeap.n, AHeap.nil] at hb <;> subst hb <;> rfl) (by rfl) (by first | rfl | simp) ?_
      simp -dsimp -implicitDefEqProofs [c_impl_FirstMapOf, r_impl_FirstMapOf, h1, h2, hpo, hg, hsub]
    | true =>
      obtain ⟨_, hn4, _, hlen, hall⟩ := patOk_spec hpo
      obtain ⟨⟨m0, m5⟩, _⟩ := graphOk_lt hg hhe.1
      obtain ⟨m, rfl⟩ := Int.eq_ofNat_of_zero_le m0
      have h3 := sp_firstI_eq n e l ps m he ⟨⟨hp.1, hp.2.1⟩, ⟨by omega, hhe⟩, hn4, hlen⟩
      obtain ⟨g1, g2⟩ := goL_fm ps (patOk_nn hpo) (fun L => fitL false he e l L m) (allL n.toNat m) []
      have g1 : (fmV n e l ps m he).1 = (mapO n e l ps m he).isSome := g1
      have g2 : ∀ L, mapO n e l ps m he = some L → (fmV n e l ps m he).2 = L := g2
      simp only [Int.toNat_natCast, and_self, if_true]
      cases hmo : mapO n e l ps m he with
      | none =>
        rw [hmo, Option.isSome_none] at g1
        rw [g1] at h3
        refine H_code (Quiet.q1 q_impl_ValidPattern (Quiet.q1 q_impl_badGraph (Quiet.e1 v_impl_Pattern_firstMap.toE (Quiet.e1 n_slices_Clone_Sint64_int64.toE Quiet.nil)))) hmix k_impl_FirstMapOf rfl (fun _ => 0) (by simp [AHeap.n, AHeap.nil]) (by intro b hb; simp [AHeap.n, AHeap.nil] at hb <;> subst hb <;> rfl) (by rfl) (by first | rfl | simp) ?_
        simp -dsimp -implicitDefEqProofs [c_impl_FirstMapOf, r_impl_FirstMapOf, h1, h2, hpo, hg, h3, hsub]
      | some L =>
        have hL := mapO_len hmo
        rw [hmo, Option.isSome_some] at g1
        rw [g1, g2 L hmo] at h3
        have hcl := sp_cloneI_eq L (by omega)
        unfold cloneR at hcl
        by_cases hL0 : L = []
        · rw [if_pos hL0] at hcl
          simp only [hL0, if_true]
          refine H_code (Quiet.q1 q_impl_ValidPattern (Quiet.q1 q_impl_badGraph (Quiet.e1 v_impl_Pattern_firstMap.toE (Quiet.e1 n_slices_Clone_Sint64_int64.toE Quiet.nil)))) hmix k_impl_FirstMapOf rfl (fun _ => 0) (by simp [AHeap.n, AHeap.nil]) (by intro b hb; simp [AHeap.n, AHeap.nil] at hb <;> subst hb <;> rfl) (by rfl) (by first | rfl | simp) ?_
          subst hL0
          simp -dsimp -implicitDefEqProofs [c_impl_FirstMapOf, r_impl_FirstMapOf, h1, h2, hpo, hg, h3, hcl, hsub]
        · rw [if_neg hL0] at hcl
          simp only [hL0, if_false]
          refine H_code (Quiet.q1 q_impl_ValidPattern (Quiet.q1 q_impl_badGraph (Quiet.e1 v_impl_Pattern_firstMap.toE (Quiet.e1 n_slices_Clone_Sint64_int64.toE Quiet.nil)))) hmix k_impl_FirstMapOf rfl (fun _ => 2) (by simp [AHeap.n, AHeap.nil]) (by intro b hb; simp [AHeap.n, AHeap.nil] at hb <;> subst hb <;> rfl) (by rfl) (by first | rfl | simp) ?_
          simp -dsimp -implicitDefEqProofs [c_impl_FirstMapOf, r_impl_FirstMapOf, h1, h2, hpo, hg, h3, hcl, hsub]

/-! ### marks -/
def marksI : Nat → Int → List Int
  | 0, _ => []
  | n + 1, k => k :: marksI n (k + 1)
@[simp] theorem marksI_len : ∀ (n : Nat) (k : Int), (marksI n k).length = n
  | 0, _ => rfl
  | n + 1, k => by simp [marksI, marksI_len n]
theorem marksI_get : ∀ (n : Nat) (k : Int) (i : Nat) (h : i < (marksI n k).length), (marksI n k)[i] = k + i
  | 0, _, i, h => by simp [marksI] at h
  | n + 1, k, 0, h => by simp [marksI]
  | n + 1, k, i + 1, h => by
    simp only [marksI, List.getElem_cons_succ]
    rw [marksI_get n (k + 1) i]
    omega
theorem marksI_step (l : List Int) (k : Int) (i : Nat) (h : i < l.length) : ((marksI l.length k).take i ++ l.drop i).set i (k + i) = (marksI l.length k).take (i + 1) ++ l.drop (i + 1) := by
  rw [List.set_append_right _ _ (by simp; omega)]
  have e : i - ((marksI l.length k).take i).length = 0 := by simp; omega
  rw [e, List.drop_eq_getElem_cons h, List.set_cons_zero, take_snoc _ i (by simpa using h), marksI_get, List.append_assoc]
  rfl
theorem marksI_end (l : List Int) (k : Int) : (marksI l.length k).take l.length ++ l.drop l.length = marksI l.length k := by
  simp [List.take_of_length_le]
@[simp] theorem marksI_inj (n n' : Nat) (k k' : Int) : marksI n k = marksI n' k' ↔ n = n' ∧ (n = 0 ∨ k = k') := by
  constructor
  · intro h
    have hn : n = n' := by have := congrArg List.length h; simpa using this
    subst hn
    refine ⟨rfl, ?_⟩
    cases n with
    | zero => exact .inl rfl
    | succ n =>
      simp only [marksI, List.cons.injEq] at h
      exact .inr h.1
  · rintro ⟨rfl, rfl | rfl⟩ <;> rfl
theorem gath_zero (e : Nat) (cs : List AV) : gath e 0 cs = [] := rfl
noncomputable def sp_markI : List (Option (List AV)) → List AV → Option (AV × List (Option (List AV))) := pv (pf (ι := (List Int) × (Int) × (Cp)) (α := AV × List (Option (List AV))) (fun ⟨zs, k, t⟩ => kOk k ∧ zs.length ≤ 1048576) (fun i => .agg (((fun ⟨zs, k, t⟩ => [some (flatA (insA zs))] : (List Int) × (Int) × (Cp) → List (Option (List AV))) i).map enO) :: (fun ⟨zs, k, t⟩ => [.ref 0 1 0 zs.length t, .int .i64 k] : (List Int) × (Int) × (Cp) → List AV) i) (fun ⟨zs, k, t⟩ => (.int .i64 (k + zs.length), [some (flatA (insA (marksI zs.length k)))])))
theorem sp_markI_eq (zs : List Int) (k : Int) (t : Cp) (h : kOk k ∧ zs.length ≤ 1048576) : sp_markI [some (flatA (insA zs))] [.ref 0 1 0 zs.length t, .int .i64 k] = some (.int .i64 (k + zs.length), [some (flatA (insA (marksI zs.length k)))]) := by
  unfold sp_markI pv
  exact pf_eq (ι := (List Int) × (Int) × (Cp)) (α := AV × List (Option (List AV))) (zs, k, t) h (by rintro ⟨zs', k', t'⟩ _ e; simp_all [enO, Int.natCast_inj])
theorem v_laws_markInt64S : QV PP 35 sp_markI := by
  refine QV_pf fun i h => ?_
  obtain ⟨zs, k, t⟩ := i
  replace h : kOk k ∧ zs.length ≤ 1048576 := h
  refine H_code Quiet.nil hmix k_laws_markInt64S rfl (fun b => b) (by simp [AHeap.n]) (fun _ _ => rfl) (by rfl) (by first | rfl | simp) ?_
  show wpc _ PP _ c_laws_markInt64S (initSt [.ref 0 1 0 zs.length t, .int .i64 k] ⟨[some (flatA (insA zs))]⟩) (endH (fun b => b) r_laws_markInt64S (.int .i64 (k + zs.length)) [some (flatA (insA (marksI zs.length k)))])
  obtain ⟨hk, hl⟩ := h
  unfold kOk at hk
  simp -dsimp -implicitDefEqProofs [c_laws_markInt64S, r_laws_markInt64S]
  refine wpLoop_st (fun (i : Nat × List Int) => ⟨tl [(0, .ref 0 1 0 zs.length t), (1, .int .i64 (k + i.1)), (5, .int .i64 i.1)], ⟨[some (flatA (insA i.2))]⟩⟩) (fun i => i.1 ≤ zs.length ∧ i.2.length = zs.length ∧ i.2 = (marksI zs.length k).take i.1 ++ zs.drop i.1) (fun i => zs.length - i.1) (0, zs) ⟨by simp, rfl, by simp⟩ (Sub.keep (by simp) (by simp [hsub]) (by simp)) ?_
  rintro ⟨i, L⟩ ⟨h1, h2, h3⟩
  simp only at h1 h2 h3
  simp -dsimp -implicitDefEqProofs
  refine brW_of (fun h => ?_) (fun h => ?_) <;> simp only [decide_eq_true_eq, decide_eq_false_iff_not] at h
  · have hi : i < zs.length := by simpa using h
    have w1 : IntKind.i64.wrap (k + (i : Int) + 1) = k + i + 1 := wrapI64 (by omega) (by omega)
    have hw := wrapNat (i := i) (by omega)
    have f1 : i + 1 ≤ L.length := by omega
    have hs := set_in L i (k + i) (by omega)
    simp -dsimp -implicitDefEqProofs [hi, w1, hw, f1, hs]
    refine .mk (i + 1, L.set i (k + i)) ⟨by simp only; omega, by simp [h2], ?_⟩ (by simp only; omega) (Sub.keep (by simp) (by simp [hsub]) (by simp [w1, hw]; omega))
    simp only
    rw [h3]
    exact marksI_step zs k i hi
  · have hi : i = zs.length := by simp at h; omega
    subst hi
    rw [marksI_end] at h3
    subst h3
    simp -dsimp -implicitDefEqProofs [hsub]
noncomputable def sp_markI0 : List AV → Option (AV) := pf (ι := (Int)) (α := AV) (fun k => True) (fun k => [.sl [] false, .int .i64 k]) (fun k => .int .i64 k)
theorem sp_markI0_eq (k : Int) : sp_markI0 [.sl [] false, .int .i64 k] = some (.int .i64 k) := by
  unfold sp_markI0
  exact pf_eq (ι := (Int)) (α := AV) k trivial (by rintro k' _ e; simp_all [Int.natCast_inj])
attribute [simp] sp_markI0_eq
theorem q_laws_markInt64S : QP PP 35 sp_markI0 := by
  refine QP_pf (fun k h => ?_) fun k h => ?_
  · exact ⟨by first | rfl | simp, by first | rfl | simp⟩
  replace h : True := h
  refine P_code Quiet.nil hmix k_laws_markInt64S rfl ?_ ?_
  · first | rfl | simp
  show wpc 0 PP _ c_laws_markInt64S (initSt [.sl [] false, .int .i64 k] .nil) (endP r_laws_markInt64S (.int .i64 k))
  simp -dsimp -implicitDefEqProofs [c_laws_markInt64S, r_laws_markInt64S]
  refine wpLoop_st (fun (_ : Unit) => ⟨tl [(0, .sl [] false), (1, .int .i64 k), (5, .int .i64 0)], ⟨[]⟩⟩) (fun _ => True) (fun _ => 0) () trivial (Sub.keep (by simp) (by simp [hsub]) (by simp)) ?_
  intro _ _
  simp -dsimp -implicitDefEqProofs
theorem e_laws_markInt64S : QE PP 35 (refE (spV sp_markI) (spR sp_markI0)) := QE.ref v_laws_markInt64S.toE q_laws_markInt64S.toR
noncomputable def sp_heldI : List AV → Option (AV) := pf (ι := (Nat) × (Int)) (α := AV) (fun ⟨n, k⟩ => kOk k ∧ n ≤ 1048576) (fun ⟨n, k⟩ => [.sl (insA (marksI n k)) false, .int .i64 k]) (fun ⟨n, k⟩ => .int .i64 (k + n))
theorem sp_heldI_eq (n : Nat) (k : Int) (h : kOk k ∧ n ≤ 1048576) : sp_heldI [.sl (insA (marksI n k)) false, .int .i64 k] = some (.int .i64 (k + n)) := by
  unfold sp_heldI
  exact pf_eq (ι := (Nat) × (Int)) (α := AV) (n, k) h (by rintro ⟨n', k'⟩ _ e; simp_all [Int.natCast_inj])
theorem q_laws_heldInt64S : QP PP 36 sp_heldI := by
  refine QP_pf (fun i h => ?_) fun i h => ?_
  · obtain ⟨n, k⟩ := i; exact ⟨by first | rfl | simp, by first | rfl | simp⟩
  obtain ⟨n, k⟩ := i
  replace h : kOk k ∧ n ≤ 1048576 := h
  refine P_code Quiet.nil hmix k_laws_heldInt64S rfl ?_ ?_
  · first | rfl | simp
  show wpc 0 PP _ c_laws_heldInt64S (initSt [.sl (insA (marksI n k)) false, .int .i64 k] .nil) (endP r_laws_heldInt64S (.int .i64 (k + n)))
  obtain ⟨hk, hl⟩ := h
  unfold kOk at hk
  simp -dsimp -implicitDefEqProofs [c_laws_heldInt64S, r_laws_heldInt64S]
  refine wpLoop_st (fun (i : Nat) => ⟨tl [(0, .sl (insA (marksI n k)) false), (1, .int .i64 (k + i)), (5, .int .i64 i)], ⟨[]⟩⟩) (fun i => i ≤ n) (fun i => n - i) 0 (by omega) (Sub.keep (by simp) (by simp [hsub]) (by simp)) ?_
  intro i hi
  simp -dsimp -implicitDefEqProofs
  refine brW_of (fun h => ?_) (fun h => ?_) <;> simp only [decide_eq_true_eq, decide_eq_false_iff_not] at h
  · have hi : i < n := by simpa using h
    have w1 : IntKind.i64.wrap (k + (i : Int) + 1) = k + i + 1 := wrapI64 (by omega) (by omega)
    have hw := wrapNat (i := i) (by omega)
    have hg := marksI_get n k i (by simpa using hi)
    simp -dsimp -implicitDefEqProofs [hi, w1, hw, hg]
    exact .mk (i + 1) (by omega) (by omega) (Sub.keep (by simp) (by simp [hsub]) (by simp [w1, hw]; omega))
  · have hi : i = n := by simp at h; omega
    subst hi
    simp -dsimp -implicitDefEqProofs
theorem heldI_nil (k : Int) (h : kOk k) : sp_heldI [.sl [] false, .int .i64 k] = some (.int .i64 k) := by
  have := sp_heldI_eq 0 k ⟨h, by omega⟩
  simpa [marksI, mapA] using this
theorem eqInt_nil : sp_eqInt [.sl [] false, .sl [] false] = some (.bool true) := eqInt_refl [] (by simp [maxLen])

set_option maxHeartbeats 4000000 in
theorem law_firstMapOf (xs : List AV) (h : WtA [tyPattern, tyGraph] xs) : T PP 7 xs .nil fun r _ => r = .bool true := by
  simp only [WtA_cons, WtA_nil] at h
  obtain ⟨x, _, rfl, hx, y, _, rfl, hy, rfl⟩ := h
  obtain ⟨n, e, l, ps, rfl, h⟩ := wt_pattern hx
  simp only [tyGraph, WtV_st, WtL_int, WtL_nil] at hy
  obtain ⟨_, rfl, hn, _, rfl, _, he, _, rfl, hhe, rfl⟩ := hy
  have hhe : 0 ≤ he ∧ he ≤ 4294967295 := ⟨by simpa [IntKind.min, IntKind.signed] using hhe.1, by simpa [IntKind.max, IntKind.signed, IntKind.bits] using hhe.2⟩
  refine (P_code (r := .bool true) (Quiet.q1 q_laws_szPattern (Quiet.q1 q_laws_toGraph (Quiet.e1 n_spec_FirstMapOf.toR (Quiet.e1 n_laws_toPattern.toE (Quiet.e1 n_impl_FirstMapOf.toR (Quiet.e1 q_laws_eqPattern.toR (Quiet.e1 q_laws_eqInt64S.toR (Quiet.e1 e_laws_markPattern (Quiet.e1 e_laws_markInt64S (Quiet.e1 q_laws_heldInt64S.toR Quiet.nil)))))))))) hmix k_laws_FnExactFirstMapOf rfl rfl ?_).mono fun r A' h => h.1
  by_cases c : (ps.length : Int) ≤ 1048576
  · have c2 : ¬ ((1048576 : Int) - ps.length < 0) := by omega
    have hT := sp_toPatN_eq n e l ps (by omega)
    have hq := eqPat_refl n e l ps h.2.2
    have hS := sp_fmapSP_eq n e l ps hn he ⟨h, hhe⟩
    have hI := sp_fmapIP_eq n e l ps hn he ⟨h, hhe⟩
    have hm := fun t => sp_markPat_eq n e l ps 1 t ⟨k1_ok, by omega⟩
    have hneg : ¬ (1 + 2 * (ps.length : Int) < 0) := by omega
    have hz := sp_szPattern_eq n e l ps 1048576 ⟨by omega, by omega, h.2.2⟩
    unfold fmapS at hS
    unfold fmapI at hI
    by_cases hv : patOk n e l ps = true ∧ graphOk hn he = true
    · rw [if_pos hv] at hS hI
      cases hmo : mapO n e l ps hn.toNat he with
      | none =>
        rw [hmo] at hS hI
        simp only at hS hI
        simp -dsimp -implicitDefEqProofs [c_laws_FnExactFirstMapOf, r_laws_FnExactFirstMapOf, hz, c, c2, hT, hS, hI, hq, hm, hneg, eqInt_nil, heldI_nil, k1_ok]
      | some L =>
        have hL := mapO_len hmo
        rw [hmo] at hS hI
        simp only at hS hI
        have hq2 := eqInt_refl L (by have := (of_decide_eq_true hv.2 : _).1; simp [maxLen]; omega)
        by_cases hL0 : L = []
        · subst hL0
          rw [← hL] at hS
          simp only [List.length_nil, flatA_nil, if_true] at hS hI
          simp -dsimp -implicitDefEqProofs [c_laws_FnExactFirstMapOf, r_laws_FnExactFirstMapOf, hz, c, c2, hT, hS, hI, hq, hm, hneg, eqInt_nil, heldI_nil, k1_ok, gath_zero]
        · rw [if_neg hL0] at hI
          rw [← hL] at hS
          have hl5 : L.length ≤ 5 := by have := (of_decide_eq_true hv.2 : _).1; omega
          have hmi := fun t => sp_markI_eq L 1 t ⟨k1_ok, by omega⟩
          have hhi := sp_heldI_eq L.length 1 ⟨k1_ok, by omega⟩
          have hneg2 : ¬ (1 + (L.length : Int) < 0) := by omega
          simp -dsimp -implicitDefEqProofs [c_laws_FnExactFirstMapOf, r_laws_FnExactFirstMapOf, hz, c, c2, hT, hS, hI, hq, hm, hneg, hq2, hmi, hhi, hneg2]
    · rw [if_neg hv] at hS hI
      simp -dsimp -implicitDefEqProofs [c_laws_FnExactFirstMapOf, r_laws_FnExactFirstMapOf, hz, c, c2, hT, hS, hI, hq, hm, hneg, eqInt_nil, heldI_nil, k1_ok]
  · simp -dsimp -implicitDefEqProofs [c_laws_FnExactFirstMapOf, r_laws_FnExactFirstMapOf, sp_szPattern_eq n e l ps 1048576 ⟨by omega, by omega, h.2.2⟩, c]
end Go.Proofs.YtkgodhdpcomjbaaAi
