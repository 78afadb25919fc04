/- Contracts, joined. -/
import Derived.Test.YtgophedkejgedaaDoorMst3
section
/- Contracts and law: SumText. -/
namespace Go.Proofs.YtgophedkejgedaaDoorAi
open Go Go.RowKit
set_option linter.unusedVariables false
set_option linter.unusedSimpArgs false
set_option maxRecDepth 20000

noncomputable def sp_l05Text : List AV → List AV → Option (AV × List AV) := pm (pf (ι := (Int) × (Int) × (Int) × (List Tm)) (α := AV × List AV) (fun ⟨tn, te, s, L⟩ => sumInH tn te s L) (fun i => .agg ((fun ⟨tn, te, s, L⟩ => [.int .i64 tn, .int .u32 te, .int .i64 s, .sl (tmsA L) false] : (Int) × (Int) × (Int) × (List Tm) → List AV) i) :: (fun ⟨tn, te, s, L⟩ => [] : (Int) × (Int) × (Int) × (List Tm) → List AV) i) (fun ⟨tn, te, s, L⟩ => (.str (sumX tn te s L), [.int .i64 tn, .int .u32 te, .int .i64 s, .sl (tmsA L) false])))
theorem sp_l05Text_eq (tn te s : Int) (L : List Tm) (h : sumInH tn te s L) : sp_l05Text [.int .i64 tn, .int .u32 te, .int .i64 s, .sl (tmsA L) false] [] = some (.str (sumX tn te s L), [.int .i64 tn, .int .u32 te, .int .i64 s, .sl (tmsA L) false]) := by
  unfold sp_l05Text pm
  exact pf_eq (ι := (Int) × (Int) × (Int) × (List Tm)) (α := AV × List AV) (tn, te, s, L) h (by rintro ⟨tn', te', s', L'⟩ _ e; simp_all [Int.natCast_inj])
set_option maxHeartbeats 1000000 in
theorem m_spec_l05Text : QM PP 41 sp_l05Text := by
  refine QM_pf (fun i h => ?_) fun i h => ?_
  · obtain ⟨tn, te, s, L⟩ := i; exact ⟨⟨by first | rfl | simp, by first | rfl | simp⟩, by first | rfl | simp, by first | rfl | simp⟩
  obtain ⟨tn, te, s, L⟩ := i
  replace h : sumInH tn te s L := h
  refine H_code (Quiet.q1 q_spec_Decimal (Quiet.q1 q_spec_GraphText (Quiet.q1 q_spec_FractionText Quiet.nil))) hmix k_spec_l05Text rfl (fun b => b) (Nat.le_refl _) (fun _ _ => rfl) rfl (by first | rfl | simp) ?_
  show wpc 1 PP _ c_spec_l05Text (initSt [.ptr 0 0] ⟨[some [.int .i64 tn, .int .u32 te, .int .i64 s, .sl (tmsA L) false]]⟩) (endH (fun b => b) r_spec_l05Text (.str (sumX tn te s L)) [some [.int .i64 tn, .int .u32 te, .int .i64 s, .sl (tmsA L) false]])
  obtain ⟨⟨hte, hg⟩, hs, hl, hr⟩ := h
  have htn := graphOk_in hg
  have hd := sp_decS_eq s (by omega)
  have ht := sp_graphText_eq tn te hte
  have hgt : graphT tn te = grT te tn.toNat := by unfold graphT; rw [if_pos hg]
  rw [hgt] at ht
  have s0 := decB_size s (by omega) (by omega)
  have s1 := grT_size (e := te) (n := tn.toNat) (by omega)
  have z1 : 4 + (decB s).size ≤ 9223372036854775807 := by omega
  have z2 : 4 + (decB s).size + 1 ≤ 9223372036854775807 := by omega
  have z3 : 4 + (decB s).size + 1 + (grT te tn.toNat).size ≤ 9223372036854775807 := by omega
  have z4 : 4 + (decB s).size + 1 + (grT te tn.toNat).size + 1 ≤ 9223372036854775807 := by omega
  have hst := sumX_start (te := te) htn hs
  unfold sumX
  simp -dsimp -implicitDefEqProofs [c_spec_l05Text, r_spec_l05Text, hd, ht, z1, z2, z3, z4]
  refine wpLoop_st (fun (i : Nat) => ⟨tl [(0, .ptr 0 0), (3, .str (tmsW (sumWB ++ decB s ++ sepB ++ grT te tn.toNat ++ lineB) (L.take i))), (4, .int .i64 i)], ⟨[some [.int .i64 tn, .int .u32 te, .int .i64 s, .sl (tmsA L) false]]⟩⟩) (fun i => i ≤ L.length) (fun i => L.length - i) 0 (by omega) (Sub.keep (by simp) (by simp [hsub]) (by simp [tmsW, sumWB, sepB, lineB])) ?_
  intro i hi
  simp -dsimp -implicitDefEqProofs
  refine brW_of (fun h => ?_) (fun h => ?_) <;> simp only [decide_eq_true_eq, decide_eq_false_iff_not] at h
  · have hx : i < L.length := by omega
    have hwi := wrapNat (i := i) (by omega)
    have hri := hr L[i] (List.getElem_mem hx)
    have hf := sp_fracText_eq L[i].p L[i].q
    have hft : fracT L[i].p L[i].q = frT L[i].p L[i].q := by unfold fracT; rw [if_pos hri.1]
    rw [hft] at hf
    have hgx := sp_graphText_eq L[i].n L[i].e hri.2.2
    have hgx2 : graphT L[i].n L[i].e = grT L[i].e L[i].n.toNat := by unfold graphT; rw [if_pos hri.2.1]
    rw [hgx2] at hgx
    have hsn := tmsW_snoc (sumWB ++ decB s ++ sepB ++ grT te tn.toNat ++ lineB) L i hx
    have s2 := tmsW_size (L.take i) (fun r hr' => hr r (List.mem_of_mem_take hr')) (sumWB ++ decB s ++ sepB ++ grT te tn.toNat ++ lineB)
    have s3 : (L.take i).length ≤ 64 := by rw [List.length_take]; omega
    have s4 := tmT_size hri
    generalize sumWB ++ decB s ++ sepB ++ grT te tn.toNat ++ lineB = W0 at *
    unfold tmT at hsn s4
    have e1 : sepB.size = 1 := rfl
    have e2 : lineB.size = 1 := rfl
    simp only [ByteArray.size_append] at s4
    generalize tmsW W0 (L.take i) = W at *
    generalize frT L[i].p L[i].q = F at *
    generalize grT L[i].e L[i].n.toNat = G at *
    have y1 : F.size + 1 ≤ 9223372036854775807 := by omega
    have y2 : F.size + 1 + G.size ≤ 9223372036854775807 := by omega
    have y3 : F.size + 1 + G.size + 1 ≤ 9223372036854775807 := by omega
    have y4 : W.size + (F.size + 1 + G.size + 1) ≤ 9223372036854775807 := by omega
    simp -dsimp -implicitDefEqProofs [hx, hwi, hf, hft, hgx, y1, y2, y3, y4]
    exact .mk (i + 1) (by omega) (by omega) (Sub.keep (by simp) (by simp [hsub]) (by simp [hsn, sepB, lineB, hwi]))
  · obtain rfl : i = L.length := by omega
    simp -dsimp -implicitDefEqProofs [hsub]
theorem q_spec_SumText : QP PP 8 sp_sumText := by
  refine QP_pf (fun i h => ?_) fun i h => ?_
  · obtain ⟨tn, te, s, L⟩ := i; exact ⟨by first | rfl | simp, by first | rfl | simp⟩
  obtain ⟨tn, te, s, L⟩ := i
  replace h : (0 ≤ te ∧ te ≤ 4294967295) ∧ L.length ≤ maxLen ∧ u32L L := h
  refine P_code (Quiet.e1 m_spec_l05Ok.toE (Quiet.e1 m_spec_l05Text.toE Quiet.nil)) hmix k_spec_SumText rfl ?_ ?_
  · first | rfl | simp
  show wpc 0 PP _ c_spec_SumText (initSt [.agg [.int .i64 tn, .int .u32 te, .int .i64 s, .sl (tmsA L) false]] .nil) (endP r_spec_SumText (.str (sumT tn te s L)))
  have hv := sp_l05Ok_eq tn te s L h
  cases hb : sumB tn te s L with
  | false =>
    rw [hb] at hv
    simp -dsimp -implicitDefEqProofs [c_spec_SumText, r_spec_SumText, hv, hb, sumT, noB]
  | true =>
    rw [hb] at hv
    have ht := sp_l05Text_eq tn te s L (sumB_in hb h.1 h.2.2)
    simp -dsimp -implicitDefEqProofs [c_spec_SumText, r_spec_SumText, hv, hb, sumT, ht]
/-! ### the law's own functions -/
noncomputable def sp_toTerm : List AV → Option (AV) := pf (ι := (Int) × (Int) × (Int) × (Int) × (Int)) (α := AV) (fun ⟨k, n, e, p, q⟩ => True) (fun ⟨k, n, e, p, q⟩ => [.agg [.int .i64 k, .int .i64 n, .int .u32 e, .int .i64 p, .int .i64 q]]) (fun ⟨k, n, e, p, q⟩ => .agg [.int .i64 k, .int .i64 n, .int .u32 e, .int .i64 p, .int .i64 q])
theorem sp_toTerm_eq (k n e p q : Int) : sp_toTerm [.agg [.int .i64 k, .int .i64 n, .int .u32 e, .int .i64 p, .int .i64 q]] = some (.agg [.int .i64 k, .int .i64 n, .int .u32 e, .int .i64 p, .int .i64 q]) := by
  unfold sp_toTerm
  exact pf_eq (ι := (Int) × (Int) × (Int) × (Int) × (Int)) (α := AV) (k, n, e, p, q) trivial (by rintro ⟨k', n', e', p', q'⟩ _ e; simp_all [Int.natCast_inj])
attribute [simp] sp_toTerm_eq
theorem q_laws_toTerm : QP PP 100 sp_toTerm := by
  refine QP_pf (fun i h => ?_) fun i h => ?_
  · obtain ⟨k, n, e, p, q⟩ := i; exact ⟨by first | rfl | simp, by first | rfl | simp⟩
  obtain ⟨k, n, e, p, q⟩ := i
  replace h : True := h
  refine P_code (Quiet.q1 q_laws_toFlag (Quiet.q1 q_laws_toFraction Quiet.nil)) hmix k_laws_toTerm rfl ?_ ?_
  · first | rfl | simp
  show wpc 0 PP _ c_laws_toTerm (initSt [.agg [.int .i64 k, .int .i64 n, .int .u32 e, .int .i64 p, .int .i64 q]] .nil) (endP r_laws_toTerm (.agg [.int .i64 k, .int .i64 n, .int .u32 e, .int .i64 p, .int .i64 q]))
  simp -dsimp -implicitDefEqProofs [c_laws_toTerm, r_laws_toTerm]
theorem tmsA_cells (l : List Tm) : ∀ x ∈ tmsA l, x.cells.length = 5 ∧ ltL 0 x.cells = true := by
  intro x hx
  obtain ⟨p, _, rfl⟩ := List.mem_map.1 hx
  exact ⟨rfl, rfl⟩
noncomputable def sp_szTermS : List AV → Option (AV) := pf (ι := (List Tm) × (Int)) (α := AV) (fun ⟨l, n⟩ => 0 ≤ n ∧ n ≤ 1048576 ∧ l.length ≤ maxLen) (fun ⟨l, n⟩ => [.sl (tmsA l) false, .int .i64 n]) (fun ⟨l, n⟩ => .int .i64 (if (l.length : Int) ≤ n then n - l.length else -1))
theorem sp_szTermS_eq (l : List Tm) (n : Int) (h : 0 ≤ n ∧ n ≤ 1048576 ∧ l.length ≤ maxLen) : sp_szTermS [.sl (tmsA l) false, .int .i64 n] = some (.int .i64 (if (l.length : Int) ≤ n then n - l.length else -1)) := by
  unfold sp_szTermS
  exact pf_eq (ι := (List Tm) × (Int)) (α := AV) (l, n) h (by rintro ⟨l', n'⟩ _ e; simp_all [Int.natCast_inj])
theorem q_laws_szTermS : QP PP 39 sp_szTermS := by
  refine QP_pf (fun i h => ?_) fun i h => ?_
  · obtain ⟨l, n⟩ := i; exact ⟨by first | rfl | simp, by first | rfl | simp⟩
  obtain ⟨l, n⟩ := i
  replace h : 0 ≤ n ∧ n ≤ 1048576 ∧ l.length ≤ maxLen := h
  refine P_code Quiet.nil hmix k_laws_szTermS rfl ?_ ?_
  · first | rfl | simp
  show wpc 0 PP _ c_laws_szTermS (initSt [.sl (tmsA l) false, .int .i64 n] .nil) (endP r_laws_szTermS (.int .i64 (if (l.length : Int) ≤ n then n - l.length else -1)))
  obtain ⟨h0, h1, hl⟩ := h
  have hw : IntKind.i64.wrap (n - l.length) = n - l.length := wrapI64 (by simp only [maxLen] at hl; omega) (by omega)
  simp -dsimp -implicitDefEqProofs [c_laws_szTermS, r_laws_szTermS, hw]
  by_cases hlt : (l.length : Int) ≤ n
  · have h2 : ¬ (n - (l.length : Int) < 0) := by omega
    simp -dsimp -implicitDefEqProofs [hlt, h2]
  · have h2 : n - (l.length : Int) < 0 := by omega
    simp -dsimp -implicitDefEqProofs [hlt, h2]
noncomputable def sp_szFlagSum : List AV → Option (AV) := pf (ι := (Int) × (Int) × (Int) × (List Tm) × (Int)) (α := AV) (fun ⟨tn, te, s, ps, m⟩ => 0 ≤ m ∧ m ≤ 1048576 ∧ ps.length ≤ maxLen) (fun ⟨tn, te, s, ps, m⟩ => [.agg [.int .i64 tn, .int .u32 te, .int .i64 s, .sl (tmsA ps) false], .int .i64 m]) (fun ⟨tn, te, s, ps, m⟩ => .int .i64 (if (ps.length : Int) ≤ m then m - ps.length else -1))
theorem sp_szFlagSum_eq (tn te s : Int) (ps : List Tm) (m : Int) (h : 0 ≤ m ∧ m ≤ 1048576 ∧ ps.length ≤ maxLen) : sp_szFlagSum [.agg [.int .i64 tn, .int .u32 te, .int .i64 s, .sl (tmsA ps) false], .int .i64 m] = some (.int .i64 (if (ps.length : Int) ≤ m then m - ps.length else -1)) := by
  unfold sp_szFlagSum
  exact pf_eq (ι := (Int) × (Int) × (Int) × (List Tm) × (Int)) (α := AV) (tn, te, s, ps, m) h (by rintro ⟨tn', te', s', ps', m'⟩ _ e; simp_all [Int.natCast_inj])
theorem q_laws_szFlagSum : QP PP 7 sp_szFlagSum := by
  refine QP_pf (fun i h => ?_) fun i h => ?_
  · obtain ⟨tn, te, s, ps, m⟩ := i; exact ⟨by first | rfl | simp, by first | rfl | simp⟩
  obtain ⟨tn, te, s, ps, m⟩ := i
  replace h : 0 ≤ m ∧ m ≤ 1048576 ∧ ps.length ≤ maxLen := h
  refine P_code (Quiet.q1 q_laws_szTermS Quiet.nil) hmix k_laws_szFlagSum rfl ?_ ?_
  · first | rfl | simp
  show wpc 0 PP _ c_laws_szFlagSum (initSt [.agg [.int .i64 tn, .int .u32 te, .int .i64 s, .sl (tmsA ps) false], .int .i64 m] .nil) (endP r_laws_szFlagSum (.int .i64 (if (ps.length : Int) ≤ m then m - ps.length else -1)))
  simp -dsimp -implicitDefEqProofs [c_laws_szFlagSum, r_laws_szFlagSum, sp_szTermS_eq ps m h]
  by_cases hlt : (ps.length : Int) ≤ m
  · have h2 : ¬ (m - (ps.length : Int) < 0) := by omega
    simp -dsimp -implicitDefEqProofs [hlt, h2]
  · simp -dsimp -implicitDefEqProofs [hlt]
noncomputable def sp_toTermS : List AV → Option (AV) := pf (ι := (List Tm)) (α := AV) (fun l => l.length ≤ 1048576) (fun l => [.sl (tmsA l) false]) (fun l => .sl (tmsA l) false)
theorem sp_toTermS_eq (l : List Tm) (h : l.length ≤ 1048576) : sp_toTermS [.sl (tmsA l) false] = some (.sl (tmsA l) false) := by
  unfold sp_toTermS
  exact pf_eq (ι := (List Tm)) (α := AV) l h (by rintro l' _ e; simp_all [Int.natCast_inj])
theorem q_laws_toTermS : QP PP 43 sp_toTermS := by
  refine QP_pf (fun l h => ?_) fun l h => ?_
  · exact ⟨by first | rfl | simp, by first | rfl | simp⟩
  replace h : l.length ≤ 1048576 := h
  refine P_code (Quiet.q1 q_laws_toTerm Quiet.nil) hmix k_laws_toTermS rfl ?_ ?_
  · first | rfl | simp
  show wpc 0 PP _ c_laws_toTermS (initSt [.sl (tmsA l) false] .nil) (endP r_laws_toTermS (.sl (tmsA l) false))
  have hm : (l.length : Int) * 41 ≤ (mostBytes : Int) := by simp only [mostBytes]; omega
  simp -dsimp -implicitDefEqProofs [c_laws_toTermS, r_laws_toTermS, hm]
  refine wpLoop_st (fun (i : Nat × List AV) => ⟨tl [(0, .sl (tmsA l) false), (3, .ref 0 5 0 l.length .tight), (4, .int .i64 i.1)], ⟨[some i.2]⟩⟩) (fun i => i.1 ≤ l.length ∧ Filled 5 i.2 (tmsA l) i.1 ∧ ltL 0 i.2 = true) (fun i => l.length - i.1) (0, newCells 5 l.length [.int .i64 0, .int .i64 0, .int .u32 0, .int .i64 0, .int .i64 0])
    ⟨Nat.zero_le _, Filled.zero (by simp [newCells, flat_len]), newCells_lt 5 l.length rfl⟩ (Sub.keep (by simp) (by
      have := newCells_lt (n := 1) 5 l.length (z := [.int .i64 0, .int .i64 0, .int .u32 0, .int .i64 0, .int .i64 0]) rfl
      simp [hsub, renL_id] at this ⊢
      exact this) (by simp)) ?_
  rintro ⟨i, cs⟩ ⟨h1, h2, h3⟩
  simp -dsimp -implicitDefEqProofs
  refine brW_of (fun h => ?_) (fun h => ?_) <;> simp only [decide_eq_true_eq, decide_eq_false_iff_not] at h
  · have hi : i < l.length := by omega
    have hw := wrapNat (i := i) (by omega)
    have hl : cs.length = l.length * 5 := by have := h2.len; rw [mapA_length] at this; exact this
    have hfit : i * 5 + 5 ≤ cs.length := by omega
    simp -dsimp -implicitDefEqProofs [hi, hfit, hw]
    refine .mk (i + 1, setCells cs (i * 5) (tmA l[i]).cells) ⟨by simp only; omega, h2.step (by simp [hi]) rfl, setCells_lt _ _ _ h3 rfl⟩ (by simp only; omega) (Sub.keep (by simp) ?_ (by simp))
    have := setCells_lt (n := 1) _ (i * 5) (tmA l[i]).cells (ltL_mono (Nat.zero_le 1) _ h3) rfl
    simp [hsub, renL_id, setCells] at this ⊢
    exact this
  · have hi : i = l.length := by omega
    subst hi
    simp -dsimp -implicitDefEqProofs
    have h2' : Filled 5 cs (tmsA l) (tmsA l).length := by rw [mapA_length]; exact h2
    have hl : cs.length = l.length * 5 := by have := h2.len; rw [mapA_length] at this; exact this
    refine ⟨_, Shift.tmp (k := 2) (b := 0) (e := 5) (o := 0) (n := l.length) (xs := tmsA l) (t' := false) (t := .tight) (cs := cs) (by simp -dsimp) (by simp -dsimp) (by simp) (by omega) (by simp) (tmsA_cells l) (.inl (by rw [h2'.all (fun x hx => (tmsA_cells l x hx).1) (by omega)]; simp [← hl])), ?_⟩
    simp -dsimp -implicitDefEqProofs
noncomputable def sp_toFlagSum : List AV → Option (AV) := pf (ι := (Int) × (Int) × (Int) × (List Tm)) (α := AV) (fun ⟨tn, te, s, ps⟩ => ps.length ≤ 1048576) (fun ⟨tn, te, s, ps⟩ => [.agg [.int .i64 tn, .int .u32 te, .int .i64 s, .sl (tmsA ps) false]]) (fun ⟨tn, te, s, ps⟩ => .agg [.int .i64 tn, .int .u32 te, .int .i64 s, .sl (tmsA ps) false])
theorem sp_toFlagSum_eq (tn te s : Int) (ps : List Tm) (h : ps.length ≤ 1048576) : sp_toFlagSum [.agg [.int .i64 tn, .int .u32 te, .int .i64 s, .sl (tmsA ps) false]] = some (.agg [.int .i64 tn, .int .u32 te, .int .i64 s, .sl (tmsA ps) false]) := by
  unfold sp_toFlagSum
  exact pf_eq (ι := (Int) × (Int) × (Int) × (List Tm)) (α := AV) (tn, te, s, ps) h (by rintro ⟨tn', te', s', ps'⟩ _ e; simp_all [Int.natCast_inj])
theorem q_laws_toFlagSum : QP PP 9 sp_toFlagSum := by
  refine QP_pf (fun i h => ?_) fun i h => ?_
  · obtain ⟨tn, te, s, ps⟩ := i; exact ⟨by first | rfl | simp, by first | rfl | simp⟩
  obtain ⟨tn, te, s, ps⟩ := i
  replace h : ps.length ≤ 1048576 := h
  refine P_code (Quiet.q1 q_laws_toGraph (Quiet.q1 q_laws_toTermS Quiet.nil)) hmix k_laws_toFlagSum rfl ?_ ?_
  · first | rfl | simp
  show wpc 0 PP _ c_laws_toFlagSum (initSt [.agg [.int .i64 tn, .int .u32 te, .int .i64 s, .sl (tmsA ps) false]] .nil) (endP r_laws_toFlagSum (.agg [.int .i64 tn, .int .u32 te, .int .i64 s, .sl (tmsA ps) false]))
  simp -dsimp -implicitDefEqProofs [c_laws_toFlagSum, r_laws_toFlagSum, sp_toTermS_eq ps h]
noncomputable def sp_eqTerm : List AV → Option (AV) := pf (ι := (Int) × (Int) × (Int) × (Int) × (Int) × (Int) × (Int) × (Int) × (Int) × (Int)) (α := AV) (fun ⟨k, n, e, p, q, k', n', e', p', q'⟩ => True) (fun ⟨k, n, e, p, q, k', n', e', p', q'⟩ => [.agg [.int .i64 k, .int .i64 n, .int .u32 e, .int .i64 p, .int .i64 q], .agg [.int .i64 k', .int .i64 n', .int .u32 e', .int .i64 p', .int .i64 q']]) (fun ⟨k, n, e, p, q, k', n', e', p', q'⟩ => .bool ((k == k' && (n == n' && e == e')) && (p == p' && q == q')))
theorem sp_eqTerm_eq (k n e p q k' n' e' p' q' : Int) : sp_eqTerm [.agg [.int .i64 k, .int .i64 n, .int .u32 e, .int .i64 p, .int .i64 q], .agg [.int .i64 k', .int .i64 n', .int .u32 e', .int .i64 p', .int .i64 q']] = some (.bool ((k == k' && (n == n' && e == e')) && (p == p' && q == q'))) := by
  unfold sp_eqTerm
  exact pf_eq (ι := (Int) × (Int) × (Int) × (Int) × (Int) × (Int) × (Int) × (Int) × (Int) × (Int)) (α := AV) (k, n, e, p, q, k', n', e', p', q') trivial (by rintro ⟨k', n', e', p', q', k'', n'', e'', p'', q''⟩ _ e; simp_all [Int.natCast_inj])
attribute [simp] sp_eqTerm_eq
theorem q_laws_eqTerm : QP PP 107 sp_eqTerm := by
  refine QP_pf (fun i h => ?_) fun i h => ?_
  · obtain ⟨k, n, e, p, q, k', n', e', p', q'⟩ := i; exact ⟨by first | rfl | simp, by first | rfl | simp⟩
  obtain ⟨k, n, e, p, q, k', n', e', p', q'⟩ := i
  replace h : True := h
  refine P_code (Quiet.q1 q_laws_eqFlag (Quiet.q1 q_laws_eqFraction Quiet.nil)) hmix k_laws_eqTerm rfl ?_ ?_
  · first | rfl | simp
  show wpc 0 PP _ c_laws_eqTerm (initSt [.agg [.int .i64 k, .int .i64 n, .int .u32 e, .int .i64 p, .int .i64 q], .agg [.int .i64 k', .int .i64 n', .int .u32 e', .int .i64 p', .int .i64 q']] .nil) (endP r_laws_eqTerm (.bool ((k == k' && (n == n' && e == e')) && (p == p' && q == q'))))
  cases h1 : (k == k' && (n == n' && e == e')) <;> cases h2 : (p == p' && q == q') <;> simp -dsimp -implicitDefEqProofs [c_laws_eqTerm, r_laws_eqTerm, sp_eqFlag_eq, sp_eqFraction_eq, h1, h2]
theorem tm_eqb (x y : Tm) : ((x.k == y.k && (x.n == y.n && x.e == y.e)) && (x.p == y.p && x.q == y.q)) = decide (x = y) := by
  by_cases h : x = y
  · subst h; simp
  · rw [decide_eq_false h, Bool.eq_false_iff]
    intro hh
    simp at hh
    apply h
    cases x; cases y
    simp_all
noncomputable def sp_eqTermS : List AV → Option (AV) := pf (ι := (List Tm) × (List Tm)) (α := AV) (fun ⟨l, k⟩ => l.length ≤ maxLen) (fun ⟨l, k⟩ => [.sl (tmsA l) false, .sl (tmsA k) false]) (fun ⟨l, k⟩ => .bool (decide (l = k)))
theorem sp_eqTermS_eq (l k : List Tm) (h : l.length ≤ maxLen) : sp_eqTermS [.sl (tmsA l) false, .sl (tmsA k) false] = some (.bool (decide (l = k))) := by
  unfold sp_eqTermS
  exact pf_eq (ι := (List Tm) × (List Tm)) (α := AV) (l, k) h (by rintro ⟨l', k'⟩ _ e; simp_all [Int.natCast_inj])
theorem q_laws_eqTermS : QP PP 47 sp_eqTermS := by
  refine QP_pf (fun i h => ?_) fun i h => ?_
  · obtain ⟨l, k⟩ := i; exact ⟨by first | rfl | simp, by first | rfl | simp⟩
  obtain ⟨l, k⟩ := i
  replace h : l.length ≤ maxLen := h
  refine P_code (Quiet.q1 q_laws_eqTerm Quiet.nil) hmix k_laws_eqTermS rfl ?_ ?_
  · first | rfl | simp
  show wpc 0 PP _ c_laws_eqTermS (initSt [.sl (tmsA l) false, .sl (tmsA k) false] .nil) (endP r_laws_eqTermS (.bool (decide (l = k))))
  simp only [maxLen] at h
  by_cases hlen : l.length = k.length
  · simp -dsimp -implicitDefEqProofs [c_laws_eqTermS, r_laws_eqTermS, hlen]
    refine wpLoop_st (fun (i : Nat) => ⟨tl [(0, .sl (tmsA l) false), (1, .sl (tmsA k) false), (5, .int .i64 i)], ⟨[]⟩⟩) (fun i => i ≤ l.length ∧ l.take i = k.take i) (fun i => l.length - i) 0 ⟨Nat.zero_le _, rfl⟩ (Sub.keep (by simp) (by simp [hsub]) (by simp)) ?_
    rintro i ⟨h1, h2⟩
    simp -dsimp -implicitDefEqProofs
    refine brW_of (fun h => ?_) (fun h => ?_) <;> simp only [decide_eq_true_eq, decide_eq_false_iff_not] at h
    · have hi : i < l.length := by omega
      have hj : i < k.length := by omega
      have hw := wrapNat (i := i) (by omega)
      have hq := sp_eqTerm_eq l[i].k l[i].n l[i].e l[i].p l[i].q k[i].k k[i].n k[i].e k[i].p k[i].q
      rw [tm_eqb] at hq
      by_cases he : l[i] = k[i]
      · rw [decide_eq_true he] at hq
        simp -dsimp -implicitDefEqProofs [hi, hj, hw, hq]
        exact .mk (i + 1) ⟨by omega, by rw [take_snoc l i hi, take_snoc k i hj, h2, he]⟩ (by omega) (Sub.keep (by simp) (by simp [hsub]) (by simp [hw]))
      · have hne : ¬ l = k := fun e => he (by subst e; rfl)
        rw [decide_eq_false he] at hq
        simp -dsimp -implicitDefEqProofs [hi, hj, hw, hne, hq]
    · have hi : i = l.length := by omega
      have he : l = k := by
        rw [hi, List.take_length, hlen, List.take_length] at h2
        exact h2
      simp -dsimp -implicitDefEqProofs [he]
  · have hne : ¬ l = k := fun e => hlen (by rw [e])
    have hln : ((l.length : Int) != (k.length : Int)) = true := by simp; omega
    simp -dsimp -implicitDefEqProofs [c_laws_eqTermS, r_laws_eqTermS, hln, hne]
noncomputable def sp_eqFlagSum : List AV → Option (AV) := pf (ι := (Int) × (Int) × (Int) × (List Tm) × (Int) × (Int) × (Int) × (List Tm)) (α := AV) (fun ⟨n, e, l, ps, n', e', l', ps'⟩ => ps.length ≤ maxLen) (fun ⟨n, e, l, ps, n', e', l', ps'⟩ => [.agg [.int .i64 n, .int .u32 e, .int .i64 l, .sl (tmsA ps) false], .agg [.int .i64 n', .int .u32 e', .int .i64 l', .sl (tmsA ps') false]]) (fun ⟨n, e, l, ps, n', e', l', ps'⟩ => .bool ((n == n' && e == e') && (l == l') && decide (ps = ps')))
theorem sp_eqFlagSum_eq (n e l : Int) (ps : List Tm) (n' e' l' : Int) (ps' : List Tm) (h : ps.length ≤ maxLen) : sp_eqFlagSum [.agg [.int .i64 n, .int .u32 e, .int .i64 l, .sl (tmsA ps) false], .agg [.int .i64 n', .int .u32 e', .int .i64 l', .sl (tmsA ps') false]] = some (.bool ((n == n' && e == e') && (l == l') && decide (ps = ps'))) := by
  unfold sp_eqFlagSum
  exact pf_eq (ι := (Int) × (Int) × (Int) × (List Tm) × (Int) × (Int) × (Int) × (List Tm)) (α := AV) (n, e, l, ps, n', e', l', ps') h (by rintro ⟨n', e', l', ps', n'', e'', l'', ps''⟩ _ e; simp_all [Int.natCast_inj])
theorem q_laws_eqFlagSum : QP PP 11 sp_eqFlagSum := by
  refine QP_pf (fun i h => ?_) fun i h => ?_
  · obtain ⟨n, e, l, ps, n', e', l', ps'⟩ := i; exact ⟨by first | rfl | simp, by first | rfl | simp⟩
  obtain ⟨n, e, l, ps, n', e', l', ps'⟩ := i
  replace h : ps.length ≤ maxLen := h
  refine P_code (Quiet.q1 q_laws_eqGraph (Quiet.q1 q_laws_eqTermS Quiet.nil)) hmix k_laws_eqFlagSum rfl ?_ ?_
  · first | rfl | simp
  show wpc 0 PP _ c_laws_eqFlagSum (initSt [.agg [.int .i64 n, .int .u32 e, .int .i64 l, .sl (tmsA ps) false], .agg [.int .i64 n', .int .u32 e', .int .i64 l', .sl (tmsA ps') false]] .nil) (endP r_laws_eqFlagSum (.bool ((n == n' && e == e') && (l == l') && decide (ps = ps'))))
  by_cases h4 : ps = ps'
  · subst h4
    simp -dsimp -implicitDefEqProofs [c_laws_eqFlagSum, r_laws_eqFlagSum, sp_eqTermS_eq ps ps h]
    cases h1 : n == n' <;> cases h2 : e == e' <;> cases h3 : l == l' <;> simp -dsimp -implicitDefEqProofs [h1, h2, h3, bne, sp_eqTermS_eq ps ps h]
  · simp -dsimp -implicitDefEqProofs [c_laws_eqFlagSum, r_laws_eqFlagSum, sp_eqTermS_eq ps ps' h]
    cases h1 : n == n' <;> cases h2 : e == e' <;> cases h3 : l == l' <;> simp -dsimp -implicitDefEqProofs [h1, h2, h3, h4, bne, sp_eqTermS_eq ps ps' h]
abbrev tyTm : Ty := .st [.st [.int .i64, .st [.int .i64, .int .u32]], .st [.int .i64, .int .i64]]
theorem wt_tm (y : AV) (h : WtV tyTm y) : ∃ x : Tm, y = tmA x ∧ 0 ≤ x.e ∧ x.e ≤ 4294967295 := by
  simp only [tyTm, WtV_st, WtL_st, WtL_int, WtL_nil] at h
  obtain ⟨_, rfl, _, _, rfl, ⟨k, _, rfl, _, _, _, rfl, ⟨n, _, rfl, _, e, _, rfl, he, rfl⟩, rfl⟩, _, _, rfl, ⟨p, _, rfl, _, q, _, rfl, _, rfl⟩, rfl⟩ := h
  exact ⟨⟨k, n, e, p, q⟩, rfl, by simpa [IntKind.min, IntKind.signed] using he.1, by simpa [IntKind.max, IntKind.signed, IntKind.bits] using he.2⟩
abbrev tyFlagSum : Ty := .st [.st [.int .i64, .int .u32], .int .i64, .sl tyTm]
theorem wt_tms {α : Type} {f : α → AV} {P : α → Prop} {t : Ty} (hf : ∀ y, WtV t y → ∃ x, y = f x ∧ P x) : ∀ {xs : List AV}, (∀ y ∈ xs, WtV t y) → ∃ l, xs = mapA f l ∧ ∀ x ∈ l, P x
  | [], _ => ⟨[], rfl, fun x hx => (by cases hx)⟩
  | x :: xs, h => by
    obtain ⟨l, hl, hp⟩ := wt_tms hf fun y hy => h y (List.mem_cons_of_mem _ hy)
    obtain ⟨z, hz, hq⟩ := hf x (h x (List.mem_cons_self ..))
    refine ⟨z :: l, by rw [hz, hl]; rfl, fun y hy => ?_⟩
    rcases List.mem_cons.1 hy with rfl | hy
    · exact hq
    · exact hp y hy
theorem wt_sum {x : AV} (h : WtV tyFlagSum x) : ∃ n e s ps, x = .agg [.int .i64 n, .int .u32 e, .int .i64 s, .sl (tmsA ps) false] ∧ ((0 ≤ e ∧ e ≤ 4294967295) ∧ ps.length ≤ maxLen ∧ u32L ps) := by
  rw [tyFlagSum, WtV_st] at h
  simp only [WtL_st, WtL_int, WtL_sl, WtL_nil] at h
  obtain ⟨_, rfl, _, _, rfl, ⟨n, _, rfl, _, e, _, rfl, he, rfl⟩, s, _, rfl, hs, xs, _, rfl, ⟨hlen, hx⟩, rfl⟩ := h
  obtain ⟨ps, rfl, hp⟩ := wt_tms (t := tyTm) wt_tm (by simpa only [tyTm, WtV_st, WtL_st, WtL_int, WtL_nil] using hx)
  exact ⟨n, e, s, ps, rfl, ⟨by simpa [IntKind.min, IntKind.signed] using he.1, by simpa [IntKind.max, IntKind.signed, IntKind.bits] using he.2⟩, by simpa using hlen, hp⟩
set_option maxHeartbeats 1000000 in
theorem law_sumText (xs : List AV) (h : WtA [tyFlagSum] xs) : T PP 3 xs .nil fun r _ => r = .bool true := by
  simp only [WtA_cons, WtA_nil] at h
  obtain ⟨x, _, rfl, hx, rfl⟩ := h
  obtain ⟨n, e, s, ps, rfl, h⟩ := wt_sum hx
  refine (P_code (r := .bool true) (Quiet.q1 q_laws_szFlagSum (Quiet.q1 q_laws_toFlagSum (Quiet.q1 q_spec_SumText (Quiet.q1 q_impl_SumText (Quiet.q1 q_laws_eqFlagSum Quiet.nil))))) hmix k_laws_FnExactSumText rfl rfl ?_).mono fun r A' h => h.1
  by_cases c : (ps.length : Int) ≤ 1048576
  · have c2 : ¬ ((1048576 : Int) - ps.length < 0) := by omega
    simp -dsimp -implicitDefEqProofs [c_laws_FnExactSumText, r_laws_FnExactSumText, sp_szFlagSum_eq n e s ps 1048576 ⟨by omega, by omega, h.2.1⟩, c, c2, sp_toFlagSum_eq n e s ps (by omega), sp_sumText_eq n e s ps h, sp_eqFlagSum_eq n e s ps n e s ps h.2.1, bne_ba]
  · simp -dsimp -implicitDefEqProofs [c_laws_FnExactSumText, r_laws_FnExactSumText, sp_szFlagSum_eq n e s ps 1048576 ⟨by omega, by omega, h.2.1⟩, c]
end Go.Proofs.YtgophedkejgedaaDoorAi
end
