/- Contracts, joined. -/
import Derived.Test.YtgophedkejgedaaGreatDoorMss3
import Derived.Test.YtgophedkejgedaaGreatDoorAiX
import Derived.Test.YtgophedkejgedaaGreatDoorProg
section
/- MADE BY PROGRAM (wip/tools/gen.py): the abstract code of functions. -/
namespace Go.Proofs.YtgophedkejgedaaGreatDoorAi
open Go AC AOp Opd
set_option linter.unusedVariables false
set_option maxRecDepth 100000
def c_laws_eqFlag : AC := seq (reg [⟨(some 2), box 3 (t 0), none⟩, ⟨(some 3), box 3 (t 1), none⟩, ⟨(some 4), mv (c (.bool false)), none⟩]) (seq (seq (reg [⟨(some 5), fad (t 2) 0, none⟩, ⟨(some 6), ld (t 5) 1 false, none⟩, ⟨(some 7), fad (t 3) 0, none⟩, ⟨(some 8), ld (t 7) 1 false, none⟩, ⟨(some 9), bin .neq (t 6) (t 8), none⟩]) (cond (t 9) (seq (reg [⟨(some 4), mv (c (.bool false)), none⟩]) (ret)) (skip))) (seq (seq (reg [⟨(some 10), fad (t 2) 1, none⟩, ⟨(some 11), ld (t 10) 2 true, none⟩, ⟨(some 12), fad (t 3) 1, none⟩, ⟨(some 13), ld (t 12) 2 true, none⟩, ⟨(some 14), callq (c (.fn 59 [])) [t 11, t 13], none⟩, ⟨(some 15), un .not (t 14), none⟩]) (cond (t 15) (seq (reg [⟨(some 4), mv (c (.bool false)), none⟩]) (ret)) (skip))) (seq (reg [⟨(some 4), mv (c (.bool true)), none⟩]) (ret))))
def r_laws_eqFlag : List ARes := [.tmp 4]
theorem k_laws_eqFlag : acLin Go.Proofs.Tryz.prog 152 2 (inQ [59] []) [] = some (c_laws_eqFlag, r_laws_eqFlag) := by kernel_rfl
end Go.Proofs.YtgophedkejgedaaGreatDoorAi
end

section
/- Contracts: equality of flags. -/
namespace Go.Proofs.YtgophedkejgedaaGreatDoorAi
open Go Go.RowKit
set_option linter.unusedVariables false
set_option linter.unusedSimpArgs false
set_option maxRecDepth 20000

noncomputable def sp_eqFlag : List AV → Option (AV) := pf (ι := (Int) × (Int) × (Int) × (Int) × (Int) × (Int)) (α := AV) (fun ⟨k, n, e, k', n', e'⟩ => True) (fun ⟨k, n, e, k', n', e'⟩ => [.agg [.int .i64 k, .int .i64 n, .int .u32 e], .agg [.int .i64 k', .int .i64 n', .int .u32 e']]) (fun ⟨k, n, e, k', n', e'⟩ => .bool (k == k' && (n == n' && e == e')))
theorem sp_eqFlag_eq (k n e k' n' e' : Int) : sp_eqFlag [.agg [.int .i64 k, .int .i64 n, .int .u32 e], .agg [.int .i64 k', .int .i64 n', .int .u32 e']] = some (.bool (k == k' && (n == n' && e == e'))) := by
  unfold sp_eqFlag
  exact pf_eq (ι := (Int) × (Int) × (Int) × (Int) × (Int) × (Int)) (α := AV) (k, n, e, k', n', e') trivial (by rintro ⟨k', n', e', k'', n'', e''⟩ _ e; simp_all [Int.natCast_inj])
attribute [simp] sp_eqFlag_eq
theorem q_laws_eqFlag : QP PP 152 sp_eqFlag := by
  refine QP_pf (fun i h => ?_) fun i h => ?_
  · obtain ⟨k, n, e, k', n', e'⟩ := i; exact ⟨by first | rfl | simp, by first | rfl | simp⟩
  obtain ⟨k, n, e, k', n', e'⟩ := i
  replace h : True := h
  refine P_code (Quiet.q1 q_laws_eqGraph Quiet.nil) hmix k_laws_eqFlag rfl ?_ ?_
  · first | rfl | simp
  show wpc 0 PP _ c_laws_eqFlag (initSt [.agg [.int .i64 k, .int .i64 n, .int .u32 e], .agg [.int .i64 k', .int .i64 n', .int .u32 e']] .nil) (endP r_laws_eqFlag (.bool (k == k' && (n == n' && e == e'))))
  cases h1 : (k == k') <;> cases h2 : (n == n') <;> cases h3 : (e == e')
  all_goals
    have h1' : (k != k') = !(k == k') := rfl
    rw [h1] at h1'
    simp -dsimp -implicitDefEqProofs [c_laws_eqFlag, r_laws_eqFlag, h1, h1', h2, h3]
end Go.Proofs.YtgophedkejgedaaGreatDoorAi
end

section
/- Contracts and law: SumText. -/
namespace Go.Proofs.YtgophedkejgedaaGreatDoorAi
open Go Go.RowKit
set_option linter.unusedVariables false
set_option linter.unusedSimpArgs false
set_option maxRecDepth 20000

noncomputable def sp_l05Text : List AV → List AV → Option (AV × List AV) := pm (pf (ι := (Int) × (Int) × (Int) × (List Tm)) (α := AV × List AV) (fun ⟨tn, te, s, L⟩ => sumInH tn te s L) (fun i => .agg ((fun ⟨tn, te, s, L⟩ => [.int .i64 tn, .int .u32 te, .int .i64 s, .sl (tmsA L) false] : (Int) × (Int) × (Int) × (List Tm) → List AV) i) :: (fun ⟨tn, te, s, L⟩ => [] : (Int) × (Int) × (Int) × (List Tm) → List AV) i) (fun ⟨tn, te, s, L⟩ => (.str (sumX tn te s L), [.int .i64 tn, .int .u32 te, .int .i64 s, .sl (tmsA L) false])))
theorem sp_l05Text_eq (tn te s : Int) (L : List Tm) (h : sumInH tn te s L) : sp_l05Text [.int .i64 tn, .int .u32 te, .int .i64 s, .sl (tmsA L) false] [] = some (.str (sumX tn te s L), [.int .i64 tn, .int .u32 te, .int .i64 s, .sl (tmsA L) false]) := by
  unfold sp_l05Text pm
  exact pf_eq (ι := (Int) × (Int) × (Int) × (List Tm)) (α := AV × List AV) (tn, te, s, L) h (by rintro ⟨tn', te', s', L'⟩ _ e; simp_all [Int.natCast_inj])
set_option maxHeartbeats 1000000 in
theorem m_spec_l05Text : QM PP 49 sp_l05Text := by
  refine QM_pf (fun i h => ?_) fun i h => ?_
  · obtain ⟨tn, te, s, L⟩ := i; exact ⟨⟨by first | rfl | simp, by first | rfl | simp⟩, by first | rfl | simp, by first | rfl | simp⟩
  obtain ⟨tn, te, s, L⟩ := i
  replace h : sumInH tn te s L := h
  refine H_code (Quiet.q1 q_spec_Decimal (Quiet.q1 q_spec_GraphText (Quiet.q1 q_spec_FractionText Quiet.nil))) hmix k_spec_l05Text rfl (fun b => b) (Nat.le_refl _) (fun _ _ => rfl) rfl (by first | rfl | simp) ?_
  show wpc 1 PP _ c_spec_l05Text (initSt [.ptr 0 0] ⟨[some [.int .i64 tn, .int .u32 te, .int .i64 s, .sl (tmsA L) false]]⟩) (endH (fun b => b) r_spec_l05Text (.str (sumX tn te s L)) [some [.int .i64 tn, .int .u32 te, .int .i64 s, .sl (tmsA L) false]])
  obtain ⟨⟨hte, hg⟩, hs, hl, hr⟩ := h
  have htn := graphOk_in hg
  have hd := sp_decS_eq s (by omega)
  have ht := sp_graphText_eq tn te hte
  have hgt : graphT tn te = grT te tn.toNat := by unfold graphT; rw [if_pos hg]
  rw [hgt] at ht
  have s0 := decB_size s (by omega) (by omega)
  have s1 := grT_size (e := te) (n := tn.toNat) (by omega)
  have z1 : 4 + (decB s).size ≤ 9223372036854775807 := by omega
  have z2 : 4 + (decB s).size + 1 ≤ 9223372036854775807 := by omega
  have z3 : 4 + (decB s).size + 1 + (grT te tn.toNat).size ≤ 9223372036854775807 := by omega
  have z4 : 4 + (decB s).size + 1 + (grT te tn.toNat).size + 1 ≤ 9223372036854775807 := by omega
  have hst := sumX_start (te := te) htn hs
  unfold sumX
  simp -dsimp -implicitDefEqProofs [c_spec_l05Text, r_spec_l05Text, hd, ht, z1, z2, z3, z4]
  refine wpLoop_st (fun (i : Nat) => ⟨tl [(0, .ptr 0 0), (3, .str (tmsW (sumWB ++ decB s ++ sepB ++ grT te tn.toNat ++ lineB) (L.take i))), (4, .int .i64 i)], ⟨[some [.int .i64 tn, .int .u32 te, .int .i64 s, .sl (tmsA L) false]]⟩⟩) (fun i => i ≤ L.length) (fun i => L.length - i) 0 (by omega) (Sub.keep (by simp) (by simp [hsub]) (by simp [tmsW, sumWB, sepB, lineB])) ?_
  intro i hi
  simp -dsimp -implicitDefEqProofs
  refine brW_of (fun h => ?_) (fun h => ?_) <;> simp only [decide_eq_true_eq, decide_eq_false_iff_not] at h
  · have hx : i < L.length := by omega
    have hwi := wrapNat (i := i) (by omega)
    have hri := hr L[i] (List.getElem_mem hx)
    have hf := sp_fracText_eq L[i].p L[i].q
    have hft : fracT L[i].p L[i].q = frT L[i].p L[i].q := by unfold fracT; rw [if_pos hri.1]
    rw [hft] at hf
    have hgx := sp_graphText_eq L[i].n L[i].e hri.2.2
    have hgx2 : graphT L[i].n L[i].e = grT L[i].e L[i].n.toNat := by unfold graphT; rw [if_pos hri.2.1]
    rw [hgx2] at hgx
    have hsn := tmsW_snoc (sumWB ++ decB s ++ sepB ++ grT te tn.toNat ++ lineB) L i hx
    have s2 := tmsW_size (L.take i) (fun r hr' => hr r (List.mem_of_mem_take hr')) (sumWB ++ decB s ++ sepB ++ grT te tn.toNat ++ lineB)
    have s3 : (L.take i).length ≤ 64 := by rw [List.length_take]; omega
    have s4 := tmT_size hri
    generalize sumWB ++ decB s ++ sepB ++ grT te tn.toNat ++ lineB = W0 at *
    unfold tmT at hsn s4
    have e1 : sepB.size = 1 := rfl
    have e2 : lineB.size = 1 := rfl
    simp only [ByteArray.size_append] at s4
    generalize tmsW W0 (L.take i) = W at *
    generalize frT L[i].p L[i].q = F at *
    generalize grT L[i].e L[i].n.toNat = G at *
    have y1 : F.size + 1 ≤ 9223372036854775807 := by omega
    have y2 : F.size + 1 + G.size ≤ 9223372036854775807 := by omega
    have y3 : F.size + 1 + G.size + 1 ≤ 9223372036854775807 := by omega
    have y4 : W.size + (F.size + 1 + G.size + 1) ≤ 9223372036854775807 := by omega
    simp -dsimp -implicitDefEqProofs [hx, hwi, hf, hft, hgx, y1, y2, y3, y4]
    exact .mk (i + 1) (by omega) (by omega) (Sub.keep (by simp) (by simp [hsub]) (by simp [hsn, sepB, lineB, hwi]))
  · obtain rfl : i = L.length := by omega
    simp -dsimp -implicitDefEqProofs [hsub]
/-! ### the law's own functions -/
noncomputable def sp_toTerm : List AV → Option (AV) := pf (ι := (Int) × (Int) × (Int) × (Int) × (Int)) (α := AV) (fun ⟨k, n, e, p, q⟩ => True) (fun ⟨k, n, e, p, q⟩ => [.agg [.int .i64 k, .int .i64 n, .int .u32 e, .int .i64 p, .int .i64 q]]) (fun ⟨k, n, e, p, q⟩ => .agg [.int .i64 k, .int .i64 n, .int .u32 e, .int .i64 p, .int .i64 q])
theorem sp_toTerm_eq (k n e p q : Int) : sp_toTerm [.agg [.int .i64 k, .int .i64 n, .int .u32 e, .int .i64 p, .int .i64 q]] = some (.agg [.int .i64 k, .int .i64 n, .int .u32 e, .int .i64 p, .int .i64 q]) := by
  unfold sp_toTerm
  exact pf_eq (ι := (Int) × (Int) × (Int) × (Int) × (Int)) (α := AV) (k, n, e, p, q) trivial (by rintro ⟨k', n', e', p', q'⟩ _ e; simp_all [Int.natCast_inj])
attribute [simp] sp_toTerm_eq
theorem q_laws_toTerm : QP PP 115 sp_toTerm := by
  refine QP_pf (fun i h => ?_) fun i h => ?_
  · obtain ⟨k, n, e, p, q⟩ := i; exact ⟨by first | rfl | simp, by first | rfl | simp⟩
  obtain ⟨k, n, e, p, q⟩ := i
  replace h : True := h
  refine P_code (Quiet.q1 q_laws_toFlag (Quiet.q1 q_laws_toFraction Quiet.nil)) hmix k_laws_toTerm rfl ?_ ?_
  · first | rfl | simp
  show wpc 0 PP _ c_laws_toTerm (initSt [.agg [.int .i64 k, .int .i64 n, .int .u32 e, .int .i64 p, .int .i64 q]] .nil) (endP r_laws_toTerm (.agg [.int .i64 k, .int .i64 n, .int .u32 e, .int .i64 p, .int .i64 q]))
  simp -dsimp -implicitDefEqProofs [c_laws_toTerm, r_laws_toTerm]
theorem tmsA_cells (l : List Tm) : ∀ x ∈ tmsA l, x.cells.length = 5 ∧ ltL 0 x.cells = true := by
  intro x hx
  obtain ⟨p, _, rfl⟩ := List.mem_map.1 hx
  exact ⟨rfl, rfl⟩
noncomputable def sp_szTermS : List AV → Option (AV) := pf (ι := (List Tm) × (Int)) (α := AV) (fun ⟨l, n⟩ => 0 ≤ n ∧ n ≤ 1048576 ∧ l.length ≤ maxLen) (fun ⟨l, n⟩ => [.sl (tmsA l) false, .int .i64 n]) (fun ⟨l, n⟩ => .int .i64 (if (l.length : Int) ≤ n then n - l.length else -1))
theorem sp_szTermS_eq (l : List Tm) (n : Int) (h : 0 ≤ n ∧ n ≤ 1048576 ∧ l.length ≤ maxLen) : sp_szTermS [.sl (tmsA l) false, .int .i64 n] = some (.int .i64 (if (l.length : Int) ≤ n then n - l.length else -1)) := by
  unfold sp_szTermS
  exact pf_eq (ι := (List Tm) × (Int)) (α := AV) (l, n) h (by rintro ⟨l', n'⟩ _ e; simp_all [Int.natCast_inj])
theorem q_laws_szTermS : QP PP 63 sp_szTermS := by
  refine QP_pf (fun i h => ?_) fun i h => ?_
  · obtain ⟨l, n⟩ := i; exact ⟨by first | rfl | simp, by first | rfl | simp⟩
  obtain ⟨l, n⟩ := i
  replace h : 0 ≤ n ∧ n ≤ 1048576 ∧ l.length ≤ maxLen := h
  refine P_code Quiet.nil hmix k_laws_szTermS rfl ?_ ?_
  · first | rfl | simp
  show wpc 0 PP _ c_laws_szTermS (initSt [.sl (tmsA l) false, .int .i64 n] .nil) (endP r_laws_szTermS (.int .i64 (if (l.length : Int) ≤ n then n - l.length else -1)))
  obtain ⟨h0, h1, hl⟩ := h
  have hw : IntKind.i64.wrap (n - l.length) = n - l.length := wrapI64 (by simp only [maxLen] at hl; omega) (by omega)
  simp -dsimp -implicitDefEqProofs [c_laws_szTermS, r_laws_szTermS, hw]
  by_cases hlt : (l.length : Int) ≤ n
  · have h2 : ¬ (n - (l.length : Int) < 0) := by omega
    simp -dsimp -implicitDefEqProofs [hlt, h2]
  · have h2 : n - (l.length : Int) < 0 := by omega
    simp -dsimp -implicitDefEqProofs [hlt, h2]
noncomputable def sp_szFlagSum : List AV → Option (AV) := pf (ι := (Int) × (Int) × (Int) × (List Tm) × (Int)) (α := AV) (fun ⟨tn, te, s, ps, m⟩ => 0 ≤ m ∧ m ≤ 1048576 ∧ ps.length ≤ maxLen) (fun ⟨tn, te, s, ps, m⟩ => [.agg [.int .i64 tn, .int .u32 te, .int .i64 s, .sl (tmsA ps) false], .int .i64 m]) (fun ⟨tn, te, s, ps, m⟩ => .int .i64 (if (ps.length : Int) ≤ m then m - ps.length else -1))
theorem sp_szFlagSum_eq (tn te s : Int) (ps : List Tm) (m : Int) (h : 0 ≤ m ∧ m ≤ 1048576 ∧ ps.length ≤ maxLen) : sp_szFlagSum [.agg [.int .i64 tn, .int .u32 te, .int .i64 s, .sl (tmsA ps) false], .int .i64 m] = some (.int .i64 (if (ps.length : Int) ≤ m then m - ps.length else -1)) := by
  unfold sp_szFlagSum
  exact pf_eq (ι := (Int) × (Int) × (Int) × (List Tm) × (Int)) (α := AV) (tn, te, s, ps, m) h (by rintro ⟨tn', te', s', ps', m'⟩ _ e; simp_all [Int.natCast_inj])
theorem q_laws_szFlagSum : QP PP 22 sp_szFlagSum := by
  refine QP_pf (fun i h => ?_) fun i h => ?_
  · obtain ⟨tn, te, s, ps, m⟩ := i; exact ⟨by first | rfl | simp, by first | rfl | simp⟩
  obtain ⟨tn, te, s, ps, m⟩ := i
  replace h : 0 ≤ m ∧ m ≤ 1048576 ∧ ps.length ≤ maxLen := h
  refine P_code (Quiet.q1 q_laws_szTermS Quiet.nil) hmix k_laws_szFlagSum rfl ?_ ?_
  · first | rfl | simp
  show wpc 0 PP _ c_laws_szFlagSum (initSt [.agg [.int .i64 tn, .int .u32 te, .int .i64 s, .sl (tmsA ps) false], .int .i64 m] .nil) (endP r_laws_szFlagSum (.int .i64 (if (ps.length : Int) ≤ m then m - ps.length else -1)))
  simp -dsimp -implicitDefEqProofs [c_laws_szFlagSum, r_laws_szFlagSum, sp_szTermS_eq ps m h]
  by_cases hlt : (ps.length : Int) ≤ m
  · have h2 : ¬ (m - (ps.length : Int) < 0) := by omega
    simp -dsimp -implicitDefEqProofs [hlt, h2]
  · simp -dsimp -implicitDefEqProofs [hlt]
noncomputable def sp_toTermS : List AV → Option (AV) := pf (ι := (List Tm)) (α := AV) (fun l => l.length ≤ 1048576) (fun l => [.sl (tmsA l) false]) (fun l => .sl (tmsA l) false)
theorem sp_toTermS_eq (l : List Tm) (h : l.length ≤ 1048576) : sp_toTermS [.sl (tmsA l) false] = some (.sl (tmsA l) false) := by
  unfold sp_toTermS
  exact pf_eq (ι := (List Tm)) (α := AV) l h (by rintro l' _ e; simp_all [Int.natCast_inj])
theorem q_laws_toTermS : QP PP 69 sp_toTermS := by
  refine QP_pf (fun l h => ?_) fun l h => ?_
  · exact ⟨by first | rfl | simp, by first | rfl | simp⟩
  replace h : l.length ≤ 1048576 := h
  refine P_code (Quiet.q1 q_laws_toTerm Quiet.nil) hmix k_laws_toTermS rfl ?_ ?_
  · first | rfl | simp
  show wpc 0 PP _ c_laws_toTermS (initSt [.sl (tmsA l) false] .nil) (endP r_laws_toTermS (.sl (tmsA l) false))
  have hm : (l.length : Int) * 41 ≤ (mostBytes : Int) := by simp only [mostBytes]; omega
  simp -dsimp -implicitDefEqProofs [c_laws_toTermS, r_laws_toTermS, hm]
  refine wpLoop_st (fun (i : Nat × List AV) => ⟨tl [(0, .sl (tmsA l) false), (3, .ref 0 5 0 l.length .tight), (4, .int .i64 i.1)], ⟨[some i.2]⟩⟩) (fun i => i.1 ≤ l.length ∧ Filled 5 i.2 (tmsA l) i.1 ∧ ltL 0 i.2 = true) (fun i => l.length - i.1) (0, newCells 5 l.length [.int .i64 0, .int .i64 0, .int .u32 0, .int .i64 0, .int .i64 0])
    ⟨Nat.zero_le _, Filled.zero (by simp [newCells, flat_len]), newCells_lt 5 l.length rfl⟩ (Sub.keep (by simp) (by
      have := newCells_lt (n := 1) 5 l.length (z := [.int .i64 0, .int .i64 0, .int .u32 0, .int .i64 0, .int .i64 0]) rfl
      simp [hsub, renL_id] at this ⊢
      exact this) (by simp)) ?_
  rintro ⟨i, cs⟩ ⟨h1, h2, h3⟩
  simp -dsimp -implicitDefEqProofs
  refine brW_of (fun h => ?_) (fun h => ?_) <;> simp only [decide_eq_true_eq, decide_eq_false_iff_not] at h
  · have hi : i < l.length := by omega
    have hw := wrapNat (i := i) (by omega)
    have hl : cs.length = l.length * 5 := by have := h2.len; rw [mapA_length] at this; exact this
    have hfit : i * 5 + 5 ≤ cs.length := by omega
    simp -dsimp -implicitDefEqProofs [hi, hfit, hw]
    refine .mk (i + 1, setCells cs (i * 5) (tmA l[i]).cells) ⟨by simp only; omega, h2.step (by simp [hi]) rfl, setCells_lt _ _ _ h3 rfl⟩ (by simp only; omega) (Sub.keep (by simp) ?_ (by simp))
    have := setCells_lt (n := 1) _ (i * 5) (tmA l[i]).cells (ltL_mono (Nat.zero_le 1) _ h3) rfl
    simp [hsub, renL_id, setCells] at this ⊢
    exact this
  · have hi : i = l.length := by omega
    subst hi
    simp -dsimp -implicitDefEqProofs
    have h2' : Filled 5 cs (tmsA l) (tmsA l).length := by rw [mapA_length]; exact h2
    have hl : cs.length = l.length * 5 := by have := h2.len; rw [mapA_length] at this; exact this
    refine ⟨_, Shift.tmp (k := 2) (b := 0) (e := 5) (o := 0) (n := l.length) (xs := tmsA l) (t' := false) (t := .tight) (cs := cs) (by simp -dsimp) (by simp -dsimp) (by simp) (by omega) (by simp) (tmsA_cells l) (.inl (by rw [h2'.all (fun x hx => (tmsA_cells l x hx).1) (by omega)]; simp [← hl])), ?_⟩
    simp -dsimp -implicitDefEqProofs
noncomputable def sp_toFlagSum : List AV → Option (AV) := pf (ι := (Int) × (Int) × (Int) × (List Tm)) (α := AV) (fun ⟨tn, te, s, ps⟩ => ps.length ≤ 1048576) (fun ⟨tn, te, s, ps⟩ => [.agg [.int .i64 tn, .int .u32 te, .int .i64 s, .sl (tmsA ps) false]]) (fun ⟨tn, te, s, ps⟩ => .agg [.int .i64 tn, .int .u32 te, .int .i64 s, .sl (tmsA ps) false])
theorem sp_toFlagSum_eq (tn te s : Int) (ps : List Tm) (h : ps.length ≤ 1048576) : sp_toFlagSum [.agg [.int .i64 tn, .int .u32 te, .int .i64 s, .sl (tmsA ps) false]] = some (.agg [.int .i64 tn, .int .u32 te, .int .i64 s, .sl (tmsA ps) false]) := by
  unfold sp_toFlagSum
  exact pf_eq (ι := (Int) × (Int) × (Int) × (List Tm)) (α := AV) (tn, te, s, ps) h (by rintro ⟨tn', te', s', ps'⟩ _ e; simp_all [Int.natCast_inj])
theorem q_laws_toFlagSum : QP PP 26 sp_toFlagSum := by
  refine QP_pf (fun i h => ?_) fun i h => ?_
  · obtain ⟨tn, te, s, ps⟩ := i; exact ⟨by first | rfl | simp, by first | rfl | simp⟩
  obtain ⟨tn, te, s, ps⟩ := i
  replace h : ps.length ≤ 1048576 := h
  refine P_code (Quiet.q1 q_laws_toGraph (Quiet.q1 q_laws_toTermS Quiet.nil)) hmix k_laws_toFlagSum rfl ?_ ?_
  · first | rfl | simp
  show wpc 0 PP _ c_laws_toFlagSum (initSt [.agg [.int .i64 tn, .int .u32 te, .int .i64 s, .sl (tmsA ps) false]] .nil) (endP r_laws_toFlagSum (.agg [.int .i64 tn, .int .u32 te, .int .i64 s, .sl (tmsA ps) false]))
  simp -dsimp -implicitDefEqProofs [c_laws_toFlagSum, r_laws_toFlagSum, sp_toTermS_eq ps h]
noncomputable def sp_eqTerm : List AV → Option (AV) := pf (ι := (Int) × (Int) × (Int) × (Int) × (Int) × (Int) × (Int) × (Int) × (Int) × (Int)) (α := AV) (fun ⟨k, n, e, p, q, k', n', e', p', q'⟩ => True) (fun ⟨k, n, e, p, q, k', n', e', p', q'⟩ => [.agg [.int .i64 k, .int .i64 n, .int .u32 e, .int .i64 p, .int .i64 q], .agg [.int .i64 k', .int .i64 n', .int .u32 e', .int .i64 p', .int .i64 q']]) (fun ⟨k, n, e, p, q, k', n', e', p', q'⟩ => .bool ((k == k' && (n == n' && e == e')) && (p == p' && q == q')))
theorem sp_eqTerm_eq (k n e p q k' n' e' p' q' : Int) : sp_eqTerm [.agg [.int .i64 k, .int .i64 n, .int .u32 e, .int .i64 p, .int .i64 q], .agg [.int .i64 k', .int .i64 n', .int .u32 e', .int .i64 p', .int .i64 q']] = some (.bool ((k == k' && (n == n' && e == e')) && (p == p' && q == q'))) := by
  unfold sp_eqTerm
  exact pf_eq (ι := (Int) × (Int) × (Int) × (Int) × (Int) × (Int) × (Int) × (Int) × (Int) × (Int)) (α := AV) (k, n, e, p, q, k', n', e', p', q') trivial (by rintro ⟨k', n', e', p', q', k'', n'', e'', p'', q''⟩ _ e; simp_all [Int.natCast_inj])
attribute [simp] sp_eqTerm_eq
theorem q_laws_eqTerm : QP PP 111 sp_eqTerm := by
  refine QP_pf (fun i h => ?_) fun i h => ?_
  · obtain ⟨k, n, e, p, q, k', n', e', p', q'⟩ := i; exact ⟨by first | rfl | simp, by first | rfl | simp⟩
  obtain ⟨k, n, e, p, q, k', n', e', p', q'⟩ := i
  replace h : True := h
  refine P_code (Quiet.q1 q_laws_eqFlag (Quiet.q1 q_laws_eqFraction Quiet.nil)) hmix k_laws_eqTerm rfl ?_ ?_
  · first | rfl | simp
  show wpc 0 PP _ c_laws_eqTerm (initSt [.agg [.int .i64 k, .int .i64 n, .int .u32 e, .int .i64 p, .int .i64 q], .agg [.int .i64 k', .int .i64 n', .int .u32 e', .int .i64 p', .int .i64 q']] .nil) (endP r_laws_eqTerm (.bool ((k == k' && (n == n' && e == e')) && (p == p' && q == q'))))
  cases h1 : (k == k' && (n == n' && e == e')) <;> cases h2 : (p == p' && q == q') <;> simp -dsimp -implicitDefEqProofs [c_laws_eqTerm, r_laws_eqTerm, sp_eqFlag_eq, sp_eqFraction_eq, h1, h2]
theorem tm_eqb (x y : Tm) : ((x.k == y.k && (x.n == y.n && x.e == y.e)) && (x.p == y.p && x.q == y.q)) = decide (x = y) := by
  by_cases h : x = y
  · subst h; simp
  · rw [decide_eq_false h, Bool.eq_false_iff]
    intro hh
    simp at hh
    apply h
    cases x; cases y
    simp_all
noncomputable def sp_eqTermS : List AV → Option (AV) := pf (ι := (List Tm) × (List Tm)) (α := AV) (fun ⟨l, k⟩ => l.length ≤ maxLen) (fun ⟨l, k⟩ => [.sl (tmsA l) false, .sl (tmsA k) false]) (fun ⟨l, k⟩ => .bool (decide (l = k)))
theorem sp_eqTermS_eq (l k : List Tm) (h : l.length ≤ maxLen) : sp_eqTermS [.sl (tmsA l) false, .sl (tmsA k) false] = some (.bool (decide (l = k))) := by
  unfold sp_eqTermS
  exact pf_eq (ι := (List Tm) × (List Tm)) (α := AV) (l, k) h (by rintro ⟨l', k'⟩ _ e; simp_all [Int.natCast_inj])
theorem q_laws_eqTermS : QP PP 60 sp_eqTermS := by
  refine QP_pf (fun i h => ?_) fun i h => ?_
  · obtain ⟨l, k⟩ := i; exact ⟨by first | rfl | simp, by first | rfl | simp⟩
  obtain ⟨l, k⟩ := i
  replace h : l.length ≤ maxLen := h
  refine P_code (Quiet.q1 q_laws_eqTerm Quiet.nil) hmix k_laws_eqTermS rfl ?_ ?_
  · first | rfl | simp
  show wpc 0 PP _ c_laws_eqTermS (initSt [.sl (tmsA l) false, .sl (tmsA k) false] .nil) (endP r_laws_eqTermS (.bool (decide (l = k))))
  simp only [maxLen] at h
  by_cases hlen : l.length = k.length
  · simp -dsimp -implicitDefEqProofs [c_laws_eqTermS, r_laws_eqTermS, hlen]
    refine wpLoop_st (fun (i : Nat) => ⟨tl [(0, .sl (tmsA l) false), (1, .sl (tmsA k) false), (5, .int .i64 i)], ⟨[]⟩⟩) (fun i => i ≤ l.length ∧ l.take i = k.take i) (fun i => l.length - i) 0 ⟨Nat.zero_le _, rfl⟩ (Sub.keep (by simp) (by simp [hsub]) (by simp)) ?_
    rintro i ⟨h1, h2⟩
    simp -dsimp -implicitDefEqProofs
    refine brW_of (fun h => ?_) (fun h => ?_) <;> simp only [decide_eq_true_eq, decide_eq_false_iff_not] at h
    · have hi : i < l.length := by omega
      have hj : i < k.length := by omega
      have hw := wrapNat (i := i) (by omega)
      have hq := sp_eqTerm_eq l[i].k l[i].n l[i].e l[i].p l[i].q k[i].k k[i].n k[i].e k[i].p k[i].q
      rw [tm_eqb] at hq
      by_cases he : l[i] = k[i]
      · rw [decide_eq_true he] at hq
        simp -dsimp -implicitDefEqProofs [hi, hj, hw, hq]
        exact .mk (i + 1) ⟨by omega, by rw [take_snoc l i hi, take_snoc k i hj, h2, he]⟩ (by omega) (Sub.keep (by simp) (by simp [hsub]) (by simp [hw]))
      · have hne : ¬ l = k := fun e => he (by subst e; rfl)
        rw [decide_eq_false he] at hq
        simp -dsimp -implicitDefEqProofs [hi, hj, hw, hne, hq]
    · have hi : i = l.length := by omega
      have he : l = k := by
        rw [hi, List.take_length, hlen, List.take_length] at h2
        exact h2
      simp -dsimp -implicitDefEqProofs [he]
  · have hne : ¬ l = k := fun e => hlen (by rw [e])
    have hln : ((l.length : Int) != (k.length : Int)) = true := by simp; omega
    simp -dsimp -implicitDefEqProofs [c_laws_eqTermS, r_laws_eqTermS, hln, hne]
noncomputable def sp_eqFlagSum : List AV → Option (AV) := pf (ι := (Int) × (Int) × (Int) × (List Tm) × (Int) × (Int) × (Int) × (List Tm)) (α := AV) (fun ⟨n, e, l, ps, n', e', l', ps'⟩ => ps.length ≤ maxLen) (fun ⟨n, e, l, ps, n', e', l', ps'⟩ => [.agg [.int .i64 n, .int .u32 e, .int .i64 l, .sl (tmsA ps) false], .agg [.int .i64 n', .int .u32 e', .int .i64 l', .sl (tmsA ps') false]]) (fun ⟨n, e, l, ps, n', e', l', ps'⟩ => .bool ((n == n' && e == e') && (l == l') && decide (ps = ps')))
theorem sp_eqFlagSum_eq (n e l : Int) (ps : List Tm) (n' e' l' : Int) (ps' : List Tm) (h : ps.length ≤ maxLen) : sp_eqFlagSum [.agg [.int .i64 n, .int .u32 e, .int .i64 l, .sl (tmsA ps) false], .agg [.int .i64 n', .int .u32 e', .int .i64 l', .sl (tmsA ps') false]] = some (.bool ((n == n' && e == e') && (l == l') && decide (ps = ps'))) := by
  unfold sp_eqFlagSum
  exact pf_eq (ι := (Int) × (Int) × (Int) × (List Tm) × (Int) × (Int) × (Int) × (List Tm)) (α := AV) (n, e, l, ps, n', e', l', ps') h (by rintro ⟨n', e', l', ps', n'', e'', l'', ps''⟩ _ e; simp_all [Int.natCast_inj])
theorem q_laws_eqFlagSum : QP PP 18 sp_eqFlagSum := by
  refine QP_pf (fun i h => ?_) fun i h => ?_
  · obtain ⟨n, e, l, ps, n', e', l', ps'⟩ := i; exact ⟨by first | rfl | simp, by first | rfl | simp⟩
  obtain ⟨n, e, l, ps, n', e', l', ps'⟩ := i
  replace h : ps.length ≤ maxLen := h
  refine P_code (Quiet.q1 q_laws_eqGraph (Quiet.q1 q_laws_eqTermS Quiet.nil)) hmix k_laws_eqFlagSum rfl ?_ ?_
  · first | rfl | simp
  show wpc 0 PP _ c_laws_eqFlagSum (initSt [.agg [.int .i64 n, .int .u32 e, .int .i64 l, .sl (tmsA ps) false], .agg [.int .i64 n', .int .u32 e', .int .i64 l', .sl (tmsA ps') false]] .nil) (endP r_laws_eqFlagSum (.bool ((n == n' && e == e') && (l == l') && decide (ps = ps'))))
  by_cases h4 : ps = ps'
  · subst h4
    simp -dsimp -implicitDefEqProofs [c_laws_eqFlagSum, r_laws_eqFlagSum, sp_eqTermS_eq ps ps h]
    cases h1 : n == n' <;> cases h2 : e == e' <;> cases h3 : l == l' <;> simp -dsimp -implicitDefEqProofs [h1, h2, h3, bne, sp_eqTermS_eq ps ps h]
  · simp -dsimp -implicitDefEqProofs [c_laws_eqFlagSum, r_laws_eqFlagSum, sp_eqTermS_eq ps ps' h]
    cases h1 : n == n' <;> cases h2 : e == e' <;> cases h3 : l == l' <;> simp -dsimp -implicitDefEqProofs [h1, h2, h3, h4, bne, sp_eqTermS_eq ps ps' h]
abbrev tyTm : Ty := .st [.st [.int .i64, .st [.int .i64, .int .u32]], .st [.int .i64, .int .i64]]
theorem wt_tm (y : AV) (h : WtV tyTm y) : ∃ x : Tm, y = tmA x ∧ 0 ≤ x.e ∧ x.e ≤ 4294967295 := by
  simp only [tyTm, WtV_st, WtL_st, WtL_int, WtL_nil] at h
  obtain ⟨_, rfl, _, _, rfl, ⟨k, _, rfl, _, _, _, rfl, ⟨n, _, rfl, _, e, _, rfl, he, rfl⟩, rfl⟩, _, _, rfl, ⟨p, _, rfl, _, q, _, rfl, _, rfl⟩, rfl⟩ := h
  exact ⟨⟨k, n, e, p, q⟩, rfl, by simpa [IntKind.min, IntKind.signed] using he.1, by simpa [IntKind.max, IntKind.signed, IntKind.bits] using he.2⟩
abbrev tyFlagSum : Ty := .st [.st [.int .i64, .int .u32], .int .i64, .sl tyTm]
theorem wt_tms {α : Type} {f : α → AV} {P : α → Prop} {t : Ty} (hf : ∀ y, WtV t y → ∃ x, y = f x ∧ P x) : ∀ {xs : List AV}, (∀ y ∈ xs, WtV t y) → ∃ l, xs = mapA f l ∧ ∀ x ∈ l, P x
  | [], _ => ⟨[], rfl, fun x hx => (by cases hx)⟩
  | x :: xs, h => by
    obtain ⟨l, hl, hp⟩ := wt_tms hf fun y hy => h y (List.mem_cons_of_mem _ hy)
    obtain ⟨z, hz, hq⟩ := hf x (h x (List.mem_cons_self ..))
    refine ⟨z :: l, by rw [hz, hl]; rfl, fun y hy => ?_⟩
    rcases List.mem_cons.1 hy with rfl | hy
    · exact hq
    · exact hp y hy
theorem wt_sum {x : AV} (h : WtV tyFlagSum x) : ∃ n e s ps, x = .agg [.int .i64 n, .int .u32 e, .int .i64 s, .sl (tmsA ps) false] ∧ ((0 ≤ e ∧ e ≤ 4294967295) ∧ ps.length ≤ maxLen ∧ u32L ps) := by
  rw [tyFlagSum, WtV_st] at h
  simp only [WtL_st, WtL_int, WtL_sl, WtL_nil] at h
  obtain ⟨_, rfl, _, _, rfl, ⟨n, _, rfl, _, e, _, rfl, he, rfl⟩, s, _, rfl, hs, xs, _, rfl, ⟨hlen, hx⟩, rfl⟩ := h
  obtain ⟨ps, rfl, hp⟩ := wt_tms (t := tyTm) wt_tm (by simpa only [tyTm, WtV_st, WtL_st, WtL_int, WtL_nil] using hx)
  exact ⟨n, e, s, ps, rfl, ⟨by simpa [IntKind.min, IntKind.signed] using he.1, by simpa [IntKind.max, IntKind.signed, IntKind.bits] using he.2⟩, by simpa using hlen, hp⟩
end Go.Proofs.YtgophedkejgedaaGreatDoorAi
end

section
/- MADE BY PROGRAM (wip/tools/gen.py): the abstract code of functions. -/
namespace Go.Proofs.YtgophedkejgedaaGreatDoorAi
open Go AC AOp Opd
set_option linter.unusedVariables false
set_option maxRecDepth 100000
def c_laws_toGraphS : AC := seq (reg [⟨(some 2), mv (c (.sl [] true)), none⟩]) (seq (reg [⟨(some 5), mv (t 0), none⟩, ⟨(some 6), len (t 5), none⟩, ⟨(some 7), mks 2 16 [.int .i64 0, .int .u32 0] (t 6) (t 6), none⟩, ⟨(some 3), mv (t 7), none⟩]) (seq (seq (reg [⟨(some 4), mv (c (.int .i64 0)), none⟩]) (block 0 (loop (seq (seq (reg [⟨(some 8), mv (t 4), none⟩, ⟨(some 9), mv (t 0), none⟩, ⟨(some 10), len (t 9), none⟩, ⟨(some 11), bin .lss (t 8) (t 10), none⟩]) (cond (t 11) (skip) (exit 0))) (seq (block 1 (reg [⟨(some 14), mv (t 3), none⟩, ⟨(some 15), mv (t 4), none⟩, ⟨(some 16), mv (t 0), none⟩, ⟨(some 17), mv (t 4), none⟩, ⟨(some 18), iad 2 (t 16) (t 17), none⟩, ⟨(some 19), ld (t 18) 2 true, none⟩, ⟨(some 20), callq (c (.fn 68 [])) [t 19], none⟩, ⟨(some 21), iad 2 (t 14) (t 15), none⟩, ⟨none, st (t 21) 2 (t 20), none⟩])) (reg [⟨(some 12), mv (t 4), none⟩, ⟨(some 13), bin .add (t 12) (c (.int .i64 1)), none⟩, ⟨(some 4), mv (t 13), none⟩])))))) (seq (reg [⟨(some 22), mv (t 3), none⟩, ⟨(some 2), mv (t 22), none⟩]) (seq shift (ret)))))
def r_laws_toGraphS : List ARes := [.tmp 2]
theorem k_laws_toGraphS : acLin Go.Proofs.Tryz.prog 25 1 (inQ [68] []) [⟨false, none, [], [], none⟩, ⟨false, none, [], [], none⟩, ⟨false, none, [], [], none⟩, ⟨false, none, [], [], none⟩, ⟨false, none, [], [], none⟩, ⟨false, none, [], [], none⟩, ⟨false, none, [], [], none⟩, ⟨false, none, [], [], none⟩, ⟨true, none, [], [], none⟩] = some (c_laws_toGraphS, r_laws_toGraphS) := by kernel_rfl
def c_impl_ValidStatement : AC := seq (reg [⟨(some 1), box 7 (t 0), none⟩, ⟨(some 2), mv (c (.bool false)), none⟩]) (seq (reg [⟨(some 3), fad (t 1) 0, none⟩, ⟨(some 4), ld (t 3) 1 false, none⟩, ⟨(some 5), callq (c (.fn 70 [])) [t 4], none⟩, ⟨(some 6), bin .eql (t 5) (c (.int .i64 0)), none⟩, ⟨(some 7), mv (t 6), none⟩, ⟨(some 8), fad (t 1) 1, some (7, true)⟩, ⟨(some 9), ld (t 8) 4 true, some (7, true)⟩, ⟨(some 10), callq (c (.fn 57 [])) [t 9], some (7, true)⟩, ⟨(some 11), pick (t 7) (t 10) (c (.bool false)), none⟩, ⟨(some 12), mv (t 11), none⟩, ⟨(some 13), fad (t 1) 1, some (12, true)⟩, ⟨(some 14), fad (t 13) 0, some (12, true)⟩, ⟨(some 15), fad (t 14) 0, some (12, true)⟩, ⟨(some 16), ld (t 15) 1 false, some (12, true)⟩, ⟨(some 17), bin .eql (t 16) (c (.int .i64 0)), some (12, true)⟩, ⟨(some 18), pick (t 12) (t 17) (c (.bool false)), none⟩, ⟨(some 19), mv (t 18), none⟩, ⟨(some 20), fad (t 1) 5, some (19, true)⟩, ⟨(some 21), ld (t 20) 2 true, some (19, true)⟩, ⟨(some 22), callq (c (.fn 71 [])) [t 21], some (19, true)⟩, ⟨(some 23), pick (t 19) (t 22) (c (.bool false)), none⟩, ⟨(some 2), mv (t 23), none⟩]) (ret))
def r_impl_ValidStatement : List ARes := [.tmp 2]
theorem k_impl_ValidStatement : acLin Go.Proofs.Tryz.prog 28 1 (inQ [57, 70, 71] []) [] = some (c_impl_ValidStatement, r_impl_ValidStatement) := by kernel_rfl
def c_impl_statementText : AC := seq (reg [⟨(some 1), box 7 (t 0), none⟩, ⟨(some 2), mv (c (.str ⟨#[]⟩)), none⟩]) (seq (reg [⟨(some 6), fad (t 1) 5, none⟩, ⟨(some 7), ld (t 6) 2 true, none⟩, ⟨(some 8), callq (c (.fn 72 [])) [t 7], none⟩, ⟨(some 9), bin .add (c (.str ⟨#[115, 116, 97, 116, 101, 109, 101, 110, 116, 32]⟩)) (t 8), none⟩, ⟨(some 10), bin .add (t 9) (c (.str ⟨#[10]⟩)), none⟩, ⟨(some 3), mv (t 10), none⟩]) (seq (seq (reg [⟨(some 11), fad (t 1) 0, none⟩, ⟨(some 12), ld (t 11) 1 false, none⟩, ⟨(some 13), len (t 12), none⟩, ⟨(some 14), mv (c (.int .i64 0)), none⟩]) (block 0 (loop (seq (reg [⟨(some 15), bin .lss (t 14) (t 13), none⟩]) (seq (cond (t 15) (skip) (exit 0)) (seq (block 1 (seq (reg [⟨(some 16), iad 2 (t 12) (t 14), none⟩, ⟨(some 17), ld (t 16) 2 true, none⟩, ⟨(some 5), alloc [.int .i64 0, .int .u32 0], none⟩, ⟨none, st (t 5) 2 (t 17), none⟩]) (reg [⟨(some 18), mv (t 3), none⟩, ⟨(some 19), ld (t 5) 2 true, none⟩, ⟨(some 20), callq (c (.fn 73 [])) [t 19], none⟩, ⟨(some 21), bin .add (c (.str ⟨#[119, 105, 116, 104, 111, 117, 116, 32]⟩)) (t 20), none⟩, ⟨(some 22), bin .add (t 21) (c (.str ⟨#[10]⟩)), none⟩, ⟨(some 23), bin .add (t 18) (t 22), none⟩, ⟨(some 3), mv (t 23), none⟩]))) (reg [⟨(some 24), bin .add (t 14) (c (.int .i64 1)), none⟩, ⟨(some 14), mv (t 24), none⟩]))))))) (seq (reg [⟨(some 25), mv (t 3), none⟩, ⟨(some 26), fad (t 1) 1, none⟩, ⟨(some 27), ld (t 26) 4 true, none⟩, ⟨(some 28), callq (c (.fn 58 [])) [t 27], none⟩, ⟨(some 29), bin .add (t 25) (t 28), none⟩, ⟨(some 2), mv (t 29), none⟩]) (ret))))
def r_impl_statementText : List ARes := [.tmp 2]
theorem k_impl_statementText : acLin Go.Proofs.Tryz.prog 29 1 (inQ [58, 72, 73] []) [] = some (c_impl_statementText, r_impl_statementText) := by kernel_rfl
def c_impl_StatementText : AC := seq (reg [⟨(some 1), box 7 (t 0), none⟩, ⟨(some 2), mv (c (.str ⟨#[]⟩)), none⟩]) (seq (seq (reg [⟨(some 3), ld (t 1) 7 true, none⟩, ⟨(some 4), callq (c (.fn 28 [])) [t 3], none⟩, ⟨(some 5), un .not (t 4), none⟩]) (cond (t 5) (seq (reg [⟨(some 2), mv (c (.str ⟨#[]⟩)), none⟩]) (ret)) (skip))) (seq (reg [⟨(some 6), ld (t 1) 7 true, none⟩, ⟨(some 7), callq (c (.fn 29 [])) [t 6], none⟩, ⟨(some 2), mv (t 7), none⟩]) (ret)))
def r_impl_StatementText : List ARes := [.tmp 2]
theorem k_impl_StatementText : acLin Go.Proofs.Tryz.prog 9 1 (inQ [28, 29] []) [] = some (c_impl_StatementText, r_impl_StatementText) := by kernel_rfl
def c_spec_l06Statement : AC := seq (reg [⟨(some 2), mv (c (.bool false)), none⟩]) (seq (reg [⟨(some 3), mv (t 0), none⟩, ⟨(some 4), nilc (t 3), none⟩, ⟨(some 5), fad (t 4) 0, none⟩, ⟨(some 6), ld (t 5) 1 false, none⟩, ⟨(some 7), callq (c (.fn 64 [])) [t 6], none⟩, ⟨(some 8), bin .eql (t 7) (c (.int .i64 0)), none⟩, ⟨(some 9), mv (t 8), none⟩, ⟨(some 10), mv (t 0), some (9, true)⟩, ⟨(some 11), nilc (t 10), some (9, true)⟩, ⟨(some 12), fad (t 11) 1, some (9, true)⟩, ⟨(some 13), calle (c (.fn 48 [])) [t 12] [], some (9, true)⟩, ⟨(some 14), pick (t 9) (t 13) (c (.bool false)), none⟩, ⟨(some 15), mv (t 14), none⟩, ⟨(some 16), mv (t 0), some (15, true)⟩, ⟨(some 17), nilc (t 16), some (15, true)⟩, ⟨(some 18), fad (t 17) 1, some (15, true)⟩, ⟨(some 19), fad (t 18) 0, some (15, true)⟩, ⟨(some 20), fad (t 19) 0, some (15, true)⟩, ⟨(some 21), ld (t 20) 1 false, some (15, true)⟩, ⟨(some 22), bin .eql (t 21) (c (.int .i64 0)), some (15, true)⟩, ⟨(some 23), pick (t 15) (t 22) (c (.bool false)), none⟩, ⟨(some 24), mv (t 23), none⟩, ⟨(some 25), mv (t 0), some (24, true)⟩, ⟨(some 26), nilc (t 25), some (24, true)⟩, ⟨(some 27), fad (t 26) 5, some (24, true)⟩, ⟨(some 28), ld (t 27) 2 true, some (24, true)⟩, ⟨(some 29), callq (c (.fn 65 [])) [t 28], some (24, true)⟩, ⟨(some 30), pick (t 24) (t 29) (c (.bool false)), none⟩, ⟨(some 2), mv (t 30), none⟩]) (ret))
def r_spec_l06Statement : List ARes := [.tmp 2]
theorem k_spec_l06Statement : acLin Go.Proofs.Tryz.prog 23 1 (inQ [64, 65] [48]) [] = some (c_spec_l06Statement, r_spec_l06Statement) := by kernel_rfl
def c_spec_l06Stated : AC := seq (reg [⟨(some 2), mv (c (.str ⟨#[]⟩)), none⟩]) (seq (reg [⟨(some 5), mv (t 0), none⟩, ⟨(some 6), nilc (t 5), none⟩, ⟨(some 7), fad (t 6) 5, none⟩, ⟨(some 8), ld (t 7) 2 true, none⟩, ⟨(some 9), callq (c (.fn 66 [])) [t 8], none⟩, ⟨(some 10), bin .add (c (.str ⟨#[115, 116, 97, 116, 101, 109, 101, 110, 116, 32]⟩)) (t 9), none⟩, ⟨(some 11), bin .add (t 10) (c (.str ⟨#[10]⟩)), none⟩, ⟨(some 3), mv (t 11), none⟩]) (seq (seq (reg [⟨(some 4), mv (c (.int .i64 0)), none⟩]) (block 0 (loop (seq (seq (reg [⟨(some 12), mv (t 4), none⟩, ⟨(some 13), mv (t 0), none⟩, ⟨(some 14), nilc (t 13), none⟩, ⟨(some 15), fad (t 14) 0, none⟩, ⟨(some 16), ld (t 15) 1 false, none⟩, ⟨(some 17), len (t 16), none⟩, ⟨(some 18), bin .lss (t 12) (t 17), none⟩]) (cond (t 18) (skip) (exit 0))) (seq (block 1 (reg [⟨(some 21), mv (t 3), none⟩, ⟨(some 22), mv (t 0), none⟩, ⟨(some 23), nilc (t 22), none⟩, ⟨(some 24), fad (t 23) 0, none⟩, ⟨(some 25), ld (t 24) 1 false, none⟩, ⟨(some 26), mv (t 4), none⟩, ⟨(some 27), iad 2 (t 25) (t 26), none⟩, ⟨(some 28), ld (t 27) 2 true, none⟩, ⟨(some 29), callq (c (.fn 67 [])) [t 28], none⟩, ⟨(some 30), bin .add (c (.str ⟨#[119, 105, 116, 104, 111, 117, 116, 32]⟩)) (t 29), none⟩, ⟨(some 31), bin .add (t 30) (c (.str ⟨#[10]⟩)), none⟩, ⟨(some 32), bin .add (t 21) (t 31), none⟩, ⟨(some 3), mv (t 32), none⟩])) (reg [⟨(some 19), mv (t 4), none⟩, ⟨(some 20), bin .add (t 19) (c (.int .i64 1)), none⟩, ⟨(some 4), mv (t 20), none⟩])))))) (seq (reg [⟨(some 33), mv (t 3), none⟩, ⟨(some 34), mv (t 0), none⟩, ⟨(some 35), nilc (t 34), none⟩, ⟨(some 36), fad (t 35) 1, none⟩, ⟨(some 37), calle (c (.fn 49 [])) [t 36] [], none⟩, ⟨(some 38), bin .add (t 33) (t 37), none⟩, ⟨(some 2), mv (t 38), none⟩]) (ret))))
def r_spec_l06Stated : List ARes := [.tmp 2]
theorem k_spec_l06Stated : acLin Go.Proofs.Tryz.prog 24 1 (inQ [66, 67] [49]) [] = some (c_spec_l06Stated, r_spec_l06Stated) := by kernel_rfl
def c_spec_StatementText : AC := seq (reg [⟨(some 1), box 7 (t 0), none⟩, ⟨(some 2), mv (c (.str ⟨#[]⟩)), none⟩]) (seq (seq (reg [⟨(some 3), calle (c (.fn 23 [])) [t 1] [], none⟩, ⟨(some 4), un .not (t 3), none⟩]) (cond (t 4) (seq (reg [⟨(some 2), mv (c (.str ⟨#[]⟩)), none⟩]) (ret)) (skip))) (seq (reg [⟨(some 5), calle (c (.fn 24 [])) [t 1] [], none⟩, ⟨(some 2), mv (t 5), none⟩]) (ret)))
def r_spec_StatementText : List ARes := [.tmp 2]
theorem k_spec_StatementText : acLin Go.Proofs.Tryz.prog 7 1 (inQ [] [23, 24]) [] = some (c_spec_StatementText, r_spec_StatementText) := by kernel_rfl
def c_laws_szStatement : AC := seq (reg [⟨(some 2), box 7 (t 0), none⟩, ⟨(some 4), mv (c (.int .i64 0)), none⟩]) (seq (reg [⟨(some 5), fad (t 2) 0, none⟩, ⟨(some 6), ld (t 5) 1 false, none⟩, ⟨(some 7), mv (t 1), none⟩, ⟨(some 8), callq (c (.fn 21 [])) [t 6, t 7], none⟩, ⟨(some 1), mv (t 8), none⟩]) (seq (seq (reg [⟨(some 9), mv (t 1), none⟩, ⟨(some 10), bin .lss (t 9) (c (.int .i64 0)), none⟩]) (cond (t 10) (seq (reg [⟨(some 4), mv (c (.int .i64 (-1))), none⟩]) (ret)) (skip))) (seq (reg [⟨(some 11), fad (t 2) 1, none⟩, ⟨(some 12), ld (t 11) 4 true, none⟩, ⟨(some 13), mv (t 1), none⟩, ⟨(some 14), callq (c (.fn 22 [])) [t 12, t 13], none⟩, ⟨(some 1), mv (t 14), none⟩]) (seq (seq (reg [⟨(some 15), mv (t 1), none⟩, ⟨(some 16), bin .lss (t 15) (c (.int .i64 0)), none⟩]) (cond (t 16) (seq (reg [⟨(some 4), mv (c (.int .i64 (-1))), none⟩]) (ret)) (skip))) (seq (reg [⟨(some 17), mv (t 1), none⟩, ⟨(some 4), mv (t 17), none⟩]) (ret))))))
def r_laws_szStatement : List ARes := [.tmp 4]
theorem k_laws_szStatement : acLin Go.Proofs.Tryz.prog 6 2 (inQ [21, 22] []) [] = some (c_laws_szStatement, r_laws_szStatement) := by kernel_rfl
def c_laws_toStatement : AC := seq (reg [⟨(some 1), box 7 (t 0), none⟩, ⟨(some 2), alloc [.sl [] true, .int .i64 0, .int .u32 0, .int .i64 0, .sl [] true, .int .i64 0, .int .i64 0], none⟩]) (seq (reg [⟨(some 3), alloc [.sl [] true, .int .i64 0, .int .u32 0, .int .i64 0, .sl [] true, .int .i64 0, .int .i64 0], none⟩]) (seq (reg [⟨(some 4), fad (t 1) 0, none⟩, ⟨(some 5), ld (t 4) 1 false, none⟩, ⟨(some 6), callq (c (.fn 25 [])) [t 5], none⟩, ⟨(some 7), fad (t 3) 0, none⟩, ⟨none, st (t 7) 1 (t 6), none⟩]) (seq (reg [⟨(some 8), fad (t 1) 1, none⟩, ⟨(some 9), ld (t 8) 4 true, none⟩, ⟨(some 10), callq (c (.fn 26 [])) [t 9], none⟩, ⟨(some 11), fad (t 3) 1, none⟩, ⟨none, st (t 11) 4 (t 10), none⟩]) (seq (reg [⟨(some 12), fad (t 1) 5, none⟩, ⟨(some 13), ld (t 12) 2 true, none⟩, ⟨(some 14), callq (c (.fn 27 [])) [t 13], none⟩, ⟨(some 15), fad (t 3) 5, none⟩, ⟨none, st (t 15) 2 (t 14), none⟩]) (seq (reg [⟨(some 16), ld (t 3) 7 true, none⟩, ⟨none, st (t 2) 7 (t 16), none⟩]) (ret))))))
def r_laws_toStatement : List ARes := [.cell 2 7 true]
theorem k_laws_toStatement : acLin Go.Proofs.Tryz.prog 8 1 (inQ [25, 26, 27] []) [] = some (c_laws_toStatement, r_laws_toStatement) := by kernel_rfl
def c_laws_eqStatement : AC := seq (reg [⟨(some 2), box 7 (t 0), none⟩, ⟨(some 3), box 7 (t 1), none⟩, ⟨(some 4), mv (c (.bool false)), none⟩]) (seq (seq (reg [⟨(some 5), fad (t 2) 0, none⟩, ⟨(some 6), ld (t 5) 1 false, none⟩, ⟨(some 7), fad (t 3) 0, none⟩, ⟨(some 8), ld (t 7) 1 false, none⟩, ⟨(some 9), callq (c (.fn 30 [])) [t 6, t 8], none⟩, ⟨(some 10), un .not (t 9), none⟩]) (cond (t 10) (seq (reg [⟨(some 4), mv (c (.bool false)), none⟩]) (ret)) (skip))) (seq (seq (reg [⟨(some 11), fad (t 2) 1, none⟩, ⟨(some 12), ld (t 11) 4 true, none⟩, ⟨(some 13), fad (t 3) 1, none⟩, ⟨(some 14), ld (t 13) 4 true, none⟩, ⟨(some 15), callq (c (.fn 18 [])) [t 12, t 14], none⟩, ⟨(some 16), un .not (t 15), none⟩]) (cond (t 16) (seq (reg [⟨(some 4), mv (c (.bool false)), none⟩]) (ret)) (skip))) (seq (seq (reg [⟨(some 17), fad (t 2) 5, none⟩, ⟨(some 18), ld (t 17) 2 true, none⟩, ⟨(some 19), fad (t 3) 5, none⟩, ⟨(some 20), ld (t 19) 2 true, none⟩, ⟨(some 21), callq (c (.fn 31 [])) [t 18, t 20], none⟩, ⟨(some 22), un .not (t 21), none⟩]) (cond (t 22) (seq (reg [⟨(some 4), mv (c (.bool false)), none⟩]) (ret)) (skip))) (seq (reg [⟨(some 4), mv (c (.bool true)), none⟩]) (ret)))))
def r_laws_eqStatement : List ARes := [.tmp 4]
theorem k_laws_eqStatement : acLin Go.Proofs.Tryz.prog 10 2 (inQ [18, 30, 31] []) [] = some (c_laws_eqStatement, r_laws_eqStatement) := by kernel_rfl
def c_laws_FnExactStatementText : AC := seq (reg [⟨(some 1), box 7 (t 0), none⟩, ⟨(some 2), mv (c (.bool false)), none⟩]) (seq (reg [⟨(some 3), mv (c (.int .i64 1048576)), none⟩]) (seq (reg [⟨(some 7), ld (t 1) 7 true, none⟩, ⟨(some 8), mv (t 3), none⟩, ⟨(some 9), callq (c (.fn 6 [])) [t 7, t 8], none⟩, ⟨(some 3), mv (t 9), none⟩]) (seq (seq (reg [⟨(some 10), mv (t 3), none⟩, ⟨(some 11), bin .lss (t 10) (c (.int .i64 0)), none⟩]) (cond (t 11) (seq (reg [⟨(some 2), mv (c (.bool true)), none⟩]) (ret)) (skip))) (seq (reg [⟨(some 12), ld (t 1) 7 true, none⟩, ⟨(some 13), callq (c (.fn 8 [])) [t 12], none⟩, ⟨(some 14), callq (c (.fn 7 [])) [t 13], none⟩, ⟨(some 4), mv (t 14), none⟩]) (seq (reg [⟨(some 15), ld (t 1) 7 true, none⟩, ⟨(some 16), callq (c (.fn 8 [])) [t 15], none⟩, ⟨(some 5), alloc [.sl [] true, .int .i64 0, .int .u32 0, .int .i64 0, .sl [] true, .int .i64 0, .int .i64 0], none⟩, ⟨none, st (t 5) 7 (t 16), none⟩]) (seq (reg [⟨(some 17), ld (t 5) 7 true, none⟩, ⟨(some 18), callq (c (.fn 9 [])) [t 17], none⟩, ⟨(some 6), mv (t 18), none⟩]) (seq (seq (reg [⟨(some 19), mv (t 6), none⟩, ⟨(some 20), mv (t 4), none⟩, ⟨(some 21), bin .neq (t 19) (t 20), none⟩]) (cond (t 21) (seq (reg [⟨(some 2), mv (c (.bool false)), none⟩]) (ret)) (skip))) (seq (seq (reg [⟨(some 22), ld (t 5) 7 true, none⟩, ⟨(some 23), ld (t 1) 7 true, none⟩, ⟨(some 24), callq (c (.fn 8 [])) [t 23], none⟩, ⟨(some 25), callq (c (.fn 10 [])) [t 22, t 24], none⟩, ⟨(some 26), un .not (t 25), none⟩]) (cond (t 26) (seq (reg [⟨(some 2), mv (c (.bool false)), none⟩]) (ret)) (skip))) (seq (reg [⟨(some 2), mv (c (.bool true)), none⟩]) (ret))))))))))
def r_laws_FnExactStatementText : List ARes := [.tmp 2]
theorem k_laws_FnExactStatementText : acLin Go.Proofs.Tryz.prog 3 1 (inQ [6, 7, 8, 9, 10] []) [⟨false, none, [], [], none⟩, ⟨false, none, [], [], none⟩, ⟨false, none, [], [], none⟩, ⟨false, none, [], [], none⟩, ⟨false, none, [], [], none⟩, ⟨false, none, [], [], none⟩, ⟨false, none, [], [], none⟩, ⟨false, none, [], [], none⟩, ⟨false, none, [], [], none⟩, ⟨false, none, [], [], none⟩, ⟨false, none, [], [], none⟩, ⟨false, none, [], [], none⟩, ⟨false, some [0, 1, 2, 3, 4], [], [], none⟩] = some (c_laws_FnExactStatementText, r_laws_FnExactStatementText) := by kernel_rfl
end Go.Proofs.YtgophedkejgedaaGreatDoorAi
end

section
/- Contracts: lists of forbidden parts. -/
namespace Go.Proofs.YtgophedkejgedaaGreatDoorAi
open Go Go.RowKit
set_option linter.unusedVariables false
set_option linter.unusedSimpArgs false
set_option maxRecDepth 20000

theorem T_indexG {g : FuncId} {caps : List AV} {os : List (Option (List AV))} (f : Gr → Bool) (l : List Gr) (hl : l.length ≤ maxLen) (ho : ClosedH os) (hc : ltL os.length caps = true)
    (hf : ∀ x ∈ l, T PP g ([grA x] ++ caps) ⟨os⟩ fun r A' => r = .bool (f x) ∧ A' = ⟨os⟩) :
    T PP 155 [.sl (grsA l) false, .fn g caps] ⟨os⟩ fun r A' => r = .int .i64 (idxF f l 0) ∧ A' = ⟨os⟩ := by
  refine H_code Quiet.nil hmix k_slices_IndexFunc_Simpl_Graph_impl_Graph rfl (fun b => b) (Nat.le_refl _) (fun _ _ => rfl) (injB_id _) (by rfl) ?_
  show wpc os.length PP _ c_slices_IndexFunc_Simpl_Graph_impl_Graph (initSt [.sl (grsA l) false, .fn g caps] ⟨os⟩) _
  simp only [maxLen] at hl
  simp -dsimp -implicitDefEqProofs [c_slices_IndexFunc_Simpl_Graph_impl_Graph, r_slices_IndexFunc_Simpl_Graph_impl_Graph]
  refine wpLoop_st (fun (i : Nat) => ⟨tl [(0, .sl (grsA l) false), (1, .fn g caps), (7, .int .i64 l.length), (8, .int .i64 i)], ⟨os⟩⟩) (fun i => i ≤ l.length ∧ idxF f (l.drop i) i = idxF f l 0) (fun i => l.length - i) 0 ⟨by omega, rfl⟩ (Sub.pre0 ho (by simp [hc])) ?_
  rintro i ⟨hi, hx⟩
  simp -dsimp -implicitDefEqProofs
  refine brW_of (fun h => ?_) (fun h => ?_) <;> simp only [decide_eq_true_eq, decide_eq_false_iff_not] at h
  · have hi' : i < l.length := by omega
    have hw := wrapNat (i := i) (by omega)
    simp -dsimp -implicitDefEqProofs [hi', hw]
    refine (hf l[i] (List.getElem_mem hi')).mono ?_
    rintro r A' ⟨rfl, rfl⟩
    rw [drop_cons hi', idxF] at hx
    cases hv : f l[i] with
    | false =>
      simp only [hv, Bool.false_eq_true, if_false] at hx
      simp -dsimp -implicitDefEqProofs [hw]
      exact .mk (i + 1) ⟨by omega, hx⟩ (by omega) (Sub.pre0 ho (by simp [hw, hc]))
    | true =>
      simp only [hv, if_true] at hx
      simp -dsimp -implicitDefEqProofs [← hx, hsub_all ho]
  · have : i = l.length := by omega
    subst this
    simp [idxF] at hx
    simp -dsimp -implicitDefEqProofs [← hx, hsub_all ho]
noncomputable def yesG (sp : List AV → AHeap → Option (AV × AHeap)) (caps : List AV) (A : AHeap) (x : Gr) : Bool := yesOf sp ([grA x] ++ caps) A
open Classical in
noncomputable def spIdxG (g : FuncId) (sp : List AV → AHeap → Option (AV × AHeap)) : List AV → AHeap → Option (AV × AHeap)
  | [.sl xs false, .fn g' caps], A => if h : g' = g ∧ ∃ l : List Gr, xs = grsA l ∧ l.length ≤ maxLen ∧ ∀ x ∈ l, sp ([grA x] ++ caps) A = some (.bool (yesG sp caps A x), A)
      then some (.int .i64 (idxF (yesG sp caps A) h.2.choose 0), A) else none
  | _, _ => none
theorem spIdxG_eq {g : FuncId} {sp : List AV → AHeap → Option (AV × AHeap)} (f : Gr → Bool) {l : List Gr} {caps : List AV} {A : AHeap} (hl : l.length ≤ maxLen) (h : ∀ x ∈ l, sp ([grA x] ++ caps) A = some (.bool (f x), A)) :
    spIdxG g sp [.sl (grsA l) false, .fn g caps] A = some (.int .i64 (idxF f l 0), A) := by
  have hy : ∀ x ∈ l, yesG sp caps A x = f x := by
    intro x hx
    unfold yesG yesOf
    rw [h x hx]
  have hc : g = g ∧ ∃ k : List Gr, grsA l = grsA k ∧ k.length ≤ maxLen ∧ ∀ x ∈ k, sp ([grA x] ++ caps) A = some (.bool (yesG sp caps A x), A) := ⟨rfl, l, rfl, hl, fun x hx => by rw [hy x hx]; exact h x hx⟩
  unfold spIdxG
  dsimp only
  rw [dif_pos hc]
  have e : hc.2.choose = l := (grsA_inj.1 hc.2.choose_spec.1).symm
  rw [e]
  have : ∀ (l : List Gr) (i : Nat), (∀ x ∈ l, yesG sp caps A x = f x) → idxF (yesG sp caps A) l i = idxF f l i := by
    intro l
    induction l with
    | nil => intro _ _; rfl
    | cons x l ih => intro i h; rw [idxF, idxF, h x (List.mem_cons_self ..), ih _ fun y hy => h y (List.mem_cons_of_mem _ hy)]
  rw [this l 0 hy]
theorem QE_idxG {g : FuncId} {sp : List AV → AHeap → Option (AV × AHeap)} (hg : QE PP g sp) : QE PP 155 (spIdxG g sp) := by
  intro args A r A1 e
  unfold spIdxG at e
  split at e
  · rename_i xs g' caps
    split at e
    · rename_i hc
      obtain ⟨rfl, hx⟩ := hc
      injection e with e
      injection e with e1 e2
      subst e1; subst e2
      obtain ⟨h1, h2, h3⟩ := hx.choose_spec
      generalize hx.choose = l at h1 h2 h3
      subst h1
      refine T.of_closed (T_indexG (g := g') (caps := []) (os := []) (fun _ => true) [] (by simp) ClosedH.nil rfl (fun x hx => (by cases hx))).1 fun ho hl => ?_
      exact T_indexG (os := A.l) _ l h2 ho (by simpa [ltL, AV.lt] using hl) fun x hx => hg _ _ _ _ (h3 x hx)
    · cases e
  · cases e
theorem T_anyG {g : FuncId} {sp : List AV → AHeap → Option (AV × AHeap)} (hg : QE PP g sp) {caps : List AV} {os : List (Option (List AV))} (f : Gr → Bool) (l : List Gr) (hl : l.length ≤ maxLen) (ho : ClosedH os) (hc : ltL os.length caps = true) (hcl : looseL caps = caps)
    (hf : ∀ x ∈ l, sp ([grA x] ++ caps) ⟨os⟩ = some (.bool (f x), ⟨os⟩)) :
    T PP 116 [.sl (grsA l) false, .fn g caps] ⟨os⟩ fun r A' => r = .bool (l.any f) ∧ A' = ⟨os⟩ := by
  refine H_code (Quiet.e1 (QE_idxG hg) Quiet.nil) hmix k_slices_ContainsFunc_Simpl_Graph_impl_Graph rfl (fun b => b) (Nat.le_refl _) (fun _ _ => rfl) (injB_id _) (by rfl) ?_
  show wpc os.length PP _ c_slices_ContainsFunc_Simpl_Graph_impl_Graph (initSt [.sl (grsA l) false, .fn g caps] ⟨os⟩) _
  simp -dsimp -implicitDefEqProofs [c_slices_ContainsFunc_Simpl_Graph_impl_Graph, r_slices_ContainsFunc_Simpl_Graph_impl_Graph, hcl, spIdxG_eq f hl hf, hsub_all ho, ← idxF_ge f l 0]
open Classical in
noncomputable def spAnyG (g : FuncId) (sp : List AV → AHeap → Option (AV × AHeap)) : List AV → AHeap → Option (AV × AHeap)
  | [.sl xs false, .fn g' caps], A => if h : g' = g ∧ looseL caps = caps ∧ ∃ l : List Gr, xs = grsA l ∧ l.length ≤ maxLen ∧ ∀ x ∈ l, sp ([grA x] ++ caps) A = some (.bool (yesG sp caps A x), A)
      then some (.bool (h.2.2.choose.any (yesG sp caps A)), A) else none
  | _, _ => none
theorem spAnyG_eq {g : FuncId} {sp : List AV → AHeap → Option (AV × AHeap)} (f : Gr → Bool) {l : List Gr} {caps : List AV} {A : AHeap} (hl : l.length ≤ maxLen) (hcl : looseL caps = caps) (h : ∀ x ∈ l, sp ([grA x] ++ caps) A = some (.bool (f x), A)) :
    spAnyG g sp [.sl (grsA l) false, .fn g caps] A = some (.bool (l.any f), A) := by
  have hy : ∀ x ∈ l, yesG sp caps A x = f x := by
    intro x hx
    unfold yesG yesOf
    rw [h x hx]
  have hc : g = g ∧ looseL caps = caps ∧ ∃ k : List Gr, grsA l = grsA k ∧ k.length ≤ maxLen ∧ ∀ x ∈ k, sp ([grA x] ++ caps) A = some (.bool (yesG sp caps A x), A) := ⟨rfl, hcl, l, rfl, hl, fun x hx => by rw [hy x hx]; exact h x hx⟩
  unfold spAnyG
  dsimp only
  rw [dif_pos hc]
  have e : hc.2.2.choose = l := (grsA_inj.1 hc.2.2.choose_spec.1).symm
  rw [e]
  have : l.any (yesG sp caps A) = l.any f := by
    clear e hc h hl
    induction l with
    | nil => rfl
    | cons x l ih => rw [List.any_cons, List.any_cons, hy x (List.mem_cons_self ..), ih fun y hm => hy y (List.mem_cons_of_mem _ hm)]
  rw [this]
theorem QE_anyG {g : FuncId} {sp : List AV → AHeap → Option (AV × AHeap)} (hg : QE PP g sp) : QE PP 116 (spAnyG g sp) := by
  intro args A r A1 e
  unfold spAnyG at e
  split at e
  · rename_i xs g' caps
    split at e
    · rename_i hc
      obtain ⟨rfl, hcl, hx⟩ := hc
      injection e with e
      injection e with e1 e2
      subst e1; subst e2
      obtain ⟨h1, h2, h3⟩ := hx.choose_spec
      generalize hx.choose = l at h1 h2 h3
      subst h1
      refine T.of_closed (T_anyG hg (caps := []) (os := []) (fun _ => true) [] (by simp) ClosedH.nil rfl rfl (fun x hx => (by cases hx))).1 fun ho hl => ?_
      exact T_anyG hg (os := A.l) _ l h2 ho (by simpa [ltL, AV.lt] using hl) hcl h3
    · cases e
  · cases e


def grsIn (gs : List Gr) : Prop := ∀ x ∈ gs, 0 ≤ x.e ∧ x.e ≤ 4294967295
def allGr (gs : List Gr) : Bool := gs.all fun x => graphOk x.n x.e
def forbC (gs : List Gr) : Int := if allGr gs = false then 1 else if 6 < gs.length then 3 else 0
theorem e_anyG_bad : QE PP 116 (spAnyG 117 (spR sp_badGraph)) := QE_anyG q_impl_badGraph.toR
theorem any_bad (gs : List Gr) : (gs.any fun x => !graphOk x.n x.e) = !allGr gs := by
  unfold allGr
  rw [List.not_all_eq_any_not]
noncomputable def sp_forbP : List AV → Option (AV) := pf (ι := (List Gr)) (α := AV) (fun gs => gs.length ≤ maxLen ∧ grsIn gs) (fun gs => [.sl (grsA gs) false]) (fun gs => .int .i64 (forbC gs))
theorem sp_forbP_eq (gs : List Gr) (h : gs.length ≤ maxLen ∧ grsIn gs) : sp_forbP [.sl (grsA gs) false] = some (.int .i64 (forbC gs)) := by
  unfold sp_forbP
  exact pf_eq (ι := (List Gr)) (α := AV) gs h (by rintro gs' _ e; simp_all [Int.natCast_inj])
theorem q_impl_forbiddenOk : QP PP 70 sp_forbP := by
  refine QP_pf (fun gs h => ?_) fun gs h => ?_
  · exact ⟨by first | rfl | simp, by first | rfl | simp⟩
  replace h : gs.length ≤ maxLen ∧ grsIn gs := h
  refine P_code (Quiet.e1 e_anyG_bad Quiet.nil) hmix k_impl_forbiddenOk rfl ?_ ?_
  · first | rfl | simp
  show wpc 0 PP _ c_impl_forbiddenOk (initSt [.sl (grsA gs) false] .nil) (endP r_impl_forbiddenOk (.int .i64 (forbC gs)))
  have hany := spAnyG_eq (g := 117) (sp := spR sp_badGraph) (fun x => !graphOk x.n x.e) (l := gs) (caps := []) (A := ⟨[]⟩) h.1 rfl (fun x hx => by
    have := sp_badGraph_eq x.n x.e (h.2 x hx)
    simp [spR, seeL_cons, seeL_nil, seeV_int, seeV_agg, this, AV.flat])
  rw [any_bad] at hany
  unfold forbC
  cases ha : allGr gs with
  | false => simp -dsimp -implicitDefEqProofs [c_impl_forbiddenOk, r_impl_forbiddenOk, hany, ha]
  | true =>
    by_cases h6 : 6 < gs.length
    · have h6' : (6 : Int) < gs.length := by omega
      simp -dsimp -implicitDefEqProofs [c_impl_forbiddenOk, r_impl_forbiddenOk, hany, ha, h6, h6']
    · have h6' : ¬ (6 : Int) < gs.length := by omega
      simp -dsimp -implicitDefEqProofs [c_impl_forbiddenOk, r_impl_forbiddenOk, hany, ha, h6, h6']
theorem q_spec_l01Forbidden : QP PP 64 sp_forbP := by
  refine QP_pf (fun gs h => ?_) fun gs h => ?_
  · exact ⟨by first | rfl | simp, by first | rfl | simp⟩
  replace h : gs.length ≤ maxLen ∧ grsIn gs := h
  refine P_code (Quiet.q1 q_spec_l01Ok Quiet.nil) hmix k_spec_l01Forbidden rfl ?_ ?_
  · first | rfl | simp
  show wpc 0 PP _ c_spec_l01Forbidden (initSt [.sl (grsA gs) false] .nil) (endP r_spec_l01Forbidden (.int .i64 (forbC gs)))
  obtain ⟨hl, hg⟩ := h
  simp only [maxLen] at hl
  simp -dsimp -implicitDefEqProofs [c_spec_l01Forbidden, r_spec_l01Forbidden]
  refine wpLoop_st (fun (i : Nat) => ⟨tl [(0, .sl (grsA gs) false), (3, .int .i64 i)], ⟨[]⟩⟩) (fun i => i ≤ gs.length ∧ allGr (gs.take i) = true) (fun i => gs.length - i) 0 ⟨by omega, rfl⟩ (Sub.keep (by simp) (by simp [hsub]) (by simp)) ?_
  rintro i ⟨h1, h2⟩
  simp -dsimp -implicitDefEqProofs
  refine brW_of (fun h => ?_) (fun h => ?_) <;> simp only [decide_eq_true_eq, decide_eq_false_iff_not] at h
  · have hi : i < gs.length := by omega
    have hw := wrapNat (i := i) (by omega)
    have hok := sp_graphOk_eq gs[i].n gs[i].e (hg _ (List.getElem_mem hi))
    cases hv : graphOk gs[i].n gs[i].e with
    | false =>
      have hf : forbC gs = 1 := by
        have : allGr gs = false := by
          unfold allGr; rw [List.all_eq_false]; exact ⟨gs[i], List.getElem_mem hi, by simp [hv]⟩
        unfold forbC; rw [if_pos this]
      simp -dsimp -implicitDefEqProofs [hi, hok, hv, hf]
    | true =>
      simp -dsimp -implicitDefEqProofs [hi, hok, hv, hw]
      refine .mk (i + 1) ⟨by omega, ?_⟩ (by omega) (Sub.keep (by simp) (by simp [hsub]) (by simp [hw]))
      unfold allGr at h2 ⊢
      rw [take_snoc gs i hi, List.all_append, h2]
      simp [hv]
  · have hi : i = gs.length := by omega
    subst hi
    rw [List.take_length] at h2
    unfold forbC
    by_cases h6 : 6 < gs.length
    · have h6' : (6 : Int) < gs.length := by omega
      simp -dsimp -implicitDefEqProofs [h2, h6, h6']
    · have h6' : ¬ (6 : Int) < gs.length := by omega
      simp -dsimp -implicitDefEqProofs [h2, h6, h6']

noncomputable def sp_szGr : List AV → Option (AV) := pf (ι := (List Gr) × (Int)) (α := AV) (fun ⟨gs, k⟩ => 0 ≤ k ∧ k ≤ 1048576 ∧ gs.length ≤ maxLen) (fun ⟨gs, k⟩ => [.sl (grsA gs) false, .int .i64 k]) (fun ⟨gs, k⟩ => .int .i64 (if k - gs.length < 0 then -1 else k - gs.length))
theorem sp_szGr_eq (gs : List Gr) (k : Int) (h : 0 ≤ k ∧ k ≤ 1048576 ∧ gs.length ≤ maxLen) : sp_szGr [.sl (grsA gs) false, .int .i64 k] = some (.int .i64 (if k - gs.length < 0 then -1 else k - gs.length)) := by
  unfold sp_szGr
  exact pf_eq (ι := (List Gr) × (Int)) (α := AV) (gs, k) h (by rintro ⟨gs', k'⟩ _ e; simp_all [Int.natCast_inj])
theorem q_laws_szGraphS : QP PP 21 sp_szGr := by
  refine QP_pf (fun i h => ?_) fun i h => ?_
  · obtain ⟨gs, k⟩ := i; exact ⟨by first | rfl | simp, by first | rfl | simp⟩
  obtain ⟨gs, k⟩ := i
  replace h : 0 ≤ k ∧ k ≤ 1048576 ∧ gs.length ≤ maxLen := h
  refine P_code Quiet.nil hmix k_laws_szGraphS rfl ?_ ?_
  · first | rfl | simp
  show wpc 0 PP _ c_laws_szGraphS (initSt [.sl (grsA gs) false, .int .i64 k] .nil) (endP r_laws_szGraphS (.int .i64 (if k - gs.length < 0 then -1 else k - gs.length)))
  simp only [maxLen] at h
  have hw : IntKind.i64.wrap (k - (gs.length : Int)) = k - gs.length := wrapI64 (by omega) (by omega)
  by_cases hk : k - (gs.length : Int) < 0
  · simp -dsimp -implicitDefEqProofs [c_laws_szGraphS, r_laws_szGraphS, hw, hk]
  · simp -dsimp -implicitDefEqProofs [c_laws_szGraphS, r_laws_szGraphS, hw, hk]
noncomputable def sp_eqGrs : List AV → Option (AV) := pf (ι := (List Gr) × (List Gr)) (α := AV) (fun ⟨xs, ys⟩ => xs.length ≤ maxLen) (fun ⟨xs, ys⟩ => [.sl (grsA xs) false, .sl (grsA ys) false]) (fun ⟨xs, ys⟩ => .bool (decide (xs = ys)))
theorem sp_eqGrs_eq (xs ys : List Gr) (h : xs.length ≤ maxLen) : sp_eqGrs [.sl (grsA xs) false, .sl (grsA ys) false] = some (.bool (decide (xs = ys))) := by
  unfold sp_eqGrs
  exact pf_eq (ι := (List Gr) × (List Gr)) (α := AV) (xs, ys) h (by rintro ⟨xs', ys'⟩ _ e; simp_all [Int.natCast_inj])
theorem q_laws_eqGraphS : QP PP 30 sp_eqGrs := by
  refine QP_pf (fun i h => ?_) fun i h => ?_
  · obtain ⟨xs, ys⟩ := i; exact ⟨by first | rfl | simp, by first | rfl | simp⟩
  obtain ⟨xs, ys⟩ := i
  replace h : xs.length ≤ maxLen := h
  refine P_code (Quiet.q1 q_laws_eqGraph Quiet.nil) hmix k_laws_eqGraphS rfl ?_ ?_
  · first | rfl | simp
  show wpc 0 PP _ c_laws_eqGraphS (initSt [.sl (grsA xs) false, .sl (grsA ys) false] .nil) (endP r_laws_eqGraphS (.bool (decide (xs = ys))))
  simp only [maxLen] at h
  by_cases hl : xs.length = ys.length
  · have hl' : ((xs.length : Int) != ys.length) = false := by simp [hl]
    simp -dsimp -implicitDefEqProofs [c_laws_eqGraphS, r_laws_eqGraphS, hl']
    refine wpLoop_st (fun (i : Nat) => ⟨tl [(0, .sl (grsA xs) false), (1, .sl (grsA ys) false), (5, .int .i64 i)], ⟨[]⟩⟩) (fun i => i ≤ xs.length ∧ xs.take i = ys.take i) (fun i => xs.length - i) 0 ⟨by omega, rfl⟩ (Sub.keep (by simp) (by simp [hsub]) (by simp)) ?_
    rintro i ⟨h1, h2⟩
    simp -dsimp -implicitDefEqProofs
    refine brW_of (fun h => ?_) (fun h => ?_) <;> simp only [decide_eq_true_eq, decide_eq_false_iff_not] at h
    · have hi : i < xs.length := by omega
      have hj : i < ys.length := by omega
      have hw := wrapNat (i := i) (by omega)
      by_cases he : xs[i] = ys[i]
      · have he' : (xs[i].n == ys[i].n && xs[i].e == ys[i].e) = true := by simp [he]
        simp -dsimp -implicitDefEqProofs [hi, hj, he', hw]
        refine .mk (i + 1) ⟨by omega, ?_⟩ (by omega) (Sub.keep (by simp) (by simp [hsub]) (by simp [hw]))
        rw [take_snoc xs i hi, take_snoc ys i hj, h2, he]
      · have he' : (xs[i].n == ys[i].n && xs[i].e == ys[i].e) = false := by
          cases hv : (xs[i].n == ys[i].n && xs[i].e == ys[i].e) with
          | false => rfl
          | true =>
            exfalso; apply he
            simp only [Bool.and_eq_true, beq_iff_eq] at hv
            cases hx : xs[i]; cases hy : ys[i]
            simp_all
        have hne : ¬ xs = ys := fun e => he (by subst e; rfl)
        simp -dsimp -implicitDefEqProofs [hi, hj, he', hne]
    · have hi : i = xs.length := by omega
      subst hi
      rw [List.take_length, hl, List.take_length] at h2
      simp -dsimp -implicitDefEqProofs [h2]
  · have hl' : ((xs.length : Int) != ys.length) = true := by simp; omega
    have hne : ¬ xs = ys := fun e => hl (by rw [e])
    simp -dsimp -implicitDefEqProofs [c_laws_eqGraphS, r_laws_eqGraphS, hl', hne]
theorem forb_zero {gs : List Gr} (h : forbC gs = 0) : allGr gs = true ∧ gs.length ≤ 6 := by
  unfold forbC at h
  split at h
  · cases h
  · rename_i h1
    split at h
    · cases h
    · exact ⟨by simpa using h1, by omega⟩
theorem grsA_cells (l : List Gr) : ∀ x ∈ grsA l, x.cells.length = 2 ∧ ltL 0 x.cells = true := by
  intro x hx
  obtain ⟨p, _, rfl⟩ := List.mem_map.1 hx
  exact ⟨rfl, rfl⟩
noncomputable def sp_toGraphSV : List AV → Option (AV) := pf (ι := (List Gr)) (α := AV) (fun l => l.length ≤ 1048576) (fun l => [.sl (grsA l) false]) (fun l => .sl (grsA l) false)
theorem sp_toGraphSV_eq (l : List Gr) (h : l.length ≤ 1048576) : sp_toGraphSV [.sl (grsA l) false] = some (.sl (grsA l) false) := by
  unfold sp_toGraphSV
  exact pf_eq (ι := (List Gr)) (α := AV) l h (by rintro l' _ e; simp_all [Int.natCast_inj])
theorem q_laws_toGraphS : QP PP 25 sp_toGraphSV := by
  refine QP_pf (fun l h => ?_) fun l h => ?_
  · exact ⟨by first | rfl | simp, by first | rfl | simp⟩
  replace h : l.length ≤ 1048576 := h
  refine P_code (Quiet.q1 q_laws_toGraph Quiet.nil) hmix k_laws_toGraphS rfl ?_ ?_
  · first | rfl | simp
  show wpc 0 PP _ c_laws_toGraphS (initSt [.sl (grsA l) false] .nil) (endP r_laws_toGraphS (.sl (grsA l) false))
  have hm : (l.length : Int) * 17 ≤ (mostBytes : Int) := by simp only [mostBytes]; omega
  simp -dsimp -implicitDefEqProofs [c_laws_toGraphS, r_laws_toGraphS, hm]
  refine wpLoop_st (fun (i : Nat × List AV) => ⟨tl [(0, .sl (grsA l) false), (3, .ref 0 2 0 l.length .tight), (4, .int .i64 i.1)], ⟨[some i.2]⟩⟩) (fun i => i.1 ≤ l.length ∧ Filled 2 i.2 (grsA l) i.1 ∧ ltL 0 i.2 = true) (fun i => l.length - i.1) (0, newCells 2 l.length [.int .i64 0, .int .u32 0])
    ⟨Nat.zero_le _, Filled.zero (by simp [newCells, flat_len]), newCells_lt 2 l.length rfl⟩ (Sub.keep (by simp) (by
      have := newCells_lt (n := 1) 2 l.length (z := [.int .i64 0, .int .u32 0]) rfl
      simp [hsub, renL_id] at this ⊢) (by simp)) ?_
  rintro ⟨i, cs⟩ ⟨h1, h2, h3⟩
  simp -dsimp -implicitDefEqProofs
  refine brW_of (fun h => ?_) (fun h => ?_) <;> simp only [decide_eq_true_eq, decide_eq_false_iff_not] at h
  · have hi : i < l.length := by omega
    have hw := wrapNat (i := i) (by omega)
    have hl : cs.length = l.length * 2 := by have := h2.len; rw [mapA_length] at this; exact this
    have hfit : i * 2 + 2 ≤ cs.length := by omega
    simp -dsimp -implicitDefEqProofs [hi, hfit, hw]
    refine .mk (i + 1, setCells cs (i * 2) (grA l[i]).cells) ⟨by simp only; omega, h2.step (by simp [hi]) rfl, setCells_lt _ _ _ h3 rfl⟩ (by simp only; omega) (Sub.keep (by simp) ?_ (by simp))
    have := setCells_lt (n := 1) _ (i * 2) (grA l[i]).cells (ltL_mono (Nat.zero_le 1) _ h3) rfl
    simp [hsub, renL_id, setCells] at this ⊢
    exact this
  · have hi : i = l.length := by omega
    subst hi
    simp -dsimp -implicitDefEqProofs
    have h2' : Filled 2 cs (grsA l) (grsA l).length := by rw [mapA_length]; exact h2
    have hl : cs.length = l.length * 2 := by have := h2.len; rw [mapA_length] at this; exact this
    refine ⟨_, Shift.tmp (k := 2) (b := 0) (e := 2) (o := 0) (n := l.length) (xs := grsA l) (t' := false) (t := .tight) (cs := cs) (by simp -dsimp) (by simp -dsimp) (by simp) (by omega) (by simp) (grsA_cells l) (.inl (by rw [h2'.all (fun x hx => (grsA_cells l x hx).1) (by omega)]; simp [← hl])), ?_⟩
    simp -dsimp -implicitDefEqProofs
end Go.Proofs.YtgophedkejgedaaGreatDoorAi
end

section
/- Contracts: sums inside statements (the reference hands on a pointer into a statement). -/
namespace Go.Proofs.YtgophedkejgedaaGreatDoorAi
open Go Go.RowKit
set_option linter.unusedVariables false
set_option linter.unusedSimpArgs false
set_option maxRecDepth 20000

abbrev stO (gs : List Gr) (tn te s : Int) (L : List Tm) (p q : Int) : List AV := [.sl (grsA gs) false, .int .i64 tn, .int .u32 te, .int .i64 s, .sl (tmsA L) false, .int .i64 p, .int .i64 q]
noncomputable def sp_l05OkS : List (Option (List AV)) → List AV → Option (AV × List (Option (List AV))) := pv (pf (ι := (List Gr) × (Int) × (Int) × (Int) × (List Tm) × (Int) × (Int)) (α := AV × List (Option (List AV))) (fun ⟨gs, tn, te, s, L, p, q⟩ => (0 ≤ te ∧ te ≤ 4294967295) ∧ L.length ≤ maxLen ∧ u32L L) (fun i => .agg (((fun ⟨gs, tn, te, s, L, p, q⟩ => [some [.sl (grsA gs) false, .int .i64 tn, .int .u32 te, .int .i64 s, .sl (tmsA L) false, .int .i64 p, .int .i64 q]] : (List Gr) × (Int) × (Int) × (Int) × (List Tm) × (Int) × (Int) → List (Option (List AV))) i).map enO) :: (fun ⟨gs, tn, te, s, L, p, q⟩ => [.ptr 0 1] : (List Gr) × (Int) × (Int) × (Int) × (List Tm) × (Int) × (Int) → List AV) i) (fun ⟨gs, tn, te, s, L, p, q⟩ => (.bool (sumB tn te s L), [some [.sl (grsA gs) false, .int .i64 tn, .int .u32 te, .int .i64 s, .sl (tmsA L) false, .int .i64 p, .int .i64 q]])))
theorem sp_l05OkS_eq (gs : List Gr) (tn te s : Int) (L : List Tm) (p q : Int) (h : (0 ≤ te ∧ te ≤ 4294967295) ∧ L.length ≤ maxLen ∧ u32L L) : sp_l05OkS [some [.sl (grsA gs) false, .int .i64 tn, .int .u32 te, .int .i64 s, .sl (tmsA L) false, .int .i64 p, .int .i64 q]] [.ptr 0 1] = some (.bool (sumB tn te s L), [some [.sl (grsA gs) false, .int .i64 tn, .int .u32 te, .int .i64 s, .sl (tmsA L) false, .int .i64 p, .int .i64 q]]) := by
  unfold sp_l05OkS pv
  exact pf_eq (ι := (List Gr) × (Int) × (Int) × (Int) × (List Tm) × (Int) × (Int)) (α := AV × List (Option (List AV))) (gs, tn, te, s, L, p, q) h (by rintro ⟨gs', tn', te', s', L', p', q'⟩ _ e; simp_all [enO, Int.natCast_inj])
namespace Stm
set_option maxHeartbeats 4000000 in
theorem v_spec_l05Ok : QV PP 48 sp_l05OkS := by
  refine QV_pf fun i h => ?_
  obtain ⟨gs, tn, te, s, L, p, q⟩ := i
  replace h : (0 ≤ te ∧ te ≤ 4294967295) ∧ L.length ≤ maxLen ∧ u32L L := h
  refine H_code (Quiet.q1 q_spec_l01Ok (Quiet.q1 q_spec_l05Frame (Quiet.q1 q_spec_l03Ok (Quiet.q1 q_spec_l05Fits (Quiet.q1 q_spec_l03Least (Quiet.q1 q_spec_l02Ok Quiet.nil)))))) hmix k_spec_l05Ok rfl (fun b => b) (by simp [AHeap.n]) (fun _ _ => rfl) (by rfl) (by first | rfl | simp) ?_
  show wpc _ PP _ c_spec_l05Ok (initSt [.ptr 0 1] ⟨[some [.sl (grsA gs) false, .int .i64 tn, .int .u32 te, .int .i64 s, .sl (tmsA L) false, .int .i64 p, .int .i64 q]]⟩) (endH (fun b => b) r_spec_l05Ok (.bool (sumB tn te s L)) [some [.sl (grsA gs) false, .int .i64 tn, .int .u32 te, .int .i64 s, .sl (tmsA L) false, .int .i64 p, .int .i64 q]])
  obtain ⟨hte, hl, hu⟩ := h
  simp only [maxLen] at hl
  have hg := sp_graphOk_eq tn te hte
  have hs := sp_span_eq tn te s hte
  cases h1 : graphOk tn te with
  | false =>
    rw [h1] at hg
    have hm := sumB_false (tn := tn) (te := te) (s := s) (L := L) (fun h => by have := h.1.1; rw [h1] at this; cases this)
    simp -dsimp -implicitDefEqProofs [hsub, c_spec_l05Ok, r_spec_l05Ok, hg, hm]
  | true =>
    rw [h1] at hg
    cases h2 : spanB tn s with
    | false =>
      rw [h2] at hs
      have hm := sumB_false (tn := tn) (te := te) (s := s) (L := L) (fun h => by have := h.1.2.1; rw [h2] at this; cases this)
      simp -dsimp -implicitDefEqProofs [hsub, c_spec_l05Ok, r_spec_l05Ok, hg, hs, hm]
    | true =>
      rw [h2] at hs
      by_cases h64 : L.length ≤ 64
      · have h64' : ¬ (64 : Int) < L.length := by omega
        simp -dsimp -implicitDefEqProofs [hsub, c_spec_l05Ok, r_spec_l05Ok, hg, hs, h64']
        refine wpLoop_st (fun (i : Nat) => ⟨tl [(0, .ptr 0 1), (3, .int .i64 i)], ⟨[some [.sl (grsA gs) false, .int .i64 tn, .int .u32 te, .int .i64 s, .sl (tmsA L) false, .int .i64 p, .int .i64 q]]⟩⟩) (fun i => i ≤ L.length ∧ ∀ i', i' < i → okTm tn te s L i') (fun i => L.length - i) 0 ⟨by omega, fun i' h => by omega⟩ (Sub.keep (by simp) (by simp [hsub]) (by simp)) ?_
        rintro i ⟨hi, hok⟩
        simp -dsimp -implicitDefEqProofs
        refine brW_of (fun h => ?_) (fun h => ?_) <;> simp only [decide_eq_true_eq, decide_eq_false_iff_not] at h
        · have hx : i < L.length := by omega
          have hwi := wrapNat (i := i) (by omega)
          have hue := hu L[i] (List.getElem_mem hx)
          have hf := sp_flagOk_eq L[i].k L[i].n L[i].e hue
          have hbad := sum_bad (tn := tn) (te := te) (s := s) hx
          unfold termB at hbad
          cases c1 : flagOk L[i].k L[i].n L[i].e with
          | false =>
            rw [c1] at hf hbad
            simp -dsimp -implicitDefEqProofs [hsub, hx, hf, hbad rfl]
          | true =>
            rw [c1] at hf hbad
            have hft := fits_of tn te s c1 hue
            have hls := leastF_of c1 hue
            cases c2 : fitTB L[i].k L[i].n L[i].e tn te s with
            | false =>
              rw [c2] at hft hbad
              simp -dsimp -implicitDefEqProofs [hsub, hx, hf, hft, hbad rfl]
            | true =>
              rw [c2] at hft hbad
              cases c3 : (((leastE L[i].n.toNat L[i].k.toNat L[i].e.toNat : Nat) : Int) == L[i].e) with
              | false =>
                rw [c3] at hbad
                simp -dsimp -implicitDefEqProofs [hsub, hx, hf, hft, hls, c3, hbad rfl]
              | true =>
                rw [c3] at hbad
                rcases i with _ | j
                · cases c4 : frOk L[0].p L[0].q with
                  | false =>
                    rw [c4] at hbad
                    simp -dsimp -implicitDefEqProofs [hsub, hx, hf, hft, hls, c3, c4, hbad rfl]
                  | true =>
                    rw [c4] at hbad
                    cases c5 : (L[0].p == 0) with
                    | true =>
                      rw [c5] at hbad
                      simp -dsimp -implicitDefEqProofs [hsub, hx, hf, hft, hls, c3, c4, c5, hbad rfl]
                    | false =>
                      have hgood : termB tn te s L[0] = true := by unfold termB; rw [c1, c2, c3, c4, c5]; rfl
                      simp -dsimp -implicitDefEqProofs [hsub, hx, hf, hft, hls, c3, c4, c5, hwi]
                      have w1 : IntKind.wrap .i64 1 = 1 := rfl
                      exact .mk 1 ⟨by omega, fun i' h' => by
                        obtain rfl : i' = 0 := by omega
                        exact fun _ => ⟨hgood, fun j hj => by omega⟩⟩ (by omega) (Sub.keep (by simp) (by simp [hsub]) (by simp [w1]))
                · have hj : j < L.length := by omega
                  have hp : (0 : Int) < ((j : Int) + 1) := by omega
                  have hp0 : (0 : Int) ≤ ((j : Int) + 1) := by omega
                  have hwj : IntKind.wrap .i64 (j : Int) = j := wrapI64 (by omega) (by omega)
                  by_cases c6 : L[j + 1].e ≤ L[j].e
                  · have hm := sum_bad2 (tn := tn) (te := te) (s := s) hx (by omega)
                    simp -dsimp -implicitDefEqProofs [hsub, hx, hf, hft, hls, c3, hj, hp, hp0, hwj, c6, hm]
                  · cases c4 : frOk L[j + 1].p L[j + 1].q with
                    | false =>
                      rw [c4] at hbad
                      simp -dsimp -implicitDefEqProofs [hsub, hx, hf, hft, hls, c3, c4, hj, hp, hp0, hwj, c6, hbad rfl]
                    | true =>
                      rw [c4] at hbad
                      cases c5 : (L[j + 1].p == 0) with
                      | true =>
                        rw [c5] at hbad
                        simp -dsimp -implicitDefEqProofs [hsub, hx, hf, hft, hls, c3, c4, c5, hj, hp, hp0, hwj, c6, hbad rfl]
                      | false =>
                        have hgood : termB tn te s L[j + 1] = true := by unfold termB; rw [c1, c2, c3, c4, c5]; rfl
                        simp -dsimp -implicitDefEqProofs [hsub, hx, hf, hft, hls, c3, c4, c5, hj, hp, hp0, hwj, c6, hwi]
                        have hw2 : IntKind.wrap .i64 ((j : Int) + 1 + 1) = (j : Int) + 1 + 1 := wrapI64 (by omega) (by omega)
                        exact .mk (j + 1 + 1) ⟨by omega, fun i' h' => by
                          by_cases e : i' = j + 1
                          · subst e; exact fun _ => ⟨hgood, fun j' hj' => by
                              obtain rfl : j' = j := by omega
                              omega⟩
                          · exact hok i' (by omega)⟩ (by omega) (Sub.keep (by simp) (by simp [hsub]) (by simp [hw2]))
        · have : i = L.length := by omega
          subst this
          have hm := sumB_true (tn := tn) (te := te) (s := s) (L := L) ⟨⟨h1, h2, h64⟩, hok⟩
          simp -dsimp -implicitDefEqProofs [hsub, hm]
      · have h64' : (64 : Int) < L.length := by omega
        have hm := sumB_false (tn := tn) (te := te) (s := s) (L := L) (fun h => h64 h.1.2.2)
        simp -dsimp -implicitDefEqProofs [hsub, c_spec_l05Ok, r_spec_l05Ok, hg, hs, h64', hm]
end Stm
theorem e_l05OkS : QE PP 48 (spV sp_l05OkS) := Stm.v_spec_l05Ok.toE
noncomputable def sp_l05TextS : List (Option (List AV)) → List AV → Option (AV × List (Option (List AV))) := pv (pf (ι := (List Gr) × (Int) × (Int) × (Int) × (List Tm) × (Int) × (Int)) (α := AV × List (Option (List AV))) (fun ⟨gs, tn, te, s, L, p, q⟩ => sumInH tn te s L) (fun i => .agg (((fun ⟨gs, tn, te, s, L, p, q⟩ => [some [.sl (grsA gs) false, .int .i64 tn, .int .u32 te, .int .i64 s, .sl (tmsA L) false, .int .i64 p, .int .i64 q]] : (List Gr) × (Int) × (Int) × (Int) × (List Tm) × (Int) × (Int) → List (Option (List AV))) i).map enO) :: (fun ⟨gs, tn, te, s, L, p, q⟩ => [.ptr 0 1] : (List Gr) × (Int) × (Int) × (Int) × (List Tm) × (Int) × (Int) → List AV) i) (fun ⟨gs, tn, te, s, L, p, q⟩ => (.str (sumX tn te s L), [some [.sl (grsA gs) false, .int .i64 tn, .int .u32 te, .int .i64 s, .sl (tmsA L) false, .int .i64 p, .int .i64 q]])))
theorem sp_l05TextS_eq (gs : List Gr) (tn te s : Int) (L : List Tm) (p q : Int) (h : sumInH tn te s L) : sp_l05TextS [some [.sl (grsA gs) false, .int .i64 tn, .int .u32 te, .int .i64 s, .sl (tmsA L) false, .int .i64 p, .int .i64 q]] [.ptr 0 1] = some (.str (sumX tn te s L), [some [.sl (grsA gs) false, .int .i64 tn, .int .u32 te, .int .i64 s, .sl (tmsA L) false, .int .i64 p, .int .i64 q]]) := by
  unfold sp_l05TextS pv
  exact pf_eq (ι := (List Gr) × (Int) × (Int) × (Int) × (List Tm) × (Int) × (Int)) (α := AV × List (Option (List AV))) (gs, tn, te, s, L, p, q) h (by rintro ⟨gs', tn', te', s', L', p', q'⟩ _ e; simp_all [enO, Int.natCast_inj])
namespace Stm
theorem v_spec_l05Text : QV PP 49 sp_l05TextS := by
  refine QV_pf fun i h => ?_
  obtain ⟨gs, tn, te, s, L, p, q⟩ := i
  replace h : sumInH tn te s L := h
  refine H_code (Quiet.q1 q_spec_Decimal (Quiet.q1 q_spec_GraphText (Quiet.q1 q_spec_FractionText Quiet.nil))) hmix k_spec_l05Text rfl (fun b => b) (by simp [AHeap.n]) (fun _ _ => rfl) (by rfl) (by first | rfl | simp) ?_
  show wpc _ PP _ c_spec_l05Text (initSt [.ptr 0 1] ⟨[some [.sl (grsA gs) false, .int .i64 tn, .int .u32 te, .int .i64 s, .sl (tmsA L) false, .int .i64 p, .int .i64 q]]⟩) (endH (fun b => b) r_spec_l05Text (.str (sumX tn te s L)) [some [.sl (grsA gs) false, .int .i64 tn, .int .u32 te, .int .i64 s, .sl (tmsA L) false, .int .i64 p, .int .i64 q]])
  obtain ⟨⟨hte, hg⟩, hs, hl, hr⟩ := h
  have htn := graphOk_in hg
  have hd := sp_decS_eq s (by omega)
  have ht := sp_graphText_eq tn te hte
  have hgt : graphT tn te = grT te tn.toNat := by unfold graphT; rw [if_pos hg]
  rw [hgt] at ht
  have s0 := decB_size s (by omega) (by omega)
  have s1 := grT_size (e := te) (n := tn.toNat) (by omega)
  have z1 : 4 + (decB s).size ≤ 9223372036854775807 := by omega
  have z2 : 4 + (decB s).size + 1 ≤ 9223372036854775807 := by omega
  have z3 : 4 + (decB s).size + 1 + (grT te tn.toNat).size ≤ 9223372036854775807 := by omega
  have z4 : 4 + (decB s).size + 1 + (grT te tn.toNat).size + 1 ≤ 9223372036854775807 := by omega
  have hst := sumX_start (te := te) htn hs
  unfold sumX
  simp -dsimp -implicitDefEqProofs [c_spec_l05Text, r_spec_l05Text, hd, ht, z1, z2, z3, z4]
  refine wpLoop_st (fun (i : Nat) => ⟨tl [(0, .ptr 0 1), (3, .str (tmsW (sumWB ++ decB s ++ sepB ++ grT te tn.toNat ++ lineB) (L.take i))), (4, .int .i64 i)], ⟨[some [.sl (grsA gs) false, .int .i64 tn, .int .u32 te, .int .i64 s, .sl (tmsA L) false, .int .i64 p, .int .i64 q]]⟩⟩) (fun i => i ≤ L.length) (fun i => L.length - i) 0 (by omega) (Sub.keep (by simp) (by simp [hsub]) (by simp [tmsW, sumWB, sepB, lineB])) ?_
  intro i hi
  simp -dsimp -implicitDefEqProofs
  refine brW_of (fun h => ?_) (fun h => ?_) <;> simp only [decide_eq_true_eq, decide_eq_false_iff_not] at h
  · have hx : i < L.length := by omega
    have hwi := wrapNat (i := i) (by omega)
    have hri := hr L[i] (List.getElem_mem hx)
    have hf := sp_fracText_eq L[i].p L[i].q
    have hft : fracT L[i].p L[i].q = frT L[i].p L[i].q := by unfold fracT; rw [if_pos hri.1]
    rw [hft] at hf
    have hgx := sp_graphText_eq L[i].n L[i].e hri.2.2
    have hgx2 : graphT L[i].n L[i].e = grT L[i].e L[i].n.toNat := by unfold graphT; rw [if_pos hri.2.1]
    rw [hgx2] at hgx
    have hsn := tmsW_snoc (sumWB ++ decB s ++ sepB ++ grT te tn.toNat ++ lineB) L i hx
    have s2 := tmsW_size (L.take i) (fun r hr' => hr r (List.mem_of_mem_take hr')) (sumWB ++ decB s ++ sepB ++ grT te tn.toNat ++ lineB)
    have s3 : (L.take i).length ≤ 64 := by rw [List.length_take]; omega
    have s4 := tmT_size hri
    generalize sumWB ++ decB s ++ sepB ++ grT te tn.toNat ++ lineB = W0 at *
    unfold tmT at hsn s4
    have e1 : sepB.size = 1 := rfl
    have e2 : lineB.size = 1 := rfl
    simp only [ByteArray.size_append] at s4
    generalize tmsW W0 (L.take i) = W at *
    generalize frT L[i].p L[i].q = F at *
    generalize grT L[i].e L[i].n.toNat = G at *
    have y1 : F.size + 1 ≤ 9223372036854775807 := by omega
    have y2 : F.size + 1 + G.size ≤ 9223372036854775807 := by omega
    have y3 : F.size + 1 + G.size + 1 ≤ 9223372036854775807 := by omega
    have y4 : W.size + (F.size + 1 + G.size + 1) ≤ 9223372036854775807 := by omega
    simp -dsimp -implicitDefEqProofs [hx, hwi, hf, hft, hgx, y1, y2, y3, y4]
    exact .mk (i + 1) (by omega) (by omega) (Sub.keep (by simp) (by simp [hsub]) (by simp [hsn, sepB, lineB, hwi]))
  · obtain rfl : i = L.length := by omega
    simp -dsimp -implicitDefEqProofs [hsub]
end Stm
theorem e_l05TextS : QE PP 49 (spV sp_l05TextS) := Stm.v_spec_l05Text.toE
end Go.Proofs.YtgophedkejgedaaGreatDoorAi
end

section
/- Contracts: statements: validity, texts. -/
namespace Go.Proofs.YtgophedkejgedaaGreatDoorAi
open Go Go.RowKit
set_option linter.unusedVariables false
set_option linter.unusedSimpArgs false
set_option maxRecDepth 20000

noncomputable def stB (gs : List Gr) (tn te s : Int) (L : List Tm) (p q : Int) : Bool := (((forbC gs == 0) && sumB tn te s L) && (tn == 0)) && frOk p q
abbrev stH (gs : List Gr) (te : Int) (L : List Tm) : Prop := (gs.length ≤ maxLen ∧ grsIn gs) ∧ (0 ≤ te ∧ te ≤ 4294967295) ∧ L.length ≤ maxLen ∧ u32L L
noncomputable def sp_validSt : List AV → Option (AV) := pf (ι := (List Gr) × (Int) × (Int) × (Int) × (List Tm) × (Int) × (Int)) (α := AV) (fun ⟨gs, tn, te, s, L, p, q⟩ => stH gs te L) (fun ⟨gs, tn, te, s, L, p, q⟩ => [.agg [.sl (grsA gs) false, .int .i64 tn, .int .u32 te, .int .i64 s, .sl (tmsA L) false, .int .i64 p, .int .i64 q]]) (fun ⟨gs, tn, te, s, L, p, q⟩ => .bool (stB gs tn te s L p q))
theorem sp_validSt_eq (gs : List Gr) (tn te s : Int) (L : List Tm) (p q : Int) (h : stH gs te L) : sp_validSt [.agg [.sl (grsA gs) false, .int .i64 tn, .int .u32 te, .int .i64 s, .sl (tmsA L) false, .int .i64 p, .int .i64 q]] = some (.bool (stB gs tn te s L p q)) := by
  unfold sp_validSt
  exact pf_eq (ι := (List Gr) × (Int) × (Int) × (Int) × (List Tm) × (Int) × (Int)) (α := AV) (gs, tn, te, s, L, p, q) h (by rintro ⟨gs', tn', te', s', L', p', q'⟩ _ e; simp_all [Int.natCast_inj])
theorem q_impl_ValidStatement : QP PP 28 sp_validSt := by
  refine QP_pf (fun i h => ?_) fun i h => ?_
  · obtain ⟨gs, tn, te, s, L, p, q⟩ := i; exact ⟨by first | rfl | simp, by first | rfl | simp⟩
  obtain ⟨gs, tn, te, s, L, p, q⟩ := i
  replace h : stH gs te L := h
  refine P_code (Quiet.q1 q_impl_forbiddenOk (Quiet.q1 q_impl_ValidSum (Quiet.q1 q_impl_ValidFraction Quiet.nil))) hmix k_impl_ValidStatement rfl ?_ ?_
  · first | rfl | simp
  show wpc 0 PP _ c_impl_ValidStatement (initSt [.agg [.sl (grsA gs) false, .int .i64 tn, .int .u32 te, .int .i64 s, .sl (tmsA L) false, .int .i64 p, .int .i64 q]] .nil) (endP r_impl_ValidStatement (.bool (stB gs tn te s L p q)))
  have h1 := sp_forbP_eq gs h.1
  have h2 := sp_sumOk_eq tn te s L h.2
  unfold stB
  cases c1 : (forbC gs == 0) <;> cases c2 : sumB tn te s L <;> cases c3 : (tn == 0) <;> rw [c2] at h2 <;> simp -dsimp -implicitDefEqProofs [c_impl_ValidStatement, r_impl_ValidStatement, h1, h2, c1, c3]
noncomputable def sp_l06Statement : List AV → List AV → Option (AV × List AV) := pm (pf (ι := (List Gr) × (Int) × (Int) × (Int) × (List Tm) × (Int) × (Int)) (α := AV × List AV) (fun ⟨gs, tn, te, s, L, p, q⟩ => stH gs te L) (fun i => .agg ((fun ⟨gs, tn, te, s, L, p, q⟩ => [.sl (grsA gs) false, .int .i64 tn, .int .u32 te, .int .i64 s, .sl (tmsA L) false, .int .i64 p, .int .i64 q] : (List Gr) × (Int) × (Int) × (Int) × (List Tm) × (Int) × (Int) → List AV) i) :: (fun ⟨gs, tn, te, s, L, p, q⟩ => [] : (List Gr) × (Int) × (Int) × (Int) × (List Tm) × (Int) × (Int) → List AV) i) (fun ⟨gs, tn, te, s, L, p, q⟩ => (.bool (stB gs tn te s L p q), [.sl (grsA gs) false, .int .i64 tn, .int .u32 te, .int .i64 s, .sl (tmsA L) false, .int .i64 p, .int .i64 q])))
theorem sp_l06Statement_eq (gs : List Gr) (tn te s : Int) (L : List Tm) (p q : Int) (h : stH gs te L) : sp_l06Statement [.sl (grsA gs) false, .int .i64 tn, .int .u32 te, .int .i64 s, .sl (tmsA L) false, .int .i64 p, .int .i64 q] [] = some (.bool (stB gs tn te s L p q), [.sl (grsA gs) false, .int .i64 tn, .int .u32 te, .int .i64 s, .sl (tmsA L) false, .int .i64 p, .int .i64 q]) := by
  unfold sp_l06Statement pm
  exact pf_eq (ι := (List Gr) × (Int) × (Int) × (Int) × (List Tm) × (Int) × (Int)) (α := AV × List AV) (gs, tn, te, s, L, p, q) h (by rintro ⟨gs', tn', te', s', L', p', q'⟩ _ e; simp_all [Int.natCast_inj])
theorem m_spec_l06Statement : QM PP 23 sp_l06Statement := by
  refine QM_pf (fun i h => ?_) fun i h => ?_
  · obtain ⟨gs, tn, te, s, L, p, q⟩ := i; exact ⟨⟨by first | rfl | simp, by first | rfl | simp⟩, by first | rfl | simp, by first | rfl | simp⟩
  obtain ⟨gs, tn, te, s, L, p, q⟩ := i
  replace h : stH gs te L := h
  refine H_code (Quiet.q1 q_spec_l01Forbidden (Quiet.q1 q_spec_l02Ok (Quiet.e1 e_l05OkS Quiet.nil))) hmix k_spec_l06Statement rfl (fun b => b) (Nat.le_refl _) (fun _ _ => rfl) rfl (by first | rfl | simp) ?_
  show wpc 1 PP _ c_spec_l06Statement (initSt [.ptr 0 0] ⟨[some [.sl (grsA gs) false, .int .i64 tn, .int .u32 te, .int .i64 s, .sl (tmsA L) false, .int .i64 p, .int .i64 q]]⟩) (endH (fun b => b) r_spec_l06Statement (.bool (stB gs tn te s L p q)) [some [.sl (grsA gs) false, .int .i64 tn, .int .u32 te, .int .i64 s, .sl (tmsA L) false, .int .i64 p, .int .i64 q]])
  have h1 := sp_forbP_eq gs h.1
  have h2 := sp_l05OkS_eq gs tn te s L p q h.2
  unfold stB
  cases c1 : (forbC gs == 0) <;> cases c2 : sumB tn te s L <;> cases c3 : (tn == 0) <;> rw [c2] at h2 <;> simp -dsimp -implicitDefEqProofs [c_spec_l06Statement, r_spec_l06Statement, h1, h2, c1, c3, hsub]
def stWB : ByteArray := ⟨#[115, 116, 97, 116, 101, 109, 101, 110, 116, 32]⟩
def woB : ByteArray := ⟨#[119, 105, 116, 104, 111, 117, 116, 32]⟩
def grL (x : Gr) : ByteArray := woB ++ grT x.e x.n.toNat ++ lineB
def grW (w : ByteArray) (gs : List Gr) : ByteArray := gs.foldl (fun w x => w ++ grL x) w
def stX (gs : List Gr) (tn te s : Int) (L : List Tm) (p q : Int) : ByteArray := grW (stWB ++ frT p q ++ lineB) gs ++ sumX tn te s L
theorem grW_snoc (w : ByteArray) (L : List Gr) (i : Nat) (h : i < L.length) : grW w (L.take (i + 1)) = grW w (L.take i) ++ grL L[i] := by
  rw [take_snoc L i h]; unfold grW; rw [List.foldl_append]; rfl
def okGrs (gs : List Gr) : Prop := (∀ x ∈ gs, graphOk x.n x.e = true ∧ 0 ≤ x.e ∧ x.e ≤ 4294967295) ∧ gs.length ≤ 6
theorem grL_size {x : Gr} (h : graphOk x.n x.e = true) : (grL x).size ≤ 1300 := by
  have hn := graphOk_in h
  have h2 := grT_size (e := x.e) (n := x.n.toNat) (by omega)
  have h3 : woB.size = 8 := rfl
  have h4 : lineB.size = 1 := rfl
  unfold grL
  simp only [ByteArray.size_append]
  omega
theorem grW_size (L : List Gr) (h : ∀ x ∈ L, graphOk x.n x.e = true) : ∀ w, (grW w L).size ≤ w.size + L.length * 1300 := by
  induction L with
  | nil => intro w; simp [grW]
  | cons r M ih =>
    intro w
    have h1 := ih (fun y hy => h y (List.mem_cons_of_mem _ hy)) (w ++ grL r)
    have h2 := grL_size (h r (List.mem_cons_self ..))
    show (grW (w ++ grL r) M).size ≤ _
    simp only [ByteArray.size_append] at h1
    rw [List.length_cons]
    omega
theorem sumX_size {tn te s : Int} {L : List Tm} (h : sumInH tn te s L) : (sumX tn te s L).size ≤ 100000 := by
  obtain ⟨⟨hte, hg⟩, hs, hl, hr⟩ := h
  have htn := graphOk_in hg
  have h1 := sumX_start (te := te) htn hs
  have h2 := tmsW_size L hr (sumWB ++ decB s ++ sepB ++ grT te tn.toNat ++ lineB)
  unfold sumX
  omega
theorem st_in {gs : List Gr} {tn te s : Int} {L : List Tm} {p q : Int} (hb : stB gs tn te s L p q = true) (h : stH gs te L) : okGrs gs ∧ sumInH tn te s L ∧ frOk p q = true := by
  unfold stB at hb
  simp only [Bool.and_eq_true, beq_iff_eq] at hb
  obtain ⟨ha, h6⟩ := forb_zero hb.1.1.1
  exact ⟨⟨fun x hx => ⟨List.all_eq_true.1 ha x hx, h.1.2 x hx⟩, h6⟩, sumB_in hb.1.1.2 h.2.1 h.2.2.2, hb.2⟩
noncomputable def sp_stX : List AV → Option (AV) := pf (ι := (List Gr) × (Int) × (Int) × (Int) × (List Tm) × (Int) × (Int)) (α := AV) (fun ⟨gs, tn, te, s, L, p, q⟩ => okGrs gs ∧ sumInH tn te s L ∧ frOk p q = true) (fun ⟨gs, tn, te, s, L, p, q⟩ => [.agg [.sl (grsA gs) false, .int .i64 tn, .int .u32 te, .int .i64 s, .sl (tmsA L) false, .int .i64 p, .int .i64 q]]) (fun ⟨gs, tn, te, s, L, p, q⟩ => .str (stX gs tn te s L p q))
theorem sp_stX_eq (gs : List Gr) (tn te s : Int) (L : List Tm) (p q : Int) (h : okGrs gs ∧ sumInH tn te s L ∧ frOk p q = true) : sp_stX [.agg [.sl (grsA gs) false, .int .i64 tn, .int .u32 te, .int .i64 s, .sl (tmsA L) false, .int .i64 p, .int .i64 q]] = some (.str (stX gs tn te s L p q)) := by
  unfold sp_stX
  exact pf_eq (ι := (List Gr) × (Int) × (Int) × (Int) × (List Tm) × (Int) × (Int)) (α := AV) (gs, tn, te, s, L, p, q) h (by rintro ⟨gs', tn', te', s', L', p', q'⟩ _ e; simp_all [Int.natCast_inj])
set_option maxHeartbeats 1000000 in
theorem q_impl_statementText : QP PP 29 sp_stX := by
  refine QP_pf (fun i h => ?_) fun i h => ?_
  · obtain ⟨gs, tn, te, s, L, p, q⟩ := i; exact ⟨by first | rfl | simp, by first | rfl | simp⟩
  obtain ⟨gs, tn, te, s, L, p, q⟩ := i
  replace h : okGrs gs ∧ sumInH tn te s L ∧ frOk p q = true := h
  refine P_code (Quiet.q1 q_impl_Fraction_text (Quiet.q1 q_impl_Graph_text (Quiet.q1 q_impl_FlagSum_text Quiet.nil))) hmix k_impl_statementText rfl ?_ ?_
  · first | rfl | simp
  show wpc 0 PP _ c_impl_statementText (initSt [.agg [.sl (grsA gs) false, .int .i64 tn, .int .u32 te, .int .i64 s, .sl (tmsA L) false, .int .i64 p, .int .i64 q]] .nil) (endP r_impl_statementText (.str (stX gs tn te s L p q)))
  obtain ⟨⟨hgs, h6⟩, hsu, hf⟩ := h
  have hfb := frOk_bd hf
  have hft := sp_frText_eq p q (by omega)
  have hfs : (frT p q).size ≤ 43 := frS_size (x := ⟨p, q⟩) hf
  have hsx := sp_sumX_eq tn te s L hsu
  have hss := sumX_size hsu
  have e0 : stWB.size = 10 := rfl
  have e1 : woB.size = 8 := rfl
  have e2 : lineB.size = 1 := rfl
  have z1 : 10 + (frT p q).size ≤ 9223372036854775807 := by omega
  have z2 : 10 + (frT p q).size + 1 ≤ 9223372036854775807 := by omega
  have hst : (stWB ++ frT p q ++ lineB).size ≤ 60 := by simp only [ByteArray.size_append]; omega
  unfold stX
  simp -dsimp -implicitDefEqProofs [c_impl_statementText, r_impl_statementText, hft, z1, z2]
  refine wpLoop_st (fun (i : Nat) => ⟨tl [(1, .ptr 0 0), (3, .str (grW (stWB ++ frT p q ++ lineB) (gs.take i))), (12, .sl (grsA gs) false), (13, .int .i64 gs.length), (14, .int .i64 i)], ⟨[some [.sl (grsA gs) false, .int .i64 tn, .int .u32 te, .int .i64 s, .sl (tmsA L) false, .int .i64 p, .int .i64 q]]⟩⟩) (fun i => i ≤ gs.length) (fun i => gs.length - i) 0 (by omega) (Sub.keep (by simp) (by simp [hsub]) (by simp [grW, stWB, lineB])) ?_
  intro i hi
  simp -dsimp -implicitDefEqProofs
  refine brW_of (fun h => ?_) (fun h => ?_) <;> simp only [decide_eq_true_eq, decide_eq_false_iff_not] at h
  · have hx : i < gs.length := by omega
    have hwi := wrapNat (i := i) (by omega)
    have hgi := hgs gs[i] (List.getElem_mem hx)
    have hni := graphOk_in hgi.1
    have hgt := sp_graphTx_eq gs[i].n.toNat gs[i].e ⟨by omega, hgi.2⟩
    rw [show ((gs[i].n.toNat : Nat) : Int) = gs[i].n by omega] at hgt
    have hsn := grW_snoc (stWB ++ frT p q ++ lineB) gs i hx
    have s2 := grW_size (gs.take i) (fun r hr' => (hgs r (List.mem_of_mem_take hr')).1) (stWB ++ frT p q ++ lineB)
    have s3 : (gs.take i).length ≤ 6 := by rw [List.length_take]; omega
    have s4 := grL_size hgi.1
    generalize stWB ++ frT p q ++ lineB = W0 at *
    unfold grL at hsn s4
    simp only [ByteArray.size_append] at s4
    generalize grW W0 (gs.take i) = W at *
    generalize grT gs[i].e gs[i].n.toNat = G at *
    have y1 : 8 + G.size ≤ 9223372036854775807 := by omega
    have y2 : 8 + G.size + 1 ≤ 9223372036854775807 := by omega
    have y3 : W.size + (8 + G.size + 1) ≤ 9223372036854775807 := by omega
    simp -dsimp -implicitDefEqProofs [hx, hwi, hgt, y1, y2, y3]
    exact .mk (i + 1) (by omega) (by omega) (Sub.keep (by simp) (by simp [hsub]) (by simp [hsn, woB, lineB, hwi]))
  · obtain rfl : i = gs.length := by omega
    have s2 := grW_size gs (fun r hr' => (hgs r hr').1) (stWB ++ frT p q ++ lineB)
    rw [List.take_length]
    generalize stWB ++ frT p q ++ lineB = W0 at *
    have y4 : (grW W0 gs).size + (sumX tn te s L).size ≤ 9223372036854775807 := by omega
    simp -dsimp -implicitDefEqProofs [hsx, y4]
noncomputable def sp_l06Stated : List AV → List AV → Option (AV × List AV) := pm (pf (ι := (List Gr) × (Int) × (Int) × (Int) × (List Tm) × (Int) × (Int)) (α := AV × List AV) (fun ⟨gs, tn, te, s, L, p, q⟩ => okGrs gs ∧ sumInH tn te s L ∧ frOk p q = true) (fun i => .agg ((fun ⟨gs, tn, te, s, L, p, q⟩ => [.sl (grsA gs) false, .int .i64 tn, .int .u32 te, .int .i64 s, .sl (tmsA L) false, .int .i64 p, .int .i64 q] : (List Gr) × (Int) × (Int) × (Int) × (List Tm) × (Int) × (Int) → List AV) i) :: (fun ⟨gs, tn, te, s, L, p, q⟩ => [] : (List Gr) × (Int) × (Int) × (Int) × (List Tm) × (Int) × (Int) → List AV) i) (fun ⟨gs, tn, te, s, L, p, q⟩ => (.str (stX gs tn te s L p q), [.sl (grsA gs) false, .int .i64 tn, .int .u32 te, .int .i64 s, .sl (tmsA L) false, .int .i64 p, .int .i64 q])))
theorem sp_l06Stated_eq (gs : List Gr) (tn te s : Int) (L : List Tm) (p q : Int) (h : okGrs gs ∧ sumInH tn te s L ∧ frOk p q = true) : sp_l06Stated [.sl (grsA gs) false, .int .i64 tn, .int .u32 te, .int .i64 s, .sl (tmsA L) false, .int .i64 p, .int .i64 q] [] = some (.str (stX gs tn te s L p q), [.sl (grsA gs) false, .int .i64 tn, .int .u32 te, .int .i64 s, .sl (tmsA L) false, .int .i64 p, .int .i64 q]) := by
  unfold sp_l06Stated pm
  exact pf_eq (ι := (List Gr) × (Int) × (Int) × (Int) × (List Tm) × (Int) × (Int)) (α := AV × List AV) (gs, tn, te, s, L, p, q) h (by rintro ⟨gs', tn', te', s', L', p', q'⟩ _ e; simp_all [Int.natCast_inj])
set_option maxHeartbeats 1000000 in
theorem m_spec_l06Stated : QM PP 24 sp_l06Stated := by
  refine QM_pf (fun i h => ?_) fun i h => ?_
  · obtain ⟨gs, tn, te, s, L, p, q⟩ := i; exact ⟨⟨by first | rfl | simp, by first | rfl | simp⟩, by first | rfl | simp, by first | rfl | simp⟩
  obtain ⟨gs, tn, te, s, L, p, q⟩ := i
  replace h : okGrs gs ∧ sumInH tn te s L ∧ frOk p q = true := h
  refine H_code (Quiet.q1 q_spec_FractionText (Quiet.q1 q_spec_GraphText (Quiet.e1 e_l05TextS Quiet.nil))) hmix k_spec_l06Stated rfl (fun b => b) (Nat.le_refl _) (fun _ _ => rfl) rfl (by first | rfl | simp) ?_
  show wpc 1 PP _ c_spec_l06Stated (initSt [.ptr 0 0] ⟨[some [.sl (grsA gs) false, .int .i64 tn, .int .u32 te, .int .i64 s, .sl (tmsA L) false, .int .i64 p, .int .i64 q]]⟩) (endH (fun b => b) r_spec_l06Stated (.str (stX gs tn te s L p q)) [some [.sl (grsA gs) false, .int .i64 tn, .int .u32 te, .int .i64 s, .sl (tmsA L) false, .int .i64 p, .int .i64 q]])
  obtain ⟨⟨hgs, h6⟩, hsu, hf⟩ := h
  have hft := sp_fracText_eq p q
  have hft2 : fracT p q = frT p q := by unfold fracT; rw [if_pos hf]
  rw [hft2] at hft
  have hfs : (frT p q).size ≤ 43 := frS_size (x := ⟨p, q⟩) hf
  have hsx := sp_l05TextS_eq gs tn te s L p q hsu
  have hss := sumX_size hsu
  have e0 : stWB.size = 10 := rfl
  have e1 : woB.size = 8 := rfl
  have e2 : lineB.size = 1 := rfl
  have z1 : 10 + (frT p q).size ≤ 9223372036854775807 := by omega
  have z2 : 10 + (frT p q).size + 1 ≤ 9223372036854775807 := by omega
  have hst : (stWB ++ frT p q ++ lineB).size ≤ 60 := by simp only [ByteArray.size_append]; omega
  unfold stX
  simp -dsimp -implicitDefEqProofs [c_spec_l06Stated, r_spec_l06Stated, hft, hft2, z1, z2]
  refine wpLoop_st (fun (i : Nat) => ⟨tl [(0, .ptr 0 0), (3, .str (grW (stWB ++ frT p q ++ lineB) (gs.take i))), (4, .int .i64 i)], ⟨[some [.sl (grsA gs) false, .int .i64 tn, .int .u32 te, .int .i64 s, .sl (tmsA L) false, .int .i64 p, .int .i64 q]]⟩⟩) (fun i => i ≤ gs.length) (fun i => gs.length - i) 0 (by omega) (Sub.keep (by simp) (by simp [hsub]) (by simp [grW, stWB, lineB])) ?_
  intro i hi
  simp -dsimp -implicitDefEqProofs
  refine brW_of (fun h => ?_) (fun h => ?_) <;> simp only [decide_eq_true_eq, decide_eq_false_iff_not] at h
  · have hx : i < gs.length := by omega
    have hwi := wrapNat (i := i) (by omega)
    have hgi := hgs gs[i] (List.getElem_mem hx)
    have hgt := sp_graphText_eq gs[i].n gs[i].e hgi.2
    have hgt2 : graphT gs[i].n gs[i].e = grT gs[i].e gs[i].n.toNat := by unfold graphT; rw [if_pos hgi.1]
    rw [hgt2] at hgt
    have hsn := grW_snoc (stWB ++ frT p q ++ lineB) gs i hx
    have s2 := grW_size (gs.take i) (fun r hr' => (hgs r (List.mem_of_mem_take hr')).1) (stWB ++ frT p q ++ lineB)
    have s3 : (gs.take i).length ≤ 6 := by rw [List.length_take]; omega
    have s4 := grL_size hgi.1
    generalize stWB ++ frT p q ++ lineB = W0 at *
    unfold grL at hsn s4
    simp only [ByteArray.size_append] at s4
    generalize grW W0 (gs.take i) = W at *
    generalize grT gs[i].e gs[i].n.toNat = G at *
    have y1 : 8 + G.size ≤ 9223372036854775807 := by omega
    have y2 : 8 + G.size + 1 ≤ 9223372036854775807 := by omega
    have y3 : W.size + (8 + G.size + 1) ≤ 9223372036854775807 := by omega
    simp -dsimp -implicitDefEqProofs [hx, hwi, hgt, y1, y2, y3]
    exact .mk (i + 1) (by omega) (by omega) (Sub.keep (by simp) (by simp [hsub]) (by simp [hsn, woB, lineB, hwi]))
  · obtain rfl : i = gs.length := by omega
    have s2 := grW_size gs (fun r hr' => (hgs r hr').1) (stWB ++ frT p q ++ lineB)
    rw [List.take_length]
    generalize stWB ++ frT p q ++ lineB = W0 at *
    have y4 : (grW W0 gs).size + (sumX tn te s L).size ≤ 9223372036854775807 := by omega
    simp -dsimp -implicitDefEqProofs [hsx, y4, hsub]
noncomputable def stT (gs : List Gr) (tn te s : Int) (L : List Tm) (p q : Int) : ByteArray := if stB gs tn te s L p q = true then stX gs tn te s L p q else noB
noncomputable def sp_stText : List AV → Option (AV) := pf (ι := (List Gr) × (Int) × (Int) × (Int) × (List Tm) × (Int) × (Int)) (α := AV) (fun ⟨gs, tn, te, s, L, p, q⟩ => stH gs te L) (fun ⟨gs, tn, te, s, L, p, q⟩ => [.agg [.sl (grsA gs) false, .int .i64 tn, .int .u32 te, .int .i64 s, .sl (tmsA L) false, .int .i64 p, .int .i64 q]]) (fun ⟨gs, tn, te, s, L, p, q⟩ => .str (stT gs tn te s L p q))
theorem sp_stText_eq (gs : List Gr) (tn te s : Int) (L : List Tm) (p q : Int) (h : stH gs te L) : sp_stText [.agg [.sl (grsA gs) false, .int .i64 tn, .int .u32 te, .int .i64 s, .sl (tmsA L) false, .int .i64 p, .int .i64 q]] = some (.str (stT gs tn te s L p q)) := by
  unfold sp_stText
  exact pf_eq (ι := (List Gr) × (Int) × (Int) × (Int) × (List Tm) × (Int) × (Int)) (α := AV) (gs, tn, te, s, L, p, q) h (by rintro ⟨gs', tn', te', s', L', p', q'⟩ _ e; simp_all [Int.natCast_inj])
theorem q_impl_StatementText : QP PP 9 sp_stText := by
  refine QP_pf (fun i h => ?_) fun i h => ?_
  · obtain ⟨gs, tn, te, s, L, p, q⟩ := i; exact ⟨by first | rfl | simp, by first | rfl | simp⟩
  obtain ⟨gs, tn, te, s, L, p, q⟩ := i
  replace h : stH gs te L := h
  refine P_code (Quiet.q1 q_impl_ValidStatement (Quiet.q1 q_impl_statementText Quiet.nil)) hmix k_impl_StatementText rfl ?_ ?_
  · first | rfl | simp
  show wpc 0 PP _ c_impl_StatementText (initSt [.agg [.sl (grsA gs) false, .int .i64 tn, .int .u32 te, .int .i64 s, .sl (tmsA L) false, .int .i64 p, .int .i64 q]] .nil) (endP r_impl_StatementText (.str (stT gs tn te s L p q)))
  have hv := sp_validSt_eq gs tn te s L p q h
  cases hb : stB gs tn te s L p q with
  | false =>
    rw [hb] at hv
    simp -dsimp -implicitDefEqProofs [c_impl_StatementText, r_impl_StatementText, hv, hb, stT, noB]
  | true =>
    rw [hb] at hv
    have ht := sp_stX_eq gs tn te s L p q (st_in hb h)
    simp -dsimp -implicitDefEqProofs [c_impl_StatementText, r_impl_StatementText, hv, hb, stT, ht]
theorem q_spec_StatementText : QP PP 7 sp_stText := by
  refine QP_pf (fun i h => ?_) fun i h => ?_
  · obtain ⟨gs, tn, te, s, L, p, q⟩ := i; exact ⟨by first | rfl | simp, by first | rfl | simp⟩
  obtain ⟨gs, tn, te, s, L, p, q⟩ := i
  replace h : stH gs te L := h
  refine P_code (Quiet.e1 m_spec_l06Statement.toE (Quiet.e1 m_spec_l06Stated.toE Quiet.nil)) hmix k_spec_StatementText rfl ?_ ?_
  · first | rfl | simp
  show wpc 0 PP _ c_spec_StatementText (initSt [.agg [.sl (grsA gs) false, .int .i64 tn, .int .u32 te, .int .i64 s, .sl (tmsA L) false, .int .i64 p, .int .i64 q]] .nil) (endP r_spec_StatementText (.str (stT gs tn te s L p q)))
  have hv := sp_l06Statement_eq gs tn te s L p q h
  cases hb : stB gs tn te s L p q with
  | false =>
    rw [hb] at hv
    simp -dsimp -implicitDefEqProofs [c_spec_StatementText, r_spec_StatementText, hv, hb, stT, noB]
  | true =>
    rw [hb] at hv
    have ht := sp_l06Stated_eq gs tn te s L p q (st_in hb h)
    simp -dsimp -implicitDefEqProofs [c_spec_StatementText, r_spec_StatementText, hv, hb, stT, ht]
end Go.Proofs.YtgophedkejgedaaGreatDoorAi
end

section
/- Law: StatementText. -/
namespace Go.Proofs.YtgophedkejgedaaGreatDoorAi
open Go Go.RowKit
set_option linter.unusedVariables false
set_option linter.unusedSimpArgs false
set_option maxRecDepth 20000

noncomputable def sp_szStatement : List AV → Option (AV) := pf (ι := (List Gr) × (Int) × (Int) × (Int) × (List Tm) × (Int) × (Int) × (Int)) (α := AV) (fun ⟨gs, tn, te, s, L, p, q, m⟩ => 0 ≤ m ∧ m ≤ 1048576 ∧ gs.length ≤ maxLen ∧ L.length ≤ maxLen) (fun ⟨gs, tn, te, s, L, p, q, m⟩ => [.agg [.sl (grsA gs) false, .int .i64 tn, .int .u32 te, .int .i64 s, .sl (tmsA L) false, .int .i64 p, .int .i64 q], .int .i64 m]) (fun ⟨gs, tn, te, s, L, p, q, m⟩ => .int .i64 (if m - gs.length < 0 then -1 else if (L.length : Int) ≤ m - gs.length then m - gs.length - L.length else -1))
theorem sp_szStatement_eq (gs : List Gr) (tn te s : Int) (L : List Tm) (p q m : Int) (h : 0 ≤ m ∧ m ≤ 1048576 ∧ gs.length ≤ maxLen ∧ L.length ≤ maxLen) : sp_szStatement [.agg [.sl (grsA gs) false, .int .i64 tn, .int .u32 te, .int .i64 s, .sl (tmsA L) false, .int .i64 p, .int .i64 q], .int .i64 m] = some (.int .i64 (if m - gs.length < 0 then -1 else if (L.length : Int) ≤ m - gs.length then m - gs.length - L.length else -1)) := by
  unfold sp_szStatement
  exact pf_eq (ι := (List Gr) × (Int) × (Int) × (Int) × (List Tm) × (Int) × (Int) × (Int)) (α := AV) (gs, tn, te, s, L, p, q, m) h (by rintro ⟨gs', tn', te', s', L', p', q', m'⟩ _ e; simp_all [Int.natCast_inj])
theorem q_laws_szStatement : QP PP 6 sp_szStatement := by
  refine QP_pf (fun i h => ?_) fun i h => ?_
  · obtain ⟨gs, tn, te, s, L, p, q, m⟩ := i; exact ⟨by first | rfl | simp, by first | rfl | simp⟩
  obtain ⟨gs, tn, te, s, L, p, q, m⟩ := i
  replace h : 0 ≤ m ∧ m ≤ 1048576 ∧ gs.length ≤ maxLen ∧ L.length ≤ maxLen := h
  refine P_code (Quiet.q1 q_laws_szGraphS (Quiet.q1 q_laws_szFlagSum Quiet.nil)) hmix k_laws_szStatement rfl ?_ ?_
  · first | rfl | simp
  show wpc 0 PP _ c_laws_szStatement (initSt [.agg [.sl (grsA gs) false, .int .i64 tn, .int .u32 te, .int .i64 s, .sl (tmsA L) false, .int .i64 p, .int .i64 q], .int .i64 m] .nil) (endP r_laws_szStatement (.int .i64 (if m - gs.length < 0 then -1 else if (L.length : Int) ≤ m - gs.length then m - gs.length - L.length else -1)))
  obtain ⟨hm0, hm1, hg, hl⟩ := h
  have h1 := sp_szGr_eq gs m ⟨hm0, hm1, hg⟩
  by_cases c : m - (gs.length : Int) < 0
  · rw [if_pos c] at h1
    simp -dsimp -implicitDefEqProofs [c_laws_szStatement, r_laws_szStatement, h1, c]
  · rw [if_neg c] at h1
    have h2 := sp_szFlagSum_eq tn te s L (m - gs.length) ⟨by omega, by omega, hl⟩
    by_cases d : (L.length : Int) ≤ m - gs.length
    · rw [if_pos d] at h2
      have d2 : ¬ m - (gs.length : Int) - L.length < 0 := by omega
      simp -dsimp -implicitDefEqProofs [c_laws_szStatement, r_laws_szStatement, h1, c, h2, d, d2]
    · rw [if_neg d] at h2
      simp -dsimp -implicitDefEqProofs [c_laws_szStatement, r_laws_szStatement, h1, c, h2, d]
noncomputable def sp_toStatement : List AV → Option (AV) := pf (ι := (List Gr) × (Int) × (Int) × (Int) × (List Tm) × (Int) × (Int)) (α := AV) (fun ⟨gs, tn, te, s, L, p, q⟩ => gs.length ≤ 1048576 ∧ L.length ≤ 1048576) (fun ⟨gs, tn, te, s, L, p, q⟩ => [.agg [.sl (grsA gs) false, .int .i64 tn, .int .u32 te, .int .i64 s, .sl (tmsA L) false, .int .i64 p, .int .i64 q]]) (fun ⟨gs, tn, te, s, L, p, q⟩ => .agg [.sl (grsA gs) false, .int .i64 tn, .int .u32 te, .int .i64 s, .sl (tmsA L) false, .int .i64 p, .int .i64 q])
theorem sp_toStatement_eq (gs : List Gr) (tn te s : Int) (L : List Tm) (p q : Int) (h : gs.length ≤ 1048576 ∧ L.length ≤ 1048576) : sp_toStatement [.agg [.sl (grsA gs) false, .int .i64 tn, .int .u32 te, .int .i64 s, .sl (tmsA L) false, .int .i64 p, .int .i64 q]] = some (.agg [.sl (grsA gs) false, .int .i64 tn, .int .u32 te, .int .i64 s, .sl (tmsA L) false, .int .i64 p, .int .i64 q]) := by
  unfold sp_toStatement
  exact pf_eq (ι := (List Gr) × (Int) × (Int) × (Int) × (List Tm) × (Int) × (Int)) (α := AV) (gs, tn, te, s, L, p, q) h (by rintro ⟨gs', tn', te', s', L', p', q'⟩ _ e; simp_all [Int.natCast_inj])
theorem q_laws_toStatement : QP PP 8 sp_toStatement := by
  refine QP_pf (fun i h => ?_) fun i h => ?_
  · obtain ⟨gs, tn, te, s, L, p, q⟩ := i; exact ⟨by first | rfl | simp, by first | rfl | simp⟩
  obtain ⟨gs, tn, te, s, L, p, q⟩ := i
  replace h : gs.length ≤ 1048576 ∧ L.length ≤ 1048576 := h
  refine P_code (Quiet.q1 q_laws_toGraphS (Quiet.q1 q_laws_toFlagSum (Quiet.q1 q_laws_toFraction Quiet.nil))) hmix k_laws_toStatement rfl ?_ ?_
  · first | rfl | simp
  show wpc 0 PP _ c_laws_toStatement (initSt [.agg [.sl (grsA gs) false, .int .i64 tn, .int .u32 te, .int .i64 s, .sl (tmsA L) false, .int .i64 p, .int .i64 q]] .nil) (endP r_laws_toStatement (.agg [.sl (grsA gs) false, .int .i64 tn, .int .u32 te, .int .i64 s, .sl (tmsA L) false, .int .i64 p, .int .i64 q]))
  have h1 := sp_toGraphSV_eq gs h.1
  have h2 := sp_toFlagSum_eq tn te s L h.2
  simp -dsimp -implicitDefEqProofs [c_laws_toStatement, r_laws_toStatement, h1, h2]
noncomputable def sp_eqStatement : List AV → Option (AV) := pf (ι := (List Gr) × (Int) × (Int) × (Int) × (List Tm) × (Int) × (Int)) (α := AV) (fun ⟨gs, tn, te, s, L, p, q⟩ => gs.length ≤ maxLen ∧ L.length ≤ maxLen) (fun ⟨gs, tn, te, s, L, p, q⟩ => [.agg [.sl (grsA gs) false, .int .i64 tn, .int .u32 te, .int .i64 s, .sl (tmsA L) false, .int .i64 p, .int .i64 q], .agg [.sl (grsA gs) false, .int .i64 tn, .int .u32 te, .int .i64 s, .sl (tmsA L) false, .int .i64 p, .int .i64 q]]) (fun ⟨gs, tn, te, s, L, p, q⟩ => .bool true)
theorem sp_eqStatement_eq (gs : List Gr) (tn te s : Int) (L : List Tm) (p q : Int) (h : gs.length ≤ maxLen ∧ L.length ≤ maxLen) : sp_eqStatement [.agg [.sl (grsA gs) false, .int .i64 tn, .int .u32 te, .int .i64 s, .sl (tmsA L) false, .int .i64 p, .int .i64 q], .agg [.sl (grsA gs) false, .int .i64 tn, .int .u32 te, .int .i64 s, .sl (tmsA L) false, .int .i64 p, .int .i64 q]] = some (.bool true) := by
  unfold sp_eqStatement
  exact pf_eq (ι := (List Gr) × (Int) × (Int) × (Int) × (List Tm) × (Int) × (Int)) (α := AV) (gs, tn, te, s, L, p, q) h (by rintro ⟨gs', tn', te', s', L', p', q'⟩ _ e; simp_all [Int.natCast_inj])
theorem q_laws_eqStatement : QP PP 10 sp_eqStatement := by
  refine QP_pf (fun i h => ?_) fun i h => ?_
  · obtain ⟨gs, tn, te, s, L, p, q⟩ := i; exact ⟨by first | rfl | simp, by first | rfl | simp⟩
  obtain ⟨gs, tn, te, s, L, p, q⟩ := i
  replace h : gs.length ≤ maxLen ∧ L.length ≤ maxLen := h
  refine P_code (Quiet.q1 q_laws_eqGraphS (Quiet.q1 q_laws_eqFlagSum (Quiet.q1 q_laws_eqFraction Quiet.nil))) hmix k_laws_eqStatement rfl ?_ ?_
  · first | rfl | simp
  show wpc 0 PP _ c_laws_eqStatement (initSt [.agg [.sl (grsA gs) false, .int .i64 tn, .int .u32 te, .int .i64 s, .sl (tmsA L) false, .int .i64 p, .int .i64 q], .agg [.sl (grsA gs) false, .int .i64 tn, .int .u32 te, .int .i64 s, .sl (tmsA L) false, .int .i64 p, .int .i64 q]] .nil) (endP r_laws_eqStatement (.bool true))
  have h1 := sp_eqGrs_eq gs gs h.1
  have h2 := sp_eqFlagSum_eq tn te s L tn te s L h.2
  simp -dsimp -implicitDefEqProofs [c_laws_eqStatement, r_laws_eqStatement, h1, h2]
abbrev tyGr1 : Ty := .st [.int .i64, .int .u32]
theorem wt_gr1 (y : AV) (h : WtV tyGr1 y) : ∃ x : Gr, y = grA x ∧ 0 ≤ x.e ∧ x.e ≤ 4294967295 := by
  simp only [tyGr1, WtV_st, WtL_st, WtL_int, WtL_nil] at h
  obtain ⟨_, rfl, n, _, rfl, _, e, _, rfl, he, rfl⟩ := h
  exact ⟨⟨n, e⟩, rfl, by simpa [IntKind.min, IntKind.signed] using he.1, by simpa [IntKind.max, IntKind.signed, IntKind.bits] using he.2⟩
abbrev tyStatement : Ty := .st [.sl tyGr1, .st [.st [.int .i64, .int .u32], .int .i64, .sl tyTm], .st [.int .i64, .int .i64]]
theorem wt_statement {x : AV} (h : WtV tyStatement x) : ∃ gs tn te s L p q, x = .agg [.sl (grsA gs) false, .int .i64 tn, .int .u32 te, .int .i64 s, .sl (tmsA L) false, .int .i64 p, .int .i64 q] ∧ stH gs te L := by
  rw [tyStatement, WtV_st] at h
  simp only [WtL_st, WtL_int, WtL_sl, WtL_nil] at h
  obtain ⟨_, rfl, xs, _, rfl, ⟨hg, hx⟩, _, _, rfl, ⟨_, _, rfl, ⟨tn, _, rfl, _, te, _, rfl, he, rfl⟩, s, _, rfl, _, ys, _, rfl, ⟨hl, hy⟩, rfl⟩, _, _, rfl, ⟨p, _, rfl, _, q, _, rfl, _, rfl⟩, rfl⟩ := h
  obtain ⟨gs, rfl, hgs⟩ := wt_tms (t := tyGr1) wt_gr1 hx
  obtain ⟨L, rfl, hL⟩ := wt_tms (t := tyTm) wt_tm hy
  exact ⟨gs, tn, te, s, L, p, q, rfl, ⟨by simpa using hg, hgs⟩, ⟨by simpa [IntKind.min, IntKind.signed] using he.1, by simpa [IntKind.max, IntKind.signed, IntKind.bits] using he.2⟩, by simpa using hl, hL⟩
set_option maxHeartbeats 1000000 in
theorem law_statementText (xs : List AV) (h : WtA [tyStatement] xs) : T PP 3 xs .nil fun r _ => r = .bool true := by
  simp only [WtA_cons, WtA_nil] at h
  obtain ⟨x, _, rfl, hx, rfl⟩ := h
  obtain ⟨gs, tn, te, s, L, p, q, rfl, h⟩ := wt_statement hx
  refine (P_code (r := .bool true) (Quiet.q1 q_laws_szStatement (Quiet.q1 q_laws_toStatement (Quiet.q1 q_spec_StatementText (Quiet.q1 q_impl_StatementText (Quiet.q1 q_laws_eqStatement Quiet.nil))))) hmix k_laws_FnExactStatementText rfl rfl ?_).mono fun r A' h => h.1
  have hz := sp_szStatement_eq gs tn te s L p q 1048576 ⟨by omega, by omega, h.1.1, h.2.2.1⟩
  by_cases c : (1048576 : Int) - gs.length < 0
  · rw [if_pos c] at hz
    simp -dsimp -implicitDefEqProofs [c_laws_FnExactStatementText, r_laws_FnExactStatementText, hz]
  · rw [if_neg c] at hz
    by_cases d : (L.length : Int) ≤ 1048576 - gs.length
    · rw [if_pos d] at hz
      have d2 : ¬ (1048576 : Int) - gs.length - L.length < 0 := by omega
      simp -dsimp -implicitDefEqProofs [c_laws_FnExactStatementText, r_laws_FnExactStatementText, hz, d2, sp_toStatement_eq gs tn te s L p q ⟨by omega, by omega⟩, sp_stText_eq gs tn te s L p q h, sp_eqStatement_eq gs tn te s L p q ⟨h.1.1, h.2.2.1⟩, bne_ba]
    · rw [if_neg d] at hz
      simp -dsimp -implicitDefEqProofs [c_laws_FnExactStatementText, r_laws_FnExactStatementText, hz]
end Go.Proofs.YtgophedkejgedaaGreatDoorAi
end
