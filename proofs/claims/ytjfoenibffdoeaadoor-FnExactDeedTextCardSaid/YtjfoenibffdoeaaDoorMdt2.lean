/- Contracts, joined. -/
import Derived.Test.YtjfoenibffdoeaaDoorMdt1
section
/- Contracts: validity of patterns, as the program has it; its law. -/
namespace Go.Proofs.YtjfoenibffdoeaaDoorAi
open Go Go.RowKit
set_option linter.unusedVariables false
set_option linter.unusedSimpArgs false

/-- The sum as the program makes it. -/
def sumG : Fr → Bool → List Fr → Fr × Bool
  | a, g, [] => (a, g)
  | a, g, x :: xs => sumG (valO (add2 a x)) (g || (add2 a x).isNone) xs
theorem sumG_true : ∀ (xs : List Fr) (a : Fr), (sumG a true xs).2 = true
  | [], a => rfl
  | x :: xs, a => by rw [sumG]; simpa using sumG_true xs _
theorem sumO_G : ∀ (xs : List Fr) (a : Fr) (g : Bool), (∀ v, sumO a xs = some v → sumG a g xs = (v, g)) ∧ (sumO a xs = none → (sumG a g xs).2 = true)
  | [], a, g => by simp [sumO, sumG]
  | x :: xs, a, g => by
    rw [sumO, sumG]
    cases ha : add2 a x with
    | none => simp [sumG_true]
    | some s => simpa [valO, ha] using sumO_G xs s g
theorem sumG_one (l : List Fr) : (!(sumG ⟨0, 1⟩ false l).2 && decide ((sumG ⟨0, 1⟩ false l).1 = ⟨1, 1⟩)) = decide (sumO ⟨0, 1⟩ l = some ⟨1, 1⟩) := by
  obtain ⟨h1, h2⟩ := sumO_G l ⟨0, 1⟩ false
  cases e : sumO ⟨0, 1⟩ l with
  | none => simp [h2 e]
  | some v => rw [h1 v e]; simp

theorem q_impl_ValidPattern : QP PP 74 sp_patOk := by
  refine QP_pf (fun i h => ?_) fun i h => ?_
  · obtain ⟨n, e, l, ps⟩ := i; exact ⟨by first | rfl | simp, by first | rfl | simp⟩
  obtain ⟨n, e, l, ps⟩ := i
  replace h : (0 ≤ e ∧ e ≤ 4294967295) ∧ (0 ≤ l ∧ l ≤ 4294967295) ∧ ps.length ≤ maxLen := h
  refine P_code (Quiet.q1 q_impl_shapeOk (Quiet.q1 q_impl_zero (Quiet.q1 q_impl_badFraction (Quiet.q1 q_impl_one (Quiet.e1 m_impl_sums_add.toE Quiet.nil))))) hmix k_impl_ValidPattern rfl ?_ ?_
  · first | rfl | simp
  show wpc 0 PP _ c_impl_ValidPattern (initSt [.agg [.int .i64 n, .int .u32 e, .int .u32 l, .sl (frsA ps) false]] .nil) (endP r_impl_ValidPattern (.bool (patOk n e l ps)))
  obtain ⟨he, hl, hp⟩ := h
  simp -dsimp -implicitDefEqProofs [c_impl_ValidPattern, r_impl_ValidPattern, sp_shapeOk_eq n e l ⟨he, hl⟩]
  cases hg : graphOk n e with
  | false => simp -dsimp -implicitDefEqProofs [patOk, hg]
  | true =>
    cases hf : loopsOk n l with
    | false => simp -dsimp -implicitDefEqProofs [patOk, hg, hf]
    | true =>
      have hn4 : n ≤ 4 := (of_decide_eq_true hf).1.2
      by_cases hn : (ps.length : Int) = n
      · simp -dsimp -implicitDefEqProofs [hn]
        refine wpLoop_st (fun (i : Nat × Fr × Bool) => ⟨tl [(1, .ptr 0 0), (3, .ptr 1 0), (4, .ptr 2 0), (25, .sl (frsA ps) false), (26, .int .i64 ps.length), (27, .int .i64 i.1)], ⟨[some [.int .i64 n, .int .u32 e, .int .u32 l, .sl (frsA ps) false], some [.bool i.2.2], some [.int .i64 i.2.1.p, .int .i64 i.2.1.q]]⟩⟩)
          (fun i => i.1 ≤ ps.length ∧ frIn i.2.1.p i.2.1.q ∧ sumG i.2.1 i.2.2 (ps.drop i.1) = sumG ⟨0, 1⟩ false ps ∧ allOk (ps.take i.1) = true ∧ nnAll (ps.take i.1) = true) (fun i => ps.length - i.1) (0, ⟨0, 1⟩, false) ⟨Nat.zero_le _, zero_in, rfl, rfl, rfl⟩ (Sub.keep (by simp) (by simp [hsub]) (by simp [hn])) ?_
        rintro ⟨i, a, b⟩ ⟨h1, h2, h3, h4, h5⟩
        simp -dsimp -implicitDefEqProofs
        refine brW_of (fun h => ?_) (fun h => ?_) <;> simp only [decide_eq_true_eq, decide_eq_false_iff_not] at h
        · have hi : i < ps.length := by omega
          have hw := wrapNat (i := i) (by omega)
          cases hv : frOk ps[i].p ps[i].q with
          | false => simp -dsimp -implicitDefEqProofs [hi, hw, hv, patOk, allOk_false hi hv]
          | true =>
            by_cases hneg : ps[i].p < 0
            · simp -dsimp -implicitDefEqProofs [hi, hw, hv, hneg, patOk, nnAll_false hi hneg]
            · simp -dsimp -implicitDefEqProofs [hi, hw, hv, hneg, sp_add_eq b a.p a.q ps[i].p ps[i].q ⟨h2, frOk_in hv⟩]
              rw [drop_cons hi, sumG] at h3
              exact .mk (i + 1, valO (add2 a ps[i]), (b || (add2 a ps[i]).isNone)) ⟨by simp only; omega, add2_in h2 (frOk_in hv), h3, allOk_step hi h4 hv, nnAll_step hi h5 hneg⟩ (by simp only; omega) (Sub.keep (by simp) (by simp [hsub, add2]) (by simp [hw]))
        · have hi : i = ps.length := by omega
          simp only [hi, List.take_length, List.drop_length, sumG] at h3 h4 h5
          have hs := sumG_one ps
          rw [← h3] at hs
          have hv : patOk n e l ps = decide (sumO ⟨0, 1⟩ ps = some ⟨1, 1⟩) := by simp [patOk, hg, hf, hn, h4, h5]
          rw [hv, ← hs]
          cases b <;> simp -dsimp -implicitDefEqProofs [Fr.mk.injEq]
          cases a
          rw [Bool.eq_iff_iff]
          simp
      · have hn' : ((ps.length : Int) != n) = true := by simpa using hn
        simp -dsimp -implicitDefEqProofs [hn', hn, patOk]

/-! ### the law's own functions -/
noncomputable def sp_szFractionS : List AV → Option (AV) := pf (ι := (List Fr) × (Int)) (α := AV) (fun ⟨l, n⟩ => 0 ≤ n ∧ n ≤ 1048576 ∧ l.length ≤ maxLen) (fun ⟨l, n⟩ => [.sl (frsA l) false, .int .i64 n]) (fun ⟨l, n⟩ => .int .i64 (if (l.length : Int) ≤ n then n - l.length else -1))
theorem sp_szFractionS_eq (l : List Fr) (n : Int) (h : 0 ≤ n ∧ n ≤ 1048576 ∧ l.length ≤ maxLen) : sp_szFractionS [.sl (frsA l) false, .int .i64 n] = some (.int .i64 (if (l.length : Int) ≤ n then n - l.length else -1)) := by
  unfold sp_szFractionS
  exact pf_eq (ι := (List Fr) × (Int)) (α := AV) (l, n) h (by rintro ⟨l', n'⟩ _ e; simp_all [Int.natCast_inj])
theorem q_laws_szFractionS : QP PP 66 sp_szFractionS := by
  refine QP_pf (fun i h => ?_) fun i h => ?_
  · obtain ⟨l, n⟩ := i; exact ⟨by first | rfl | simp, by first | rfl | simp⟩
  obtain ⟨l, n⟩ := i
  replace h : 0 ≤ n ∧ n ≤ 1048576 ∧ l.length ≤ maxLen := h
  refine P_code Quiet.nil hmix k_laws_szFractionS rfl ?_ ?_
  · first | rfl | simp
  show wpc 0 PP _ c_laws_szFractionS (initSt [.sl (frsA l) false, .int .i64 n] .nil) (endP r_laws_szFractionS (.int .i64 (if (l.length : Int) ≤ n then n - l.length else -1)))
  obtain ⟨h0, h1, hl⟩ := h
  have hw : IntKind.i64.wrap (n - l.length) = n - l.length := wrapI64 (by simp only [maxLen] at hl; omega) (by omega)
  simp -dsimp -implicitDefEqProofs [c_laws_szFractionS, r_laws_szFractionS, hw]
  by_cases hlt : (l.length : Int) ≤ n
  · have h2 : ¬ (n - (l.length : Int) < 0) := by omega
    simp -dsimp -implicitDefEqProofs [hlt, h2]
  · have h2 : n - (l.length : Int) < 0 := by omega
    simp -dsimp -implicitDefEqProofs [hlt, h2]
noncomputable def sp_szPattern : List AV → Option (AV) := pf (ι := (Int) × (Int) × (Int) × (List Fr) × (Int)) (α := AV) (fun ⟨n, e, l, ps, m⟩ => 0 ≤ m ∧ m ≤ 1048576 ∧ ps.length ≤ maxLen) (fun ⟨n, e, l, ps, m⟩ => [.agg [.int .i64 n, .int .u32 e, .int .u32 l, .sl (frsA ps) false], .int .i64 m]) (fun ⟨n, e, l, ps, m⟩ => .int .i64 (if (ps.length : Int) ≤ m then m - ps.length else -1))
theorem sp_szPattern_eq (n e l : Int) (ps : List Fr) (m : Int) (h : 0 ≤ m ∧ m ≤ 1048576 ∧ ps.length ≤ maxLen) : sp_szPattern [.agg [.int .i64 n, .int .u32 e, .int .u32 l, .sl (frsA ps) false], .int .i64 m] = some (.int .i64 (if (ps.length : Int) ≤ m then m - ps.length else -1)) := by
  unfold sp_szPattern
  exact pf_eq (ι := (Int) × (Int) × (Int) × (List Fr) × (Int)) (α := AV) (n, e, l, ps, m) h (by rintro ⟨n', e', l', ps', m'⟩ _ e; simp_all [Int.natCast_inj])
theorem q_laws_szPattern : QP PP 30 sp_szPattern := by
  refine QP_pf (fun i h => ?_) fun i h => ?_
  · obtain ⟨n, e, l, ps, m⟩ := i; exact ⟨by first | rfl | simp, by first | rfl | simp⟩
  obtain ⟨n, e, l, ps, m⟩ := i
  replace h : 0 ≤ m ∧ m ≤ 1048576 ∧ ps.length ≤ maxLen := h
  refine P_code (Quiet.q1 q_laws_szFractionS Quiet.nil) hmix k_laws_szPattern rfl ?_ ?_
  · first | rfl | simp
  show wpc 0 PP _ c_laws_szPattern (initSt [.agg [.int .i64 n, .int .u32 e, .int .u32 l, .sl (frsA ps) false], .int .i64 m] .nil) (endP r_laws_szPattern (.int .i64 (if (ps.length : Int) ≤ m then m - ps.length else -1)))
  simp -dsimp -implicitDefEqProofs [c_laws_szPattern, r_laws_szPattern, sp_szFractionS_eq ps m h]
  by_cases hlt : (ps.length : Int) ≤ m
  · have h2 : ¬ (m - (ps.length : Int) < 0) := by omega
    simp -dsimp -implicitDefEqProofs [hlt, h2]
  · simp -dsimp -implicitDefEqProofs [hlt]
noncomputable def sp_toFraction : List AV → Option (AV) := pf (ι := (Int) × (Int)) (α := AV) (fun ⟨p, q⟩ => True) (fun ⟨p, q⟩ => [.agg [.int .i64 p, .int .i64 q]]) (fun ⟨p, q⟩ => .agg [.int .i64 p, .int .i64 q])
theorem sp_toFraction_eq (p q : Int) : sp_toFraction [.agg [.int .i64 p, .int .i64 q]] = some (.agg [.int .i64 p, .int .i64 q]) := by
  unfold sp_toFraction
  exact pf_eq (ι := (Int) × (Int)) (α := AV) (p, q) trivial (by rintro ⟨p', q'⟩ _ e; simp_all [Int.natCast_inj])
attribute [simp] sp_toFraction_eq
theorem q_laws_toFraction : QP PP 14 sp_toFraction := by
  refine QP_pf (fun i h => ?_) fun i h => ?_
  · obtain ⟨p, q⟩ := i; exact ⟨by first | rfl | simp, by first | rfl | simp⟩
  obtain ⟨p, q⟩ := i
  replace h : True := h
  refine P_code Quiet.nil hmix k_laws_toFraction rfl ?_ ?_
  · first | rfl | simp
  show wpc 0 PP _ c_laws_toFraction (initSt [.agg [.int .i64 p, .int .i64 q]] .nil) (endP r_laws_toFraction (.agg [.int .i64 p, .int .i64 q]))
  simp -dsimp -implicitDefEqProofs [c_laws_toFraction, r_laws_toFraction]
noncomputable def sp_toGraph : List AV → Option (AV) := pf (ι := (Int) × (Int)) (α := AV) (fun ⟨n, e⟩ => True) (fun ⟨n, e⟩ => [.agg [.int .i64 n, .int .u32 e]]) (fun ⟨n, e⟩ => .agg [.int .i64 n, .int .u32 e])
theorem sp_toGraph_eq (n e : Int) : sp_toGraph [.agg [.int .i64 n, .int .u32 e]] = some (.agg [.int .i64 n, .int .u32 e]) := by
  unfold sp_toGraph
  exact pf_eq (ι := (Int) × (Int)) (α := AV) (n, e) trivial (by rintro ⟨n', e'⟩ _ e; simp_all [Int.natCast_inj])
attribute [simp] sp_toGraph_eq
theorem q_laws_toGraph : QP PP 20 sp_toGraph := by
  refine QP_pf (fun i h => ?_) fun i h => ?_
  · obtain ⟨n, e⟩ := i; exact ⟨by first | rfl | simp, by first | rfl | simp⟩
  obtain ⟨n, e⟩ := i
  replace h : True := h
  refine P_code Quiet.nil hmix k_laws_toGraph rfl ?_ ?_
  · first | rfl | simp
  show wpc 0 PP _ c_laws_toGraph (initSt [.agg [.int .i64 n, .int .u32 e]] .nil) (endP r_laws_toGraph (.agg [.int .i64 n, .int .u32 e]))
  simp -dsimp -implicitDefEqProofs [c_laws_toGraph, r_laws_toGraph]
theorem frsA_cells (l : List Fr) : ∀ x ∈ frsA l, x.cells.length = 2 ∧ ltL 0 x.cells = true := by
  intro x hx
  obtain ⟨p, _, rfl⟩ := List.mem_map.1 hx
  exact ⟨rfl, rfl⟩
noncomputable def sp_toFractionS : List AV → Option (AV) := pf (ι := (List Fr)) (α := AV) (fun l => l.length ≤ 1048576) (fun l => [.sl (frsA l) false]) (fun l => .sl (frsA l) false)
theorem sp_toFractionS_eq (l : List Fr) (h : l.length ≤ 1048576) : sp_toFractionS [.sl (frsA l) false] = some (.sl (frsA l) false) := by
  unfold sp_toFractionS
  exact pf_eq (ι := (List Fr)) (α := AV) l h (by rintro l' _ e; simp_all [Int.natCast_inj])
theorem q_laws_toFractionS : QP PP 68 sp_toFractionS := by
  refine QP_pf (fun l h => ?_) fun l h => ?_
  · exact ⟨by first | rfl | simp, by first | rfl | simp⟩
  replace h : l.length ≤ 1048576 := h
  refine P_code (Quiet.q1 q_laws_toFraction Quiet.nil) hmix k_laws_toFractionS rfl ?_ ?_
  · first | rfl | simp
  show wpc 0 PP _ c_laws_toFractionS (initSt [.sl (frsA l) false] .nil) (endP r_laws_toFractionS (.sl (frsA l) false))
  have hm : (l.length : Int) * 17 ≤ (mostBytes : Int) := by simp only [mostBytes]; omega
  simp -dsimp -implicitDefEqProofs [c_laws_toFractionS, r_laws_toFractionS, hm]
  refine wpLoop_st (fun (i : Nat × List AV) => ⟨tl [(0, .sl (frsA l) false), (3, .ref 0 2 0 l.length .tight), (4, .int .i64 i.1)], ⟨[some i.2]⟩⟩) (fun i => i.1 ≤ l.length ∧ Filled 2 i.2 (frsA l) i.1 ∧ ltL 0 i.2 = true) (fun i => l.length - i.1) (0, newCells 2 l.length [.int .i64 0, .int .i64 0])
    ⟨Nat.zero_le _, Filled.zero (by simp [newCells, flat_len]), newCells_lt 2 l.length rfl⟩ (Sub.keep (by simp) (by
      have := newCells_lt (n := 1) 2 l.length (z := [.int .i64 0, .int .i64 0]) rfl
      simp [hsub, renL_id] at this ⊢
      exact this) (by simp)) ?_
  rintro ⟨i, cs⟩ ⟨h1, h2, h3⟩
  simp -dsimp -implicitDefEqProofs
  refine brW_of (fun h => ?_) (fun h => ?_) <;> simp only [decide_eq_true_eq, decide_eq_false_iff_not] at h
  · have hi : i < l.length := by omega
    have hw := wrapNat (i := i) (by omega)
    have hl : cs.length = l.length * 2 := by have := h2.len; rw [mapA_length] at this; exact this
    have hfit : i * 2 + 2 ≤ cs.length := by omega
    simp -dsimp -implicitDefEqProofs [hi, hfit, hw]
    refine .mk (i + 1, setCells cs (i * 2) (frA l[i]).cells) ⟨by simp only; omega, h2.step (by simp [hi]) rfl, setCells_lt _ _ _ h3 rfl⟩ (by simp only; omega) (Sub.keep (by simp) ?_ (by simp))
    have := setCells_lt (n := 1) _ (i * 2) (frA l[i]).cells (ltL_mono (Nat.zero_le 1) _ h3) rfl
    simp [hsub, renL_id, setCells] at this ⊢
    exact this
  · have hi : i = l.length := by omega
    subst hi
    simp -dsimp -implicitDefEqProofs
    have h2' : Filled 2 cs (frsA l) (frsA l).length := by rw [mapA_length]; exact h2
    have hl : cs.length = l.length * 2 := by have := h2.len; rw [mapA_length] at this; exact this
    refine ⟨_, Shift.tmp (k := 2) (b := 0) (e := 2) (o := 0) (n := l.length) (xs := frsA l) (t' := false) (t := .tight) (cs := cs) (by simp -dsimp) (by simp -dsimp) (by simp) (by omega) (by simp) (frsA_cells l) (.inl (by rw [h2'.all (fun x hx => (frsA_cells l x hx).1) (by omega)]; simp [← hl])), ?_⟩
    simp -dsimp -implicitDefEqProofs
noncomputable def sp_toPattern : List AV → Option (AV) := pf (ι := (Int) × (Int) × (Int) × (List Fr)) (α := AV) (fun ⟨n, e, l, ps⟩ => ps.length ≤ 1048576) (fun ⟨n, e, l, ps⟩ => [.agg [.int .i64 n, .int .u32 e, .int .u32 l, .sl (frsA ps) false]]) (fun ⟨n, e, l, ps⟩ => .agg [.int .i64 n, .int .u32 e, .int .u32 l, .sl (frsA ps) false])
theorem sp_toPattern_eq (n e l : Int) (ps : List Fr) (h : ps.length ≤ 1048576) : sp_toPattern [.agg [.int .i64 n, .int .u32 e, .int .u32 l, .sl (frsA ps) false]] = some (.agg [.int .i64 n, .int .u32 e, .int .u32 l, .sl (frsA ps) false]) := by
  unfold sp_toPattern
  exact pf_eq (ι := (Int) × (Int) × (Int) × (List Fr)) (α := AV) (n, e, l, ps) h (by rintro ⟨n', e', l', ps'⟩ _ e; simp_all [Int.natCast_inj])
theorem q_laws_toPattern : QP PP 32 sp_toPattern := by
  refine QP_pf (fun i h => ?_) fun i h => ?_
  · obtain ⟨n, e, l, ps⟩ := i; exact ⟨by first | rfl | simp, by first | rfl | simp⟩
  obtain ⟨n, e, l, ps⟩ := i
  replace h : ps.length ≤ 1048576 := h
  refine P_code (Quiet.q1 q_laws_toGraph (Quiet.q1 q_laws_toFractionS Quiet.nil)) hmix k_laws_toPattern rfl ?_ ?_
  · first | rfl | simp
  show wpc 0 PP _ c_laws_toPattern (initSt [.agg [.int .i64 n, .int .u32 e, .int .u32 l, .sl (frsA ps) false]] .nil) (endP r_laws_toPattern (.agg [.int .i64 n, .int .u32 e, .int .u32 l, .sl (frsA ps) false]))
  simp -dsimp -implicitDefEqProofs [c_laws_toPattern, r_laws_toPattern, sp_toFractionS_eq ps h]
noncomputable def sp_eqFraction : List AV → Option (AV) := pf (ι := (Int) × (Int) × (Int) × (Int)) (α := AV) (fun ⟨p, q, p', q'⟩ => True) (fun ⟨p, q, p', q'⟩ => [.agg [.int .i64 p, .int .i64 q], .agg [.int .i64 p', .int .i64 q']]) (fun ⟨p, q, p', q'⟩ => .bool (p == p' && q == q'))
theorem sp_eqFraction_eq (p q p' q' : Int) : sp_eqFraction [.agg [.int .i64 p, .int .i64 q], .agg [.int .i64 p', .int .i64 q']] = some (.bool (p == p' && q == q')) := by
  unfold sp_eqFraction
  exact pf_eq (ι := (Int) × (Int) × (Int) × (Int)) (α := AV) (p, q, p', q') trivial (by rintro ⟨p', q', p'', q''⟩ _ e; simp_all [Int.natCast_inj])
attribute [simp] sp_eqFraction_eq
theorem q_laws_eqFraction : QP PP 42 sp_eqFraction := by
  refine QP_pf (fun i h => ?_) fun i h => ?_
  · obtain ⟨p, q, p', q'⟩ := i; exact ⟨by first | rfl | simp, by first | rfl | simp⟩
  obtain ⟨p, q, p', q'⟩ := i
  replace h : True := h
  refine P_code Quiet.nil hmix k_laws_eqFraction rfl ?_ ?_
  · first | rfl | simp
  show wpc 0 PP _ c_laws_eqFraction (initSt [.agg [.int .i64 p, .int .i64 q], .agg [.int .i64 p', .int .i64 q']] .nil) (endP r_laws_eqFraction (.bool (p == p' && q == q')))
  simp -dsimp -implicitDefEqProofs [c_laws_eqFraction, r_laws_eqFraction]
  repeat' (refine brW_of (fun h => ?_) (fun h => ?_) <;> have h0 := h <;> (try simp only [Bool.and_eq_true, Bool.and_eq_false_iff, Bool.or_eq_true, Bool.or_eq_false_iff, Bool.not_eq_true', Bool.not_eq_false', decide_eq_true_eq, decide_eq_false_iff_not, beq_iff_eq, beq_eq_false_iff_ne, bne_iff_ne, bne_eq_false_iff_eq] at h) <;> simp -dsimp -implicitDefEqProofs [h, h0, *])
noncomputable def sp_eqGraph : List AV → Option (AV) := pf (ι := (Int) × (Int) × (Int) × (Int)) (α := AV) (fun ⟨p, q, p', q'⟩ => True) (fun ⟨p, q, p', q'⟩ => [.agg [.int .i64 p, .int .u32 q], .agg [.int .i64 p', .int .u32 q']]) (fun ⟨p, q, p', q'⟩ => .bool (p == p' && q == q'))
theorem sp_eqGraph_eq (p q p' q' : Int) : sp_eqGraph [.agg [.int .i64 p, .int .u32 q], .agg [.int .i64 p', .int .u32 q']] = some (.bool (p == p' && q == q')) := by
  unfold sp_eqGraph
  exact pf_eq (ι := (Int) × (Int) × (Int) × (Int)) (α := AV) (p, q, p', q') trivial (by rintro ⟨p', q', p'', q''⟩ _ e; simp_all [Int.natCast_inj])
attribute [simp] sp_eqGraph_eq
theorem q_laws_eqGraph : QP PP 45 sp_eqGraph := by
  refine QP_pf (fun i h => ?_) fun i h => ?_
  · obtain ⟨p, q, p', q'⟩ := i; exact ⟨by first | rfl | simp, by first | rfl | simp⟩
  obtain ⟨p, q, p', q'⟩ := i
  replace h : True := h
  refine P_code Quiet.nil hmix k_laws_eqGraph rfl ?_ ?_
  · first | rfl | simp
  show wpc 0 PP _ c_laws_eqGraph (initSt [.agg [.int .i64 p, .int .u32 q], .agg [.int .i64 p', .int .u32 q']] .nil) (endP r_laws_eqGraph (.bool (p == p' && q == q')))
  simp -dsimp -implicitDefEqProofs [c_laws_eqGraph, r_laws_eqGraph]
  repeat' (refine brW_of (fun h => ?_) (fun h => ?_) <;> have h0 := h <;> (try simp only [Bool.and_eq_true, Bool.and_eq_false_iff, Bool.or_eq_true, Bool.or_eq_false_iff, Bool.not_eq_true', Bool.not_eq_false', decide_eq_true_eq, decide_eq_false_iff_not, beq_iff_eq, beq_eq_false_iff_ne, bne_iff_ne, bne_eq_false_iff_eq] at h) <;> simp -dsimp -implicitDefEqProofs [h, h0, *])
noncomputable def sp_eqFractionS : List AV → Option (AV) := pf (ι := (List Fr) × (List Fr)) (α := AV) (fun ⟨l, k⟩ => l.length ≤ maxLen) (fun ⟨l, k⟩ => [.sl (frsA l) false, .sl (frsA k) false]) (fun ⟨l, k⟩ => .bool (decide (l = k)))
theorem sp_eqFractionS_eq (l k : List Fr) (h : l.length ≤ maxLen) : sp_eqFractionS [.sl (frsA l) false, .sl (frsA k) false] = some (.bool (decide (l = k))) := by
  unfold sp_eqFractionS
  exact pf_eq (ι := (List Fr) × (List Fr)) (α := AV) (l, k) h (by rintro ⟨l', k'⟩ _ e; simp_all [Int.natCast_inj])
theorem q_laws_eqFractionS : QP PP 71 sp_eqFractionS := by
  refine QP_pf (fun i h => ?_) fun i h => ?_
  · obtain ⟨l, k⟩ := i; exact ⟨by first | rfl | simp, by first | rfl | simp⟩
  obtain ⟨l, k⟩ := i
  replace h : l.length ≤ maxLen := h
  refine P_code (Quiet.q1 q_laws_eqFraction Quiet.nil) hmix k_laws_eqFractionS rfl ?_ ?_
  · first | rfl | simp
  show wpc 0 PP _ c_laws_eqFractionS (initSt [.sl (frsA l) false, .sl (frsA k) false] .nil) (endP r_laws_eqFractionS (.bool (decide (l = k))))
  simp only [maxLen] at h
  by_cases hlen : l.length = k.length
  · simp -dsimp -implicitDefEqProofs [c_laws_eqFractionS, r_laws_eqFractionS, hlen]
    refine wpLoop_st (fun (i : Nat) => ⟨tl [(0, .sl (frsA l) false), (1, .sl (frsA k) false), (5, .int .i64 i)], ⟨[]⟩⟩) (fun i => i ≤ l.length ∧ l.take i = k.take i) (fun i => l.length - i) 0 ⟨Nat.zero_le _, rfl⟩ (Sub.keep (by simp) (by simp [hsub]) (by simp)) ?_
    rintro i ⟨h1, h2⟩
    simp -dsimp -implicitDefEqProofs
    refine brW_of (fun h => ?_) (fun h => ?_) <;> simp only [decide_eq_true_eq, decide_eq_false_iff_not] at h
    · have hi : i < l.length := by omega
      have hj : i < k.length := by omega
      have hw := wrapNat (i := i) (by omega)
      by_cases he : l[i] = k[i]
      · simp -dsimp -implicitDefEqProofs [hi, hj, hw, he]
        exact .mk (i + 1) ⟨by omega, by rw [take_snoc l i hi, take_snoc k i hj, h2, he]⟩ (by omega) (Sub.keep (by simp) (by simp [hsub]) (by simp))
      · have hne : ¬ l = k := fun e => he (by subst e; rfl)
        have he' : (l[i].p == k[i].p && l[i].q == k[i].q) = false := by
          rw [Bool.eq_false_iff]
          intro hh
          simp at hh
          apply he
          cases hx : l[i]; cases hy : k[i]
          simp_all
        have he2 : (!(l[i].p == k[i].p) || !(l[i].q == k[i].q)) = true := by rw [← Bool.not_and, he']; rfl
        simp -dsimp -implicitDefEqProofs [hi, hj, hw, hne, he', he2]
    · have hi : i = l.length := by omega
      have he : l = k := by
        rw [hi, List.take_length, hlen, List.take_length] at h2
        exact h2
      simp -dsimp -implicitDefEqProofs [he]
  · have hne : ¬ l = k := fun e => hlen (by rw [e])
    have hln : ((l.length : Int) != (k.length : Int)) = true := by simp; omega
    simp -dsimp -implicitDefEqProofs [c_laws_eqFractionS, r_laws_eqFractionS, hln, hne]
noncomputable def sp_eqPattern : List AV → Option (AV) := pf (ι := (Int) × (Int) × (Int) × (List Fr) × (Int) × (Int) × (Int) × (List Fr)) (α := AV) (fun ⟨n, e, l, ps, n', e', l', ps'⟩ => ps.length ≤ maxLen) (fun ⟨n, e, l, ps, n', e', l', ps'⟩ => [.agg [.int .i64 n, .int .u32 e, .int .u32 l, .sl (frsA ps) false], .agg [.int .i64 n', .int .u32 e', .int .u32 l', .sl (frsA ps') false]]) (fun ⟨n, e, l, ps, n', e', l', ps'⟩ => .bool ((n == n' && e == e') && (l == l') && decide (ps = ps')))
theorem sp_eqPattern_eq (n e l : Int) (ps : List Fr) (n' e' l' : Int) (ps' : List Fr) (h : ps.length ≤ maxLen) : sp_eqPattern [.agg [.int .i64 n, .int .u32 e, .int .u32 l, .sl (frsA ps) false], .agg [.int .i64 n', .int .u32 e', .int .u32 l', .sl (frsA ps') false]] = some (.bool ((n == n' && e == e') && (l == l') && decide (ps = ps'))) := by
  unfold sp_eqPattern
  exact pf_eq (ι := (Int) × (Int) × (Int) × (List Fr) × (Int) × (Int) × (Int) × (List Fr)) (α := AV) (n, e, l, ps, n', e', l', ps') h (by rintro ⟨n', e', l', ps', n'', e'', l'', ps''⟩ _ e; simp_all [Int.natCast_inj])
theorem q_laws_eqPattern : QP PP 34 sp_eqPattern := by
  refine QP_pf (fun i h => ?_) fun i h => ?_
  · obtain ⟨n, e, l, ps, n', e', l', ps'⟩ := i; exact ⟨by first | rfl | simp, by first | rfl | simp⟩
  obtain ⟨n, e, l, ps, n', e', l', ps'⟩ := i
  replace h : ps.length ≤ maxLen := h
  refine P_code (Quiet.q1 q_laws_eqGraph (Quiet.q1 q_laws_eqFractionS Quiet.nil)) hmix k_laws_eqPattern rfl ?_ ?_
  · first | rfl | simp
  show wpc 0 PP _ c_laws_eqPattern (initSt [.agg [.int .i64 n, .int .u32 e, .int .u32 l, .sl (frsA ps) false], .agg [.int .i64 n', .int .u32 e', .int .u32 l', .sl (frsA ps') false]] .nil) (endP r_laws_eqPattern (.bool ((n == n' && e == e') && (l == l') && decide (ps = ps'))))
  by_cases h4 : ps = ps'
  · subst h4
    simp -dsimp -implicitDefEqProofs [c_laws_eqPattern, r_laws_eqPattern, sp_eqFractionS_eq ps ps h]
    cases h1 : n == n' <;> cases h2 : e == e' <;> cases h3 : l == l' <;> simp -dsimp -implicitDefEqProofs [h1, h2, h3, bne, sp_eqFractionS_eq ps ps h]
  · simp -dsimp -implicitDefEqProofs [c_laws_eqPattern, r_laws_eqPattern, sp_eqFractionS_eq ps ps' h]
    cases h1 : n == n' <;> cases h2 : e == e' <;> cases h3 : l == l' <;> simp -dsimp -implicitDefEqProofs [h1, h2, h3, h4, bne, sp_eqFractionS_eq ps ps' h]

end Go.Proofs.YtjfoenibffdoeaaDoorAi
end

section
/- Contracts and law: FractionText. -/
namespace Go.Proofs.YtjfoenibffdoeaaDoorAi
open Go Go.RowKit
set_option linter.unusedVariables false
set_option linter.unusedSimpArgs false
set_option maxRecDepth 20000

theorem frOk_bd {p q : Int} (h : frOk p q = true) : (-1000000000 ≤ p ∧ p ≤ 1000000000) ∧ (1 ≤ q ∧ q ≤ 1000000000) := by
  unfold frOk at h
  have := of_decide_eq_true h
  exact ⟨this.1, this.2.1⟩
def fracT (p q : Int) : ByteArray := if frOk p q = true then frT p q else noB
noncomputable def sp_fracText : List AV → Option (AV) := pf (ι := (Int) × (Int)) (α := AV) (fun ⟨p, q⟩ => True) (fun ⟨p, q⟩ => [.agg [.int .i64 p, .int .i64 q]]) (fun ⟨p, q⟩ => .str (fracT p q))
theorem sp_fracText_eq (p q : Int) : sp_fracText [.agg [.int .i64 p, .int .i64 q]] = some (.str (fracT p q)) := by
  unfold sp_fracText
  exact pf_eq (ι := (Int) × (Int)) (α := AV) (p, q) trivial (by rintro ⟨p', q'⟩ _ e; simp_all [Int.natCast_inj])
attribute [simp] sp_fracText_eq
theorem q_impl_FractionText : QP PP 15 sp_fracText := by
  refine QP_pf (fun i h => ?_) fun i h => ?_
  · obtain ⟨p, q⟩ := i; exact ⟨by first | rfl | simp, by first | rfl | simp⟩
  obtain ⟨p, q⟩ := i
  replace h : True := h
  refine P_code (Quiet.q1 q_impl_ValidFraction (Quiet.q1 q_impl_Fraction_text Quiet.nil)) hmix k_impl_FractionText rfl ?_ ?_
  · first | rfl | simp
  show wpc 0 PP _ c_impl_FractionText (initSt [.agg [.int .i64 p, .int .i64 q]] .nil) (endP r_impl_FractionText (.str (fracT p q)))
  cases hf : frOk p q with
  | false => simp -dsimp -implicitDefEqProofs [c_impl_FractionText, r_impl_FractionText, hf, fracT, noB]
  | true =>
    have hb := frOk_bd hf
    simp -dsimp -implicitDefEqProofs [c_impl_FractionText, r_impl_FractionText, hf, fracT, sp_frText_eq p q (by omega)]
theorem q_spec_FractionText : QP PP 13 sp_fracText := by
  refine QP_pf (fun i h => ?_) fun i h => ?_
  · obtain ⟨p, q⟩ := i; exact ⟨by first | rfl | simp, by first | rfl | simp⟩
  obtain ⟨p, q⟩ := i
  replace h : True := h
  refine P_code (Quiet.q1 q_spec_l02Ok (Quiet.q1 q_spec_l02Abs (Quiet.q1 q_spec_Decimal Quiet.nil))) hmix k_spec_FractionText rfl ?_ ?_
  · first | rfl | simp
  show wpc 0 PP _ c_spec_FractionText (initSt [.agg [.int .i64 p, .int .i64 q]] .nil) (endP r_spec_FractionText (.str (fracT p q)))
  cases hf : frOk p q with
  | false => simp -dsimp -implicitDefEqProofs [c_spec_FractionText, r_spec_FractionText, hf, fracT, noB]
  | true =>
    have hb := frOk_bd hf
    have ha := sp_size_eq p (by omega)
    have hd := sp_decS_eq p.natAbs (by omega)
    have hd2 := sp_decS_eq q (by omega)
    have s0 := decB_size p.natAbs (by omega) (by omega)
    have s2 := decB_size q (by omega) (by omega)
    have z1 : 1 + (decB p.natAbs).size ≤ 9223372036854775807 := by omega
    have z2 : 1 + (decB q).size ≤ 9223372036854775807 := by omega
    have z3 : (decB p.natAbs).size + (1 + (decB q).size) ≤ 9223372036854775807 := by omega
    have z4 : 1 + (decB p.natAbs).size + (1 + (decB q).size) ≤ 9223372036854775807 := by omega
    by_cases hp : p < 0
    · by_cases hq : q = 1
      · subst hq
        simp -dsimp -implicitDefEqProofs [c_spec_FractionText, r_spec_FractionText, hf, fracT, frT, ha, hd, hp, decB_neg hp, z1]
      · have hqb : (q != 1) = true := by simpa using hq
        simp -dsimp -implicitDefEqProofs [c_spec_FractionText, r_spec_FractionText, hf, fracT, frT, ha, hd, hd2, hp, hq, hqb, decB_neg hp, z1, z2, z4, slashB, ByteArray.append_assoc]
    · have e0 : ((p.natAbs : Nat) : Int) = p := by omega
      rw [e0] at hd s0 z1 z3 z4 ha
      by_cases hq : q = 1
      · subst hq
        simp -dsimp -implicitDefEqProofs [c_spec_FractionText, r_spec_FractionText, hf, fracT, frT, ha, hd, hp, z1]
      · have hqb : (q != 1) = true := by simpa using hq
        simp -dsimp -implicitDefEqProofs [c_spec_FractionText, r_spec_FractionText, hf, fracT, frT, ha, hd, hd2, hp, hq, hqb, z1, z2, z3, slashB, ByteArray.append_assoc]
theorem beq_ba (a : ByteArray) : (a == a) = true := by show (a.data == a.data) = true; simp
theorem bne_ba (a : ByteArray) : (a != a) = false := by unfold bne; rw [beq_ba]; rfl
def tyFraction : Ty := .st [.int .i64, .int .i64]
theorem law_fractionText (xs : List AV) (h : WtA [tyFraction] xs) : T PP 3 xs .nil fun r _ => r = .bool true := by
  simp only [WtA_cons, WtA_nil] at h
  obtain ⟨x, _, rfl, hx, rfl⟩ := h
  simp only [tyFraction, WtV_st, WtL_int, WtL_nil] at hx
  obtain ⟨_, rfl, p, _, rfl, hp, q, _, rfl, hq, rfl⟩ := hx
  refine (P_code (r := .bool true) (Quiet.q1 q_laws_toFraction (Quiet.q1 q_spec_FractionText (Quiet.q1 q_impl_FractionText Quiet.nil))) hmix k_laws_FnExactFractionText rfl rfl ?_).mono fun r A' h => h.1
  simp -dsimp -implicitDefEqProofs [c_laws_FnExactFractionText, r_laws_FnExactFractionText, bne_ba]
end Go.Proofs.YtjfoenibffdoeaaDoorAi
end

section
/- Contracts and law: DeedText. -/
namespace Go.Proofs.YtjfoenibffdoeaaDoorAi
open Go Go.RowKit
set_option linter.unusedVariables false
set_option linter.unusedSimpArgs false
set_option maxRecDepth 20000

def wordB (k : Int) : ByteArray :=
  if k = 1 then ⟨#[103, 105, 118, 101]⟩ else if k = 2 then ⟨#[119, 111, 114, 107]⟩ else if k = 3 then ⟨#[100, 101, 108, 105, 118, 101, 114]⟩
  else if k = 4 then ⟨#[99, 111, 112, 121]⟩ else if k = 5 then ⟨#[100, 114, 111, 112]⟩ else if k = 6 then ⟨#[115, 97, 118, 101]⟩ else if k = 7 then ⟨#[99, 114, 97, 115, 104]⟩ else noB
def manyI (k : Int) : Int := if k = 1 then 2 else if k = 2 then 1 else if k = 3 then 1 else if k = 4 then 1 else if k = 5 then 1 else 0
noncomputable def sp_wordOf : List AV → Option (AV) := pf (ι := (Int)) (α := AV) (fun k => True) (fun k => [.int .i64 k]) (fun k => .tup [.str (wordB k), .int .i64 (manyI k)])
theorem sp_wordOf_eq (k : Int) : sp_wordOf [.int .i64 k] = some (.tup [.str (wordB k), .int .i64 (manyI k)]) := by
  unfold sp_wordOf
  exact pf_eq (ι := (Int)) (α := AV) k trivial (by rintro k' _ e; simp_all [Int.natCast_inj])
attribute [simp] sp_wordOf_eq
theorem q_impl_wordOf : QP PP 57 sp_wordOf := by
  refine QP_pf (fun k h => ?_) fun k h => ?_
  · exact ⟨by first | rfl | simp, by first | rfl | simp⟩
  replace h : True := h
  refine P_code Quiet.nil hmix k_impl_wordOf rfl ?_ ?_
  · first | rfl | simp
  show wpc 0 PP _ c_impl_wordOf (initSt [.int .i64 k] .nil) (endP r_impl_wordOf (.tup [.str (wordB k), .int .i64 (manyI k)]))
  by_cases h1 : k = 1
  · subst h1; simp -dsimp -implicitDefEqProofs [c_impl_wordOf, r_impl_wordOf, wordB, manyI]
  by_cases h2 : k = 2
  · subst h2; simp -dsimp -implicitDefEqProofs [c_impl_wordOf, r_impl_wordOf, wordB, manyI]
  by_cases h3 : k = 3
  · subst h3; simp -dsimp -implicitDefEqProofs [c_impl_wordOf, r_impl_wordOf, wordB, manyI]
  by_cases h4 : k = 4
  · subst h4; simp -dsimp -implicitDefEqProofs [c_impl_wordOf, r_impl_wordOf, wordB, manyI]
  by_cases h5 : k = 5
  · subst h5; simp -dsimp -implicitDefEqProofs [c_impl_wordOf, r_impl_wordOf, wordB, manyI]
  by_cases h6 : k = 6
  · subst h6; simp -dsimp -implicitDefEqProofs [c_impl_wordOf, r_impl_wordOf, wordB, manyI]
  by_cases h7 : k = 7
  · subst h7; simp -dsimp -implicitDefEqProofs [c_impl_wordOf, r_impl_wordOf, wordB, manyI]
  have b1 : (k == 1) = false := by simpa using h1
  have b2 : (k == 2) = false := by simpa using h2
  have b3 : (k == 3) = false := by simpa using h3
  have b4 : (k == 4) = false := by simpa using h4
  have b5 : (k == 5) = false := by simpa using h5
  have b6 : (k == 6) = false := by simpa using h6
  have b7 : (k == 7) = false := by simpa using h7
  simp -dsimp -implicitDefEqProofs [c_impl_wordOf, r_impl_wordOf, wordB, manyI, h1, h2, h3, h4, h5, h6, h7, b1, b2, b3, b4, b5, b6, b7, noB]
def wordsO : List AV := [.str ⟨#[]⟩, .str (wordB 1), .str (wordB 2), .str (wordB 3), .str (wordB 4), .str (wordB 5), .str (wordB 6), .str (wordB 7)]
def toldO : List AV := [.int .i64 0, .int .i64 2, .int .i64 1, .int .i64 1, .int .i64 1, .int .i64 1, .int .i64 0, .int .i64 0]
noncomputable def sp_l08Words : List AV → Option (AV × List (Option (List AV))) := pf (ι := Unit) (α := AV × List (Option (List AV))) (fun _ => True) (fun _ => []) (fun _ => (.tup [.ref 0 1 0 8 .tight, .ref 1 1 0 8 .tight], [some wordsO, some toldO]))
theorem sp_l08Words_eq  : sp_l08Words [] = some ((.tup [.ref 0 1 0 8 .tight, .ref 1 1 0 8 .tight], [some wordsO, some toldO])) := by
  unfold sp_l08Words
  exact pf_eq (ι := Unit) (α := AV × List (Option (List AV))) () trivial (by rintro _ _ e; simp_all [Int.natCast_inj])
attribute [simp] sp_l08Words_eq
theorem n_spec_l08Words : QN PP 55 sp_l08Words := by
  refine QN_pf (fun i h => ?_) fun i h => ?_
  · first | rfl | simp
  replace h : True := h
  show T PP 55 [] .nil fun r' A' => r' = (((.tup [.ref 0 1 0 8 .tight, .ref 1 1 0 8 .tight], [some wordsO, some toldO]) : AV × List (Option (List AV)))).1 ∧ A' = ⟨(((.tup [.ref 0 1 0 8 .tight, .ref 1 1 0 8 .tight], [some wordsO, some toldO]) : AV × List (Option (List AV)))).2⟩
  refine H_code Quiet.nil hmix k_spec_l08Words rfl (fun b => b) (by simp [AHeap.n, AHeap.nil]) (by intro b hb; simp [AHeap.n, AHeap.nil] at hb <;> subst hb <;> rfl) (by rfl) (by first | rfl | simp) ?_
  simp -dsimp -implicitDefEqProofs [c_spec_l08Words, r_spec_l08Words, wordsO, toldO, hsub, wordB]
def deedOk (k a b : Int) : Bool := decide (1 ≤ k ∧ k ≤ 7) && decide (0 ≤ a ∧ a ≤ 999) && decide (0 ≤ b ∧ b ≤ 999) && (decide (0 < manyI k) || a == 0) && (decide (1 < manyI k) || b == 0)
noncomputable def sp_deedOk : List AV → Option (AV) := pf (ι := (Int) × (Int) × (Int)) (α := AV) (fun ⟨k, a, b⟩ => True) (fun ⟨k, a, b⟩ => [.agg [.int .i64 k, .int .i64 a, .int .i64 b]]) (fun ⟨k, a, b⟩ => .bool (deedOk k a b))
theorem sp_deedOk_eq (k a b : Int) : sp_deedOk [.agg [.int .i64 k, .int .i64 a, .int .i64 b]] = some (.bool (deedOk k a b)) := by
  unfold sp_deedOk
  exact pf_eq (ι := (Int) × (Int) × (Int)) (α := AV) (k, a, b) trivial (by rintro ⟨k', a', b'⟩ _ e; simp_all [Int.natCast_inj])
attribute [simp] sp_deedOk_eq
theorem seven {k : Int} (h : 1 ≤ k ∧ k ≤ 7) : k = 1 ∨ k = 2 ∨ k = 3 ∨ k = 4 ∨ k = 5 ∨ k = 6 ∨ k = 7 := by omega
theorem q_spec_l08Deed : QP PP 54 sp_deedOk := by
  refine QP_pf (fun i h => ?_) fun i h => ?_
  · obtain ⟨k, a, b⟩ := i; exact ⟨by first | rfl | simp, by first | rfl | simp⟩
  obtain ⟨k, a, b⟩ := i
  replace h : True := h
  refine P_code (Quiet.q1 q_spec_l00In (Quiet.e1 n_spec_l08Words.toE Quiet.nil)) hmix k_spec_l08Deed rfl ?_ ?_
  · first | rfl | simp
  show wpc 0 PP _ c_spec_l08Deed (initSt [.agg [.int .i64 k, .int .i64 a, .int .i64 b]] .nil) (endP r_spec_l08Deed (.bool (deedOk k a b)))
  by_cases ck : 1 ≤ k ∧ k ≤ 7
  · by_cases ca : 0 ≤ a ∧ a ≤ 999
    · by_cases cb : 0 ≤ b ∧ b ≤ 999
      · rcases seven ck with rfl | rfl | rfl | rfl | rfl | rfl | rfl <;> (cases ha : (a == 0) <;> cases hb : (b == 0) <;> simp -dsimp -implicitDefEqProofs [c_spec_l08Deed, r_spec_l08Deed, deedOk, manyI, ca, cb, ha, hb, wordsO, toldO])
      · have cb' : (decide (0 ≤ b) && decide (b ≤ 999)) = false := by simpa using cb
        have hv : deedOk k a b = false := by unfold deedOk; simp [cb]
        simp -dsimp -implicitDefEqProofs [c_spec_l08Deed, r_spec_l08Deed, hv, ck, ca, cb']
    · have ca' : (decide (0 ≤ a) && decide (a ≤ 999)) = false := by simpa using ca
      have hv : deedOk k a b = false := by unfold deedOk; simp [ca]
      simp -dsimp -implicitDefEqProofs [c_spec_l08Deed, r_spec_l08Deed, hv, ck, ca']
  · have ck' : (decide (1 ≤ k) && decide (k ≤ 7)) = false := by simpa using ck
    have hv : deedOk k a b = false := by unfold deedOk; simp [ck]
    simp -dsimp -implicitDefEqProofs [c_spec_l08Deed, r_spec_l08Deed, hv, ck']
theorem wordB_none {k : Int} (h : ¬ (1 ≤ k ∧ k ≤ 7)) : wordB k = ⟨#[]⟩ := by
  unfold wordB
  rw [if_neg (by omega), if_neg (by omega), if_neg (by omega), if_neg (by omega), if_neg (by omega), if_neg (by omega), if_neg (by omega)]; rfl
theorem wordB_some {k : Int} (h : 1 ≤ k ∧ k ≤ 7) : (wordB k != ⟨#[]⟩) = true := by
  rcases seven h with rfl | rfl | rfl | rfl | rfl | rfl | rfl <;> rfl
theorem manyI_in (k : Int) : 0 ≤ manyI k ∧ manyI k ≤ 2 := by
  unfold manyI; repeat' split
  all_goals omega
theorem q_impl_ValidDeed : QP PP 56 sp_deedOk := by
  refine QP_pf (fun i h => ?_) fun i h => ?_
  · obtain ⟨k, a, b⟩ := i; exact ⟨by first | rfl | simp, by first | rfl | simp⟩
  obtain ⟨k, a, b⟩ := i
  replace h : True := h
  refine P_code (Quiet.q1 q_impl_wordOf (Quiet.q1 q_impl_in Quiet.nil)) hmix k_impl_ValidDeed rfl ?_ ?_
  · first | rfl | simp
  show wpc 0 PP _ c_impl_ValidDeed (initSt [.agg [.int .i64 k, .int .i64 a, .int .i64 b]] .nil) (endP r_impl_ValidDeed (.bool (deedOk k a b)))
  by_cases ck : 1 ≤ k ∧ k ≤ 7
  · have hw := wordB_some ck
    by_cases ca : 0 ≤ a ∧ a ≤ 999
    · by_cases cb : 0 ≤ b ∧ b ≤ 999
      · have c1 : (decide (1 ≤ k) && decide (k ≤ 7)) = true := by simpa using ck
        cases hm : decide (0 < manyI k) <;> cases hm2 : decide (1 < manyI k) <;> cases ha : (a == 0) <;> cases hb : (b == 0) <;> simp -dsimp -implicitDefEqProofs [c_impl_ValidDeed, r_impl_ValidDeed, deedOk, ck, hw, ca, cb, ha, hb, hm, hm2]
      · have cb' : (decide (0 ≤ b) && decide (b ≤ 999)) = false := by simpa using cb
        have hv : deedOk k a b = false := by unfold deedOk; simp [cb]
        simp -dsimp -implicitDefEqProofs [c_impl_ValidDeed, r_impl_ValidDeed, hv, hw, ca, cb']
    · have ca' : (decide (0 ≤ a) && decide (a ≤ 999)) = false := by simpa using ca
      have hv : deedOk k a b = false := by unfold deedOk; simp [ca]
      simp -dsimp -implicitDefEqProofs [c_impl_ValidDeed, r_impl_ValidDeed, hv, hw, ca']
  · have hv : deedOk k a b = false := by unfold deedOk; simp [ck]
    simp -dsimp -implicitDefEqProofs [c_impl_ValidDeed, r_impl_ValidDeed, hv, wordB_none ck, bne_ba]
end Go.Proofs.YtjfoenibffdoeaaDoorAi
end

section
/- Contracts and law: DeedText. -/
namespace Go.Proofs.YtjfoenibffdoeaaDoorAi
open Go Go.RowKit
set_option linter.unusedVariables false
set_option linter.unusedSimpArgs false
set_option maxRecDepth 20000

def blankB : ByteArray := ⟨#[32]⟩
def accT (w : ByteArray) (a b : Int) : Nat → ByteArray
  | 0 => w
  | 1 => w ++ (blankB ++ decB a)
  | _ => w ++ (blankB ++ decB a) ++ (blankB ++ decB b)
theorem accT_0 (w : ByteArray) (a b : Int) : accT w a b 0 = w := rfl
theorem accT_1 (w : ByteArray) (a b : Int) : accT w a b 1 = w ++ (blankB ++ decB a) := rfl
theorem accT_2 (w : ByteArray) (a b : Int) : accT w a b 2 = w ++ (blankB ++ decB a) ++ (blankB ++ decB b) := rfl
theorem wordB_size (k : Int) : (wordB k).size ≤ 7 := by
  unfold wordB; repeat' split
  all_goals decide
def deedT (k a b : Int) : ByteArray := if deedOk k a b = true then accT (wordB k) a b (manyI k).toNat else noB
noncomputable def sp_deedText : List AV → Option (AV) := pf (ι := (Int) × (Int) × (Int)) (α := AV) (fun ⟨k, a, b⟩ => True) (fun ⟨k, a, b⟩ => [.agg [.int .i64 k, .int .i64 a, .int .i64 b]]) (fun ⟨k, a, b⟩ => .str (deedT k a b))
theorem sp_deedText_eq (k a b : Int) : sp_deedText [.agg [.int .i64 k, .int .i64 a, .int .i64 b]] = some (.str (deedT k a b)) := by
  unfold sp_deedText
  exact pf_eq (ι := (Int) × (Int) × (Int)) (α := AV) (k, a, b) trivial (by rintro ⟨k', a', b'⟩ _ e; simp_all [Int.natCast_inj])
attribute [simp] sp_deedText_eq
theorem q_impl_DeedText : QP PP 18 sp_deedText := by
  refine QP_pf (fun i h => ?_) fun i h => ?_
  · obtain ⟨k, a, b⟩ := i; exact ⟨by first | rfl | simp, by first | rfl | simp⟩
  obtain ⟨k, a, b⟩ := i
  replace h : True := h
  refine P_code (Quiet.q1 q_impl_ValidDeed (Quiet.q1 q_impl_wordOf (Quiet.q1 q_impl_decimal Quiet.nil))) hmix k_impl_DeedText rfl ?_ ?_
  · first | rfl | simp
  show wpc 0 PP _ c_impl_DeedText (initSt [.agg [.int .i64 k, .int .i64 a, .int .i64 b]] .nil) (endP r_impl_DeedText (.str (deedT k a b)))
  cases hv : deedOk k a b with
  | false => simp -dsimp -implicitDefEqProofs [c_impl_DeedText, r_impl_DeedText, hv, deedT, noB]
  | true =>
    have hm := manyI_in k
    have hT : deedT k a b = accT (wordB k) a b (manyI k).toNat := by unfold deedT; rw [if_pos hv]
    rw [hT]
    have hab : (0 ≤ a ∧ a ≤ 999) ∧ (0 ≤ b ∧ b ≤ 999) := by
      unfold deedOk at hv
      simp only [Bool.and_eq_true, decide_eq_true_eq] at hv
      exact ⟨hv.1.1.1.2, hv.1.1.2⟩
    obtain ⟨m, hk, hm2⟩ : ∃ m : Nat, manyI k = (m : Int) ∧ m ≤ 2 := ⟨(manyI k).toNat, by omega, by omega⟩
    have hm3 : (m : Int) ≤ 2 := by omega
    have hw := wordB_size k
    have hda := sp_decimal_eq a (by omega)
    have hdb := sp_decimal_eq b (by omega)
    have sa := decB_size a (by omega) (by omega)
    have sb := decB_size b (by omega) (by omega)
    rw [hk, Int.toNat_natCast]
    simp -dsimp -implicitDefEqProofs [c_impl_DeedText, r_impl_DeedText, hv, hk, hm2, hm3]
    refine wpLoop_st (fun (i : Nat) => ⟨tl [(3, .str (accT (wordB k) a b i)), (22, .ref 1 1 0 m (if m = 2 then .tight else .unk)), (23, .int .i64 m), (24, .int .i64 i)], ⟨[some [.int .i64 k, .int .i64 a, .int .i64 b], some [.int .i64 a, .int .i64 b]]⟩⟩) (fun i => i ≤ m) (fun i => m - i) 0 (Nat.zero_le _) (Sub.keep (by simp) (by simp [hsub]) (by simp [accT_0])) ?_
    rintro i hi
    simp -dsimp -implicitDefEqProofs
    refine brW_of (fun h => ?_) (fun h => ?_) <;> simp only [decide_eq_true_eq, decide_eq_false_iff_not] at h
    · have hx : i < m := by omega
      have hx' : (i : Int) < m := by omega
      have hwx := wrapNat (i := i) (by omega)
      obtain rfl | rfl : i = 0 ∨ i = 1 := by omega
      · have w1 : IntKind.wrap .i64 1 = 1 := rfl
        have hx1 : (0 : Int) < m := by omega
        have z1 : 1 + (decB a).size ≤ 9223372036854775807 := by omega
        have z2 : (wordB k).size + (1 + (decB a).size) ≤ 9223372036854775807 := by omega
        simp -dsimp -implicitDefEqProofs [hx, hx', hx1, hwx, hda, z1, z2, accT_0, accT_1, blankB]
        exact .mk 1 (by omega) (by omega) (Sub.keep (by simp) (by simp [hsub]) (by simp [accT_1, blankB, w1]))
      · have w2 : IntKind.wrap .i64 2 = 2 := rfl
        have hx1 : (1 : Int) < m := by omega
        have z1 : 1 + (decB b).size ≤ 9223372036854775807 := by omega
        have z2 : (wordB k).size + (1 + (decB a).size) + (1 + (decB b).size) ≤ 9223372036854775807 := by omega
        simp -dsimp -implicitDefEqProofs [hx, hx', hx1, hwx, hdb, z1, z2, accT_0, accT_1, blankB]
        exact .mk 2 (by omega) (by omega) (Sub.keep (by simp) (by simp [hsub]) (by simp [accT_2, blankB, w2]))
    · obtain rfl : i = m := by omega
      simp -dsimp -implicitDefEqProofs
theorem q_spec_DeedText : QP PP 16 sp_deedText := by
  refine QP_pf (fun i h => ?_) fun i h => ?_
  · obtain ⟨k, a, b⟩ := i; exact ⟨by first | rfl | simp, by first | rfl | simp⟩
  obtain ⟨k, a, b⟩ := i
  replace h : True := h
  refine P_code (Quiet.q1 q_spec_l08Deed (Quiet.q1 q_spec_Decimal (Quiet.e1 n_spec_l08Words.toE Quiet.nil))) hmix k_spec_DeedText rfl ?_ ?_
  · first | rfl | simp
  show wpc 0 PP _ c_spec_DeedText (initSt [.agg [.int .i64 k, .int .i64 a, .int .i64 b]] .nil) (endP r_spec_DeedText (.str (deedT k a b)))
  cases hv : deedOk k a b with
  | false => simp -dsimp -implicitDefEqProofs [c_spec_DeedText, r_spec_DeedText, hv, deedT, noB]
  | true =>
    have hT : deedT k a b = accT (wordB k) a b (manyI k).toNat := by unfold deedT; rw [if_pos hv]
    rw [hT]
    have hab : (1 ≤ k ∧ k ≤ 7) ∧ (0 ≤ a ∧ a ≤ 999) ∧ (0 ≤ b ∧ b ≤ 999) := by
      unfold deedOk at hv
      simp only [Bool.and_eq_true, decide_eq_true_eq] at hv
      exact ⟨hv.1.1.1.1, hv.1.1.1.2, hv.1.1.2⟩
    have hw := wordB_size k
    have hda := sp_decS_eq a (by omega)
    have hdb := sp_decS_eq b (by omega)
    have sa := decB_size a (by omega) (by omega)
    have sb := decB_size b (by omega) (by omega)
    have z1 : 1 + (decB a).size ≤ 9223372036854775807 := by omega
    have z2 : 1 + (decB b).size ≤ 9223372036854775807 := by omega
    have z3 : (wordB k).size + (1 + (decB a).size) ≤ 9223372036854775807 := by omega
    have z4 : (wordB k).size + (1 + (decB a).size) + (1 + (decB b).size) ≤ 9223372036854775807 := by omega
    have m1 : manyI 1 = 2 := rfl
    have m2 : manyI 2 = 1 := rfl
    have m3 : manyI 3 = 1 := rfl
    have m4 : manyI 4 = 1 := rfl
    have m5 : manyI 5 = 1 := rfl
    have m6 : manyI 6 = 0 := rfl
    have m7 : manyI 7 = 0 := rfl
    rcases seven hab.1 with rfl | rfl | rfl | rfl | rfl | rfl | rfl <;> simp -dsimp -implicitDefEqProofs [c_spec_DeedText, r_spec_DeedText, hv, wordsO, toldO, hda, hdb, z1, z2, z3, z4, m1, m2, m3, m4, m5, m6, m7, accT_0, accT_1, accT_2, blankB]
noncomputable def sp_toDeed : List AV → Option (AV) := pf (ι := (Int) × (Int) × (Int)) (α := AV) (fun ⟨k, a, b⟩ => True) (fun ⟨k, a, b⟩ => [.agg [.int .i64 k, .int .i64 a, .int .i64 b]]) (fun ⟨k, a, b⟩ => .agg [.int .i64 k, .int .i64 a, .int .i64 b])
theorem sp_toDeed_eq (k a b : Int) : sp_toDeed [.agg [.int .i64 k, .int .i64 a, .int .i64 b]] = some (.agg [.int .i64 k, .int .i64 a, .int .i64 b]) := by
  unfold sp_toDeed
  exact pf_eq (ι := (Int) × (Int) × (Int)) (α := AV) (k, a, b) trivial (by rintro ⟨k', a', b'⟩ _ e; simp_all [Int.natCast_inj])
attribute [simp] sp_toDeed_eq
theorem q_laws_toDeed : QP PP 17 sp_toDeed := by
  refine QP_pf (fun i h => ?_) fun i h => ?_
  · obtain ⟨k, a, b⟩ := i; exact ⟨by first | rfl | simp, by first | rfl | simp⟩
  obtain ⟨k, a, b⟩ := i
  replace h : True := h
  refine P_code Quiet.nil hmix k_laws_toDeed rfl ?_ ?_
  · first | rfl | simp
  show wpc 0 PP _ c_laws_toDeed (initSt [.agg [.int .i64 k, .int .i64 a, .int .i64 b]] .nil) (endP r_laws_toDeed (.agg [.int .i64 k, .int .i64 a, .int .i64 b]))
  simp -dsimp -implicitDefEqProofs [c_laws_toDeed, r_laws_toDeed]
def tyDeed : Ty := .st [.int .i64, .int .i64, .int .i64]
theorem law_deedText (xs : List AV) (h : WtA [tyDeed] xs) : T PP 4 xs .nil fun r _ => r = .bool true := by
  simp only [WtA_cons, WtA_nil] at h
  obtain ⟨x, _, rfl, hx, rfl⟩ := h
  simp only [tyDeed, WtV_st, WtL_int, WtL_nil] at hx
  obtain ⟨_, rfl, k, _, rfl, hk, a, _, rfl, ha, b, _, rfl, hb, rfl⟩ := hx
  refine (P_code (r := .bool true) (Quiet.q1 q_laws_toDeed (Quiet.q1 q_spec_DeedText (Quiet.q1 q_impl_DeedText Quiet.nil))) hmix k_laws_FnExactDeedText rfl rfl ?_).mono fun r A' h => h.1
  simp -dsimp -implicitDefEqProofs [c_laws_FnExactDeedText, r_laws_FnExactDeedText, bne_ba]
end Go.Proofs.YtjfoenibffdoeaaDoorAi
end
