/- Contracts, joined. -/
import Derived.Test.YtgophedkejgedaaDoorMfe1
import Derived.Test.YtgophedkejgedaaDoorAiX
import Derived.Test.YtgophedkejgedaaDoorProg
import Derived.Test.YtgophedkejgedaaDoorShelfA
import Derived.Test.YtgophedkejgedaaDoorShelfC
section
/- Contracts: validity of patterns. -/
namespace Go.Proofs.YtgophedkejgedaaDoorAi
open Go Go.RowKit
set_option linter.unusedVariables false
set_option linter.unusedSimpArgs false

noncomputable def sp_l02List : List AV → Option (AV) := pf (ι := (List Fr)) (α := AV) (fun l => l.length ≤ maxLen) (fun l => [.sl (frsA l) false]) (fun l => .bool (allOk l && decide (l.length ≤ 256)))
theorem sp_l02List_eq (l : List Fr) (h : l.length ≤ maxLen) : sp_l02List [.sl (frsA l) false] = some (.bool (allOk l && decide (l.length ≤ 256))) := by
  unfold sp_l02List
  exact pf_eq (ι := (List Fr)) (α := AV) l h (by rintro l' _ e; simp_all [Int.natCast_inj])
def sumO : Fr → List Fr → Option Fr
  | a, [] => some a
  | a, x :: xs => (add2 a x).bind fun s => sumO s xs
def sumA (l : List Fr) : AV := if allOk l = true ∧ l.length ≤ 256 then frO (sumO ⟨0, 1⟩ l) else .tup [.agg [.int .i64 0, .int .i64 0], .int .i64 1]
@[simp] theorem sumA_lt (l : List Fr) (n : Nat) : (sumA l).lt n = true := by unfold sumA; split <;> first | simp | rfl
noncomputable def sp_Sum : List AV → Option (AV) := pf (ι := (List Fr)) (α := AV) (fun l => l.length ≤ maxLen) (fun l => [.sl (frsA l) false]) (fun l => sumA l)
theorem sp_Sum_eq (l : List Fr) (h : l.length ≤ maxLen) : sp_Sum [.sl (frsA l) false] = some (sumA l) := by
  unfold sp_Sum
  exact pf_eq (ι := (List Fr)) (α := AV) l h (by rintro l' _ e; simp_all [Int.natCast_inj])
def loopsOk (n l : Int) : Bool := decide ((1 ≤ n ∧ n ≤ 4) ∧ l < 2 ^ n.toNat)
noncomputable def sp_form : List AV → Option (AV) := pf (ι := (Int) × (Int) × (Int)) (α := AV) (fun ⟨n, e, l⟩ => 0 ≤ l ∧ l ≤ 4294967295) (fun ⟨n, e, l⟩ => [.agg [.int .i64 n, .int .u32 e], .int .u32 l]) (fun ⟨n, e, l⟩ => .bool (loopsOk n l))
theorem sp_form_eq (n e l : Int) (h : 0 ≤ l ∧ l ≤ 4294967295) : sp_form [.agg [.int .i64 n, .int .u32 e], .int .u32 l] = some (.bool (loopsOk n l)) := by
  unfold sp_form
  exact pf_eq (ι := (Int) × (Int) × (Int)) (α := AV) (n, e, l) h (by rintro ⟨n', e', l'⟩ _ e; simp_all [Int.natCast_inj])
noncomputable def sp_shapeOk : List AV → Option (AV) := pf (ι := (Int) × (Int) × (Int)) (α := AV) (fun ⟨n, e, l⟩ => (0 ≤ e ∧ e ≤ 4294967295) ∧ (0 ≤ l ∧ l ≤ 4294967295)) (fun ⟨n, e, l⟩ => [.agg [.int .i64 n, .int .u32 e], .int .u32 l]) (fun ⟨n, e, l⟩ => .bool (graphOk n e && loopsOk n l))
theorem sp_shapeOk_eq (n e l : Int) (h : (0 ≤ e ∧ e ≤ 4294967295) ∧ (0 ≤ l ∧ l ≤ 4294967295)) : sp_shapeOk [.agg [.int .i64 n, .int .u32 e], .int .u32 l] = some (.bool (graphOk n e && loopsOk n l)) := by
  unfold sp_shapeOk
  exact pf_eq (ι := (Int) × (Int) × (Int)) (α := AV) (n, e, l) h (by rintro ⟨n', e', l'⟩ _ e; simp_all [Int.natCast_inj])
def nnAll (ps : List Fr) : Bool := ps.all fun x => decide (0 ≤ x.p)
def patOk (n e l : Int) (ps : List Fr) : Bool := graphOk n e && loopsOk n l && decide ((ps.length : Int) = n) && allOk ps && nnAll ps && decide (sumO ⟨0, 1⟩ ps = some ⟨1, 1⟩)
theorem nnAll_false {ps : List Fr} {i : Nat} (h : i < ps.length) (hf : ps[i].p < 0) : nnAll ps = false := by
  unfold nnAll
  rw [List.all_eq_false]
  exact ⟨ps[i], List.getElem_mem h, by simp; omega⟩
theorem nnAll_step {ps : List Fr} {i : Nat} (h : i < ps.length) (h1 : nnAll (ps.take i) = true) (hf : ¬ ps[i].p < 0) : nnAll (ps.take (i + 1)) = true := by
  rw [take_snoc ps i h]
  unfold nnAll at *
  rw [List.all_append, h1]
  simp
  omega

noncomputable def sp_l07Ok : List AV → List AV → Option (AV × List AV) := pm (pf (ι := (Int) × (Int) × (Int) × (List Fr)) (α := AV × List AV) (fun ⟨n, e, l, ps⟩ => (0 ≤ e ∧ e ≤ 4294967295) ∧ (0 ≤ l ∧ l ≤ 4294967295) ∧ ps.length ≤ maxLen) (fun i => .agg ((fun ⟨n, e, l, ps⟩ => [.int .i64 n, .int .u32 e, .int .u32 l, .sl (frsA ps) false] : (Int) × (Int) × (Int) × (List Fr) → List AV) i) :: (fun ⟨n, e, l, ps⟩ => [] : (Int) × (Int) × (Int) × (List Fr) → List AV) i) (fun ⟨n, e, l, ps⟩ => (.bool (patOk n e l ps), [.int .i64 n, .int .u32 e, .int .u32 l, .sl (frsA ps) false])))
theorem sp_l07Ok_eq (n e l : Int) (ps : List Fr) (h : (0 ≤ e ∧ e ≤ 4294967295) ∧ (0 ≤ l ∧ l ≤ 4294967295) ∧ ps.length ≤ maxLen) : sp_l07Ok [.int .i64 n, .int .u32 e, .int .u32 l, .sl (frsA ps) false] [] = some (.bool (patOk n e l ps), [.int .i64 n, .int .u32 e, .int .u32 l, .sl (frsA ps) false]) := by
  unfold sp_l07Ok pm
  exact pf_eq (ι := (Int) × (Int) × (Int) × (List Fr)) (α := AV × List AV) (n, e, l, ps) h (by rintro ⟨n', e', l', ps'⟩ _ e; simp_all [Int.natCast_inj])
noncomputable def sp_patOk : List AV → Option (AV) := pf (ι := (Int) × (Int) × (Int) × (List Fr)) (α := AV) (fun ⟨n, e, l, ps⟩ => (0 ≤ e ∧ e ≤ 4294967295) ∧ (0 ≤ l ∧ l ≤ 4294967295) ∧ ps.length ≤ maxLen) (fun ⟨n, e, l, ps⟩ => [.agg [.int .i64 n, .int .u32 e, .int .u32 l, .sl (frsA ps) false]]) (fun ⟨n, e, l, ps⟩ => .bool (patOk n e l ps))
theorem sp_patOk_eq (n e l : Int) (ps : List Fr) (h : (0 ≤ e ∧ e ≤ 4294967295) ∧ (0 ≤ l ∧ l ≤ 4294967295) ∧ ps.length ≤ maxLen) : sp_patOk [.agg [.int .i64 n, .int .u32 e, .int .u32 l, .sl (frsA ps) false]] = some (.bool (patOk n e l ps)) := by
  unfold sp_patOk
  exact pf_eq (ι := (Int) × (Int) × (Int) × (List Fr)) (α := AV) (n, e, l, ps) h (by rintro ⟨n', e', l', ps'⟩ _ e; simp_all [Int.natCast_inj])
end Go.Proofs.YtgophedkejgedaaDoorAi
end

section
/- Contracts: validity of patterns, as the program has it; its law. -/
namespace Go.Proofs.YtgophedkejgedaaDoorAi
open Go Go.RowKit
set_option linter.unusedVariables false
set_option linter.unusedSimpArgs false

/-- The sum as the program makes it. -/
def sumG : Fr → Bool → List Fr → Fr × Bool
  | a, g, [] => (a, g)
  | a, g, x :: xs => sumG (valO (add2 a x)) (g || (add2 a x).isNone) xs
theorem sumG_true : ∀ (xs : List Fr) (a : Fr), (sumG a true xs).2 = true
  | [], a => rfl
  | x :: xs, a => by rw [sumG]; simpa using sumG_true xs _
theorem sumO_G : ∀ (xs : List Fr) (a : Fr) (g : Bool), (∀ v, sumO a xs = some v → sumG a g xs = (v, g)) ∧ (sumO a xs = none → (sumG a g xs).2 = true)
  | [], a, g => by simp [sumO, sumG]
  | x :: xs, a, g => by
    rw [sumO, sumG]
    cases ha : add2 a x with
    | none => simp [sumG_true]
    | some s => simpa [valO, ha] using sumO_G xs s g
theorem sumG_one (l : List Fr) : (!(sumG ⟨0, 1⟩ false l).2 && decide ((sumG ⟨0, 1⟩ false l).1 = ⟨1, 1⟩)) = decide (sumO ⟨0, 1⟩ l = some ⟨1, 1⟩) := by
  obtain ⟨h1, h2⟩ := sumO_G l ⟨0, 1⟩ false
  cases e : sumO ⟨0, 1⟩ l with
  | none => simp [h2 e]
  | some v => rw [h1 v e]; simp

/-! ### the law's own functions -/
noncomputable def sp_szFractionS : List AV → Option (AV) := pf (ι := (List Fr) × (Int)) (α := AV) (fun ⟨l, n⟩ => 0 ≤ n ∧ n ≤ 1048576 ∧ l.length ≤ maxLen) (fun ⟨l, n⟩ => [.sl (frsA l) false, .int .i64 n]) (fun ⟨l, n⟩ => .int .i64 (if (l.length : Int) ≤ n then n - l.length else -1))
theorem sp_szFractionS_eq (l : List Fr) (n : Int) (h : 0 ≤ n ∧ n ≤ 1048576 ∧ l.length ≤ maxLen) : sp_szFractionS [.sl (frsA l) false, .int .i64 n] = some (.int .i64 (if (l.length : Int) ≤ n then n - l.length else -1)) := by
  unfold sp_szFractionS
  exact pf_eq (ι := (List Fr) × (Int)) (α := AV) (l, n) h (by rintro ⟨l', n'⟩ _ e; simp_all [Int.natCast_inj])
noncomputable def sp_szPattern : List AV → Option (AV) := pf (ι := (Int) × (Int) × (Int) × (List Fr) × (Int)) (α := AV) (fun ⟨n, e, l, ps, m⟩ => 0 ≤ m ∧ m ≤ 1048576 ∧ ps.length ≤ maxLen) (fun ⟨n, e, l, ps, m⟩ => [.agg [.int .i64 n, .int .u32 e, .int .u32 l, .sl (frsA ps) false], .int .i64 m]) (fun ⟨n, e, l, ps, m⟩ => .int .i64 (if (ps.length : Int) ≤ m then m - ps.length else -1))
theorem sp_szPattern_eq (n e l : Int) (ps : List Fr) (m : Int) (h : 0 ≤ m ∧ m ≤ 1048576 ∧ ps.length ≤ maxLen) : sp_szPattern [.agg [.int .i64 n, .int .u32 e, .int .u32 l, .sl (frsA ps) false], .int .i64 m] = some (.int .i64 (if (ps.length : Int) ≤ m then m - ps.length else -1)) := by
  unfold sp_szPattern
  exact pf_eq (ι := (Int) × (Int) × (Int) × (List Fr) × (Int)) (α := AV) (n, e, l, ps, m) h (by rintro ⟨n', e', l', ps', m'⟩ _ e; simp_all [Int.natCast_inj])
noncomputable def sp_toFraction : List AV → Option (AV) := pf (ι := (Int) × (Int)) (α := AV) (fun ⟨p, q⟩ => True) (fun ⟨p, q⟩ => [.agg [.int .i64 p, .int .i64 q]]) (fun ⟨p, q⟩ => .agg [.int .i64 p, .int .i64 q])
theorem sp_toFraction_eq (p q : Int) : sp_toFraction [.agg [.int .i64 p, .int .i64 q]] = some (.agg [.int .i64 p, .int .i64 q]) := by
  unfold sp_toFraction
  exact pf_eq (ι := (Int) × (Int)) (α := AV) (p, q) trivial (by rintro ⟨p', q'⟩ _ e; simp_all [Int.natCast_inj])
attribute [simp] sp_toFraction_eq
theorem q_laws_toFraction : QP PP 135 sp_toFraction := by
  refine QP_pf (fun i h => ?_) fun i h => ?_
  · obtain ⟨p, q⟩ := i; exact ⟨by first | rfl | simp, by first | rfl | simp⟩
  obtain ⟨p, q⟩ := i
  replace h : True := h
  refine P_code Quiet.nil hmix k_laws_toFraction rfl ?_ ?_
  · first | rfl | simp
  show wpc 0 PP _ c_laws_toFraction (initSt [.agg [.int .i64 p, .int .i64 q]] .nil) (endP r_laws_toFraction (.agg [.int .i64 p, .int .i64 q]))
  simp -dsimp -implicitDefEqProofs [c_laws_toFraction, r_laws_toFraction]
noncomputable def sp_toGraph : List AV → Option (AV) := pf (ι := (Int) × (Int)) (α := AV) (fun ⟨n, e⟩ => True) (fun ⟨n, e⟩ => [.agg [.int .i64 n, .int .u32 e]]) (fun ⟨n, e⟩ => .agg [.int .i64 n, .int .u32 e])
theorem sp_toGraph_eq (n e : Int) : sp_toGraph [.agg [.int .i64 n, .int .u32 e]] = some (.agg [.int .i64 n, .int .u32 e]) := by
  unfold sp_toGraph
  exact pf_eq (ι := (Int) × (Int)) (α := AV) (n, e) trivial (by rintro ⟨n', e'⟩ _ e; simp_all [Int.natCast_inj])
attribute [simp] sp_toGraph_eq
theorem q_laws_toGraph : QP PP 42 sp_toGraph := by
  refine QP_pf (fun i h => ?_) fun i h => ?_
  · obtain ⟨n, e⟩ := i; exact ⟨by first | rfl | simp, by first | rfl | simp⟩
  obtain ⟨n, e⟩ := i
  replace h : True := h
  refine P_code Quiet.nil hmix k_laws_toGraph rfl ?_ ?_
  · first | rfl | simp
  show wpc 0 PP _ c_laws_toGraph (initSt [.agg [.int .i64 n, .int .u32 e]] .nil) (endP r_laws_toGraph (.agg [.int .i64 n, .int .u32 e]))
  simp -dsimp -implicitDefEqProofs [c_laws_toGraph, r_laws_toGraph]
theorem frsA_cells (l : List Fr) : ∀ x ∈ frsA l, x.cells.length = 2 ∧ ltL 0 x.cells = true := by
  intro x hx
  obtain ⟨p, _, rfl⟩ := List.mem_map.1 hx
  exact ⟨rfl, rfl⟩
noncomputable def sp_toFractionS : List AV → Option (AV) := pf (ι := (List Fr)) (α := AV) (fun l => l.length ≤ 1048576) (fun l => [.sl (frsA l) false]) (fun l => .sl (frsA l) false)
theorem sp_toFractionS_eq (l : List Fr) (h : l.length ≤ 1048576) : sp_toFractionS [.sl (frsA l) false] = some (.sl (frsA l) false) := by
  unfold sp_toFractionS
  exact pf_eq (ι := (List Fr)) (α := AV) l h (by rintro l' _ e; simp_all [Int.natCast_inj])
noncomputable def sp_toPattern : List AV → Option (AV) := pf (ι := (Int) × (Int) × (Int) × (List Fr)) (α := AV) (fun ⟨n, e, l, ps⟩ => ps.length ≤ 1048576) (fun ⟨n, e, l, ps⟩ => [.agg [.int .i64 n, .int .u32 e, .int .u32 l, .sl (frsA ps) false]]) (fun ⟨n, e, l, ps⟩ => .agg [.int .i64 n, .int .u32 e, .int .u32 l, .sl (frsA ps) false])
theorem sp_toPattern_eq (n e l : Int) (ps : List Fr) (h : ps.length ≤ 1048576) : sp_toPattern [.agg [.int .i64 n, .int .u32 e, .int .u32 l, .sl (frsA ps) false]] = some (.agg [.int .i64 n, .int .u32 e, .int .u32 l, .sl (frsA ps) false]) := by
  unfold sp_toPattern
  exact pf_eq (ι := (Int) × (Int) × (Int) × (List Fr)) (α := AV) (n, e, l, ps) h (by rintro ⟨n', e', l', ps'⟩ _ e; simp_all [Int.natCast_inj])
noncomputable def sp_eqFraction : List AV → Option (AV) := pf (ι := (Int) × (Int) × (Int) × (Int)) (α := AV) (fun ⟨p, q, p', q'⟩ => True) (fun ⟨p, q, p', q'⟩ => [.agg [.int .i64 p, .int .i64 q], .agg [.int .i64 p', .int .i64 q']]) (fun ⟨p, q, p', q'⟩ => .bool (p == p' && q == q'))
theorem sp_eqFraction_eq (p q p' q' : Int) : sp_eqFraction [.agg [.int .i64 p, .int .i64 q], .agg [.int .i64 p', .int .i64 q']] = some (.bool (p == p' && q == q')) := by
  unfold sp_eqFraction
  exact pf_eq (ι := (Int) × (Int) × (Int) × (Int)) (α := AV) (p, q, p', q') trivial (by rintro ⟨p', q', p'', q''⟩ _ e; simp_all [Int.natCast_inj])
attribute [simp] sp_eqFraction_eq
theorem q_laws_eqFraction : QP PP 141 sp_eqFraction := by
  refine QP_pf (fun i h => ?_) fun i h => ?_
  · obtain ⟨p, q, p', q'⟩ := i; exact ⟨by first | rfl | simp, by first | rfl | simp⟩
  obtain ⟨p, q, p', q'⟩ := i
  replace h : True := h
  refine P_code Quiet.nil hmix k_laws_eqFraction rfl ?_ ?_
  · first | rfl | simp
  show wpc 0 PP _ c_laws_eqFraction (initSt [.agg [.int .i64 p, .int .i64 q], .agg [.int .i64 p', .int .i64 q']] .nil) (endP r_laws_eqFraction (.bool (p == p' && q == q')))
  simp -dsimp -implicitDefEqProofs [c_laws_eqFraction, r_laws_eqFraction]
  repeat' (refine brW_of (fun h => ?_) (fun h => ?_) <;> have h0 := h <;> (try simp only [Bool.and_eq_true, Bool.and_eq_false_iff, Bool.or_eq_true, Bool.or_eq_false_iff, Bool.not_eq_true', Bool.not_eq_false', decide_eq_true_eq, decide_eq_false_iff_not, beq_iff_eq, beq_eq_false_iff_ne, bne_iff_ne, bne_eq_false_iff_eq] at h) <;> simp -dsimp -implicitDefEqProofs [h, h0, *])
noncomputable def sp_eqGraph : List AV → Option (AV) := pf (ι := (Int) × (Int) × (Int) × (Int)) (α := AV) (fun ⟨p, q, p', q'⟩ => True) (fun ⟨p, q, p', q'⟩ => [.agg [.int .i64 p, .int .u32 q], .agg [.int .i64 p', .int .u32 q']]) (fun ⟨p, q, p', q'⟩ => .bool (p == p' && q == q'))
theorem sp_eqGraph_eq (p q p' q' : Int) : sp_eqGraph [.agg [.int .i64 p, .int .u32 q], .agg [.int .i64 p', .int .u32 q']] = some (.bool (p == p' && q == q')) := by
  unfold sp_eqGraph
  exact pf_eq (ι := (Int) × (Int) × (Int) × (Int)) (α := AV) (p, q, p', q') trivial (by rintro ⟨p', q', p'', q''⟩ _ e; simp_all [Int.natCast_inj])
attribute [simp] sp_eqGraph_eq
theorem q_laws_eqGraph : QP PP 46 sp_eqGraph := by
  refine QP_pf (fun i h => ?_) fun i h => ?_
  · obtain ⟨p, q, p', q'⟩ := i; exact ⟨by first | rfl | simp, by first | rfl | simp⟩
  obtain ⟨p, q, p', q'⟩ := i
  replace h : True := h
  refine P_code Quiet.nil hmix k_laws_eqGraph rfl ?_ ?_
  · first | rfl | simp
  show wpc 0 PP _ c_laws_eqGraph (initSt [.agg [.int .i64 p, .int .u32 q], .agg [.int .i64 p', .int .u32 q']] .nil) (endP r_laws_eqGraph (.bool (p == p' && q == q')))
  simp -dsimp -implicitDefEqProofs [c_laws_eqGraph, r_laws_eqGraph]
  repeat' (refine brW_of (fun h => ?_) (fun h => ?_) <;> have h0 := h <;> (try simp only [Bool.and_eq_true, Bool.and_eq_false_iff, Bool.or_eq_true, Bool.or_eq_false_iff, Bool.not_eq_true', Bool.not_eq_false', decide_eq_true_eq, decide_eq_false_iff_not, beq_iff_eq, beq_eq_false_iff_ne, bne_iff_ne, bne_eq_false_iff_eq] at h) <;> simp -dsimp -implicitDefEqProofs [h, h0, *])
noncomputable def sp_eqFractionS : List AV → Option (AV) := pf (ι := (List Fr) × (List Fr)) (α := AV) (fun ⟨l, k⟩ => l.length ≤ maxLen) (fun ⟨l, k⟩ => [.sl (frsA l) false, .sl (frsA k) false]) (fun ⟨l, k⟩ => .bool (decide (l = k)))
theorem sp_eqFractionS_eq (l k : List Fr) (h : l.length ≤ maxLen) : sp_eqFractionS [.sl (frsA l) false, .sl (frsA k) false] = some (.bool (decide (l = k))) := by
  unfold sp_eqFractionS
  exact pf_eq (ι := (List Fr) × (List Fr)) (α := AV) (l, k) h (by rintro ⟨l', k'⟩ _ e; simp_all [Int.natCast_inj])
noncomputable def sp_eqPattern : List AV → Option (AV) := pf (ι := (Int) × (Int) × (Int) × (List Fr) × (Int) × (Int) × (Int) × (List Fr)) (α := AV) (fun ⟨n, e, l, ps, n', e', l', ps'⟩ => ps.length ≤ maxLen) (fun ⟨n, e, l, ps, n', e', l', ps'⟩ => [.agg [.int .i64 n, .int .u32 e, .int .u32 l, .sl (frsA ps) false], .agg [.int .i64 n', .int .u32 e', .int .u32 l', .sl (frsA ps') false]]) (fun ⟨n, e, l, ps, n', e', l', ps'⟩ => .bool ((n == n' && e == e') && (l == l') && decide (ps = ps')))
theorem sp_eqPattern_eq (n e l : Int) (ps : List Fr) (n' e' l' : Int) (ps' : List Fr) (h : ps.length ≤ maxLen) : sp_eqPattern [.agg [.int .i64 n, .int .u32 e, .int .u32 l, .sl (frsA ps) false], .agg [.int .i64 n', .int .u32 e', .int .u32 l', .sl (frsA ps') false]] = some (.bool ((n == n' && e == e') && (l == l') && decide (ps = ps'))) := by
  unfold sp_eqPattern
  exact pf_eq (ι := (Int) × (Int) × (Int) × (List Fr) × (Int) × (Int) × (Int) × (List Fr)) (α := AV) (n, e, l, ps, n', e', l', ps') h (by rintro ⟨n', e', l', ps', n'', e'', l'', ps''⟩ _ e; simp_all [Int.natCast_inj])
end Go.Proofs.YtgophedkejgedaaDoorAi
end

section
/- MADE BY PROGRAM (wip/tools/gen.py): the abstract code of functions. -/
namespace Go.Proofs.YtgophedkejgedaaDoorAi
open Go AC AOp Opd
set_option linter.unusedVariables false
set_option maxRecDepth 100000
def c_impl_bit : AC := seq (reg [⟨(some 4), mv (c (.int .u32 0)), none⟩]) (seq (seq (reg [⟨(some 5), mv (t 0), none⟩, ⟨(some 6), mv (t 1), none⟩, ⟨(some 7), bin .gtr (t 5) (t 6), none⟩]) (cond (t 7) (reg [⟨(some 8), mv (t 1), none⟩, ⟨(some 9), mv (t 0), none⟩, ⟨(some 0), mv (t 8), none⟩, ⟨(some 1), mv (t 9), none⟩]) (skip))) (seq (reg [⟨(some 10), mv (t 1), none⟩, ⟨(some 11), callq (c (.fn 90 [])) [t 10], none⟩, ⟨(some 12), mv (t 0), none⟩, ⟨(some 13), bin .add (t 11) (t 12), none⟩, ⟨(some 14), bin .shl (c (.int .u32 1)) (t 13), none⟩, ⟨(some 4), mv (t 14), none⟩]) (ret)))
def r_impl_bit : List ARes := [.tmp 4]
theorem k_impl_bit : acLin Go.Proofs.Tryd.prog 86 2 (inQ [90] []) [] = some (c_impl_bit, r_impl_bit) := by kernel_rfl
def c_impl_made : AC := seq (reg [⟨(some 4), alloc [.int .i64 0, .int .u32 0], none⟩]) (seq (reg [⟨(some 8), mv (t 0), none⟩, ⟨(some 9), bld [.int .i64 0, .int .u32 0] [(0, 1, t 8)], none⟩, ⟨(some 5), alloc [.int .i64 0, .int .u32 0], none⟩, ⟨none, st (t 5) 2 (t 9), none⟩]) (seq (seq (reg [⟨(some 10), mv (t 0), none⟩, ⟨(some 11), mv (c (.int .i64 0)), none⟩]) (block 0 (loop (seq (reg [⟨(some 12), bin .lss (t 11) (t 10), none⟩]) (seq (cond (t 12) (skip) (exit 0)) (seq (block 1 (seq (reg [⟨(some 13), mv (t 11), none⟩, ⟨(some 6), mv (t 13), none⟩]) (seq (reg [⟨(some 14), mv (t 6), none⟩, ⟨(some 15), mv (c (.int .i64 0)), none⟩]) (block 2 (loop (seq (reg [⟨(some 16), bin .lss (t 15) (t 14), none⟩]) (seq (cond (t 16) (skip) (exit 2)) (seq (block 3 (seq (reg [⟨(some 17), mv (t 15), none⟩, ⟨(some 7), mv (t 17), none⟩]) (seq (reg [⟨(some 18), mv (t 1), none⟩, ⟨(some 19), mv (t 7), none⟩, ⟨(some 20), mv (t 6), none⟩, ⟨(some 21), call (t 18) [t 19, t 20], none⟩]) (cond (t 21) (reg [⟨(some 22), fad (t 5) 1, none⟩, ⟨(some 23), ld (t 22) 1 false, none⟩, ⟨(some 24), mv (t 7), none⟩, ⟨(some 25), mv (t 6), none⟩, ⟨(some 26), callq (c (.fn 86 [])) [t 24, t 25], none⟩, ⟨(some 27), bin .or (t 23) (t 26), none⟩, ⟨(some 28), fad (t 5) 1, none⟩, ⟨none, st (t 28) 1 (t 27), none⟩]) (skip))))) (reg [⟨(some 29), bin .add (t 15) (c (.int .i64 1)), none⟩, ⟨(some 15), mv (t 29), none⟩]))))))))) (reg [⟨(some 30), bin .add (t 11) (c (.int .i64 1)), none⟩, ⟨(some 11), mv (t 30), none⟩]))))))) (seq (reg [⟨(some 31), ld (t 5) 2 true, none⟩, ⟨none, st (t 4) 2 (t 31), none⟩]) (ret))))
def r_impl_made : List ARes := [.cell 4 2 true]
theorem k_impl_made : acLin Go.Proofs.Tryd.prog 126 2 (inQ [86] []) [⟨false, none, [], [], none⟩, ⟨false, none, [], [], none⟩, ⟨false, none, [], [], none⟩, ⟨false, none, [], [], none⟩, ⟨false, none, [], [], none⟩, ⟨false, none, [], [], none⟩, ⟨false, none, [], [], none⟩, ⟨false, none, [], [], none⟩, ⟨false, none, [], [], none⟩, ⟨false, none, [], [], none⟩, ⟨false, none, [], [], none⟩, ⟨false, some [0, 1, 2, 3, 4, 5, 6, 7], [], [], none⟩] = some (c_impl_made, r_impl_made) := by kernel_rfl
end Go.Proofs.YtgophedkejgedaaDoorAi
end

section
/- Contracts: products of words; cells over and over; patterns of equal parts. -/
namespace Go.Proofs.YtgophedkejgedaaDoorAi
open Go Go.RowKit
set_option linter.unusedVariables false
set_option linter.unusedSimpArgs false
set_option maxRecDepth 20000

theorem mask64n {a : Int} (h0 : 0 ≤ a) (ha : a < 4294967296) : IntKind.u64.wrap ((a % 2 ^ IntKind.u64.bits).toNat &&& 4294967295 % 2 ^ IntKind.u64.bits : Nat) = a := by
  have h := mask64 h0 ha
  rw [BitVec.toNat_and, BitVec.toNat_ofInt, BitVec.toNat_ofInt] at h
  exact h
theorem mask64z : IntKind.u64.wrap ((0 % 2 ^ IntKind.u64.bits : Int).toNat &&& 4294967295 % 2 ^ IntKind.u64.bits : Nat) = 0 := mask64n (by omega) (by omega)
theorem shr64 {a : Int} (h0 : 0 ≤ a) (ha : a < 4294967296) : a.fdiv (2 ^ min 32 IntKind.u64.bits) = 0 := shr0 (n := 32) h0 ha
theorem wrap0 : IntKind.u64.wrap 0 = 0 := rfl
noncomputable def sp_Mul64 : List AV → Option (AV) := pf (ι := (Int) × (Int)) (α := AV) (fun ⟨a, b⟩ => (0 ≤ a ∧ a < 65536) ∧ (0 ≤ b ∧ b < 65536)) (fun ⟨a, b⟩ => [.int .u64 a, .int .u64 b]) (fun ⟨a, b⟩ => .tup [.int .u64 0, .int .u64 (a * b)])
theorem sp_Mul64_eq (a b : Int) (h : (0 ≤ a ∧ a < 65536) ∧ (0 ≤ b ∧ b < 65536)) : sp_Mul64 [.int .u64 a, .int .u64 b] = some (.tup [.int .u64 0, .int .u64 (a * b)]) := by
  unfold sp_Mul64
  exact pf_eq (ι := (Int) × (Int)) (α := AV) (a, b) h (by rintro ⟨a', b'⟩ _ e; simp_all [Int.natCast_inj])
theorem reps_fr (n : Nat) (p q : Int) : rep n [.int .i64 p, .int .i64 q] = flatA (frsA (List.replicate n ⟨p, q⟩)) := news_fr n p q
noncomputable def sp_repeatF : List AV → List AV → Option (AV × List (Option (List AV))) := pb (pf (ι := (Int) × (Int) × (Int)) (α := AV × List (Option (List AV))) (fun ⟨p, q, n⟩ => 1 ≤ n ∧ n < 65536) (fun i => .agg ((fun ⟨p, q, n⟩ => [.int .i64 p, .int .i64 q] : (Int) × (Int) × (Int) → List AV) i) :: (fun ⟨p, q, n⟩ => [.ref 0 2 0 1 .tight, .int .i64 n] : (Int) × (Int) × (Int) → List AV) i) (fun ⟨p, q, n⟩ => (.ref 1 2 0 n.toNat .tight, [some [.int .i64 p, .int .i64 q], some (flatA (frsA (List.replicate n.toNat ⟨p, q⟩)))])))
theorem sp_repeatF_eq (p q n : Int) (h : 1 ≤ n ∧ n < 65536) : sp_repeatF [.int .i64 p, .int .i64 q] [.ref 0 2 0 1 .tight, .int .i64 n] = some (.ref 1 2 0 n.toNat .tight, [some [.int .i64 p, .int .i64 q], some (flatA (frsA (List.replicate n.toNat ⟨p, q⟩)))]) := by
  unfold sp_repeatF pb
  exact pf_eq (ι := (Int) × (Int) × (Int)) (α := AV × List (Option (List AV))) (p, q, n) h (by rintro ⟨p', q', n'⟩ _ e; simp_all [Int.natCast_inj])
theorem low1 {n : Int} (h : 1 ≤ n ∧ n ≤ 4) : lowP 1 n = 1 ∧ lowQ 1 n = n := by
  have h5 : n = 1 ∨ n = 2 ∨ n = 3 ∨ n = 4 := by omega
  rcases h5 with rfl | rfl | rfl | rfl <;> decide
def evenL (n : Int) : List Fr := List.replicate n.toNat ⟨1, n⟩
noncomputable def sp_even : List AV → Option (AV × List (Option (List AV))) := pf (ι := (Int) × (Int) × (Int)) (α := AV × List (Option (List AV))) (fun ⟨n, e, l⟩ => 1 ≤ n ∧ n ≤ 4) (fun ⟨n, e, l⟩ => [.agg [.int .i64 n, .int .u32 e], .int .u32 l]) (fun ⟨n, e, l⟩ => (.agg [.int .i64 n, .int .u32 e, .int .u32 l, .ref 0 2 0 n.toNat .tight], [some (flatA (frsA (evenL n)))]))
theorem sp_even_eq (n e l : Int) (h : 1 ≤ n ∧ n ≤ 4) : sp_even [.agg [.int .i64 n, .int .u32 e], .int .u32 l] = some ((.agg [.int .i64 n, .int .u32 e, .int .u32 l, .ref 0 2 0 n.toNat .tight], [some (flatA (frsA (evenL n)))])) := by
  unfold sp_even
  exact pf_eq (ι := (Int) × (Int) × (Int)) (α := AV × List (Option (List AV))) (n, e, l) h (by rintro ⟨n', e', l'⟩ _ e; simp_all [Int.natCast_inj])
end Go.Proofs.YtgophedkejgedaaDoorAi
end

section
/- Contracts: patterns of equal weights. -/
namespace Go.Proofs.YtgophedkejgedaaDoorAi
open Go Go.RowKit
set_option linter.unusedVariables false
set_option linter.unusedSimpArgs false
set_option maxRecDepth 20000

def noPat (c : Int) : AV := .tup [.agg [.int .i64 0, .int .u32 0, .int .u32 0, .sl [] true], .int .i64 c]
def evenR (t : Cp) (n e l : Int) : AV × List (Option (List AV)) :=
  if graphOk n e = false then (noPat 1, []) else if loopsOk n l = false then (noPat 2, [])
  else (.tup [.agg [.int .i64 n, .int .u32 e, .int .u32 l, .ref 0 2 0 n.toNat t], .int .i64 0], [some (flatA (frsA (evenL n)))])
theorem loops_n {n l : Int} (h : loopsOk n l = true) : 1 ≤ n ∧ n ≤ 4 := (of_decide_eq_true h).1
noncomputable def sp_evenI : List AV → Option (AV × List (Option (List AV))) := pf (ι := (Int) × (Int) × (Int)) (α := AV × List (Option (List AV))) (fun ⟨n, e, l⟩ => (0 ≤ e ∧ e ≤ 4294967295) ∧ (0 ≤ l ∧ l ≤ 4294967295)) (fun ⟨n, e, l⟩ => [.agg [.int .i64 n, .int .u32 e], .int .u32 l]) (fun ⟨n, e, l⟩ => evenR .tight n e l)
theorem sp_evenI_eq (n e l : Int) (h : (0 ≤ e ∧ e ≤ 4294967295) ∧ (0 ≤ l ∧ l ≤ 4294967295)) : sp_evenI [.agg [.int .i64 n, .int .u32 e], .int .u32 l] = some (evenR .tight n e l) := by
  unfold sp_evenI
  exact pf_eq (ι := (Int) × (Int) × (Int)) (α := AV × List (Option (List AV))) (n, e, l) h (by rintro ⟨n', e', l'⟩ _ e; simp_all [Int.natCast_inj])
noncomputable def sp_evenS : List AV → Option (AV × List (Option (List AV))) := pf (ι := (Int) × (Int) × (Int)) (α := AV × List (Option (List AV))) (fun ⟨n, e, l⟩ => (0 ≤ e ∧ e ≤ 4294967295) ∧ (0 ≤ l ∧ l ≤ 4294967295)) (fun ⟨n, e, l⟩ => [.agg [.int .i64 n, .int .u32 e], .int .u32 l]) (fun ⟨n, e, l⟩ => evenR .full n e l)
theorem sp_evenS_eq (n e l : Int) (h : (0 ≤ e ∧ e ≤ 4294967295) ∧ (0 ≤ l ∧ l ≤ 4294967295)) : sp_evenS [.agg [.int .i64 n, .int .u32 e], .int .u32 l] = some (evenR .full n e l) := by
  unfold sp_evenS
  exact pf_eq (ι := (Int) × (Int) × (Int)) (α := AV × List (Option (List AV))) (n, e, l) h (by rintro ⟨n', e', l'⟩ _ e; simp_all [Int.natCast_inj])
def evSt (n e l : Int) : Nat → St
  | 0 => ⟨tl [(2, .ptr 0 0), (4, .ptr 1 0), (5, .int .i64 0), (6, .ptr 2 0), (7, .int .i64 0)], ⟨[some [.int .i64 n, .int .u32 e], some [.int .i64 0, .int .u32 0, .int .u32 0, .sl [] true], some [.int .i64 n, .int .u32 e, .int .u32 l, .sl [] true]]⟩⟩
  | i + 1 => ⟨tl [(2, .ptr 0 0), (4, .ptr 1 0), (5, .int .i64 0), (6, .ptr 2 0), (7, .int .i64 (i + 1 : Nat))], ⟨[some [.int .i64 n, .int .u32 e], some [.int .i64 0, .int .u32 0, .int .u32 0, .sl [] true], some [.int .i64 n, .int .u32 e, .int .u32 l, .ref 3 2 0 (i + 1) .full], some (flatA (frsA (List.replicate (i + 1) ⟨1, n⟩)))]⟩⟩
theorem reps_snoc (k : Nat) (x : Fr) : flatA (frsA (List.replicate k x)) ++ [.int .i64 x.p, .int .i64 x.q] = flatA (frsA (List.replicate (k + 1) x)) := by
  rw [List.replicate_succ', flatA_append]; rfl
end Go.Proofs.YtgophedkejgedaaDoorAi
end

section
/- Contracts: bits of edges; graphs that are made. -/
namespace Go.Proofs.YtgophedkejgedaaDoorAi
open Go Go.RowKit
set_option linter.unusedVariables false
set_option linter.unusedSimpArgs false
set_option maxRecDepth 20000
variable {P : Program}

def bitI (i j : Nat) : Nat := if i < j then j * (j - 1) / 2 + i else i * (i - 1) / 2 + j
noncomputable def sp_bit : List AV → Option (AV) := pf (ι := (Int) × (Int)) (α := AV) (fun ⟨i, j⟩ => (0 ≤ i ∧ i ≤ 5) ∧ (0 ≤ j ∧ j ≤ 5)) (fun ⟨i, j⟩ => [.int .i64 i, .int .i64 j]) (fun ⟨i, j⟩ => .int .u32 (2 ^ bitI i.toNat j.toNat))
theorem sp_bit_eq (i j : Int) (h : (0 ≤ i ∧ i ≤ 5) ∧ (0 ≤ j ∧ j ≤ 5)) : sp_bit [.int .i64 i, .int .i64 j] = some (.int .u32 (2 ^ bitI i.toNat j.toNat)) := by
  unfold sp_bit
  exact pf_eq (ι := (Int) × (Int)) (α := AV) (i, j) h (by rintro ⟨i', j'⟩ _ e; simp_all [Int.natCast_inj])
theorem q_impl_bit : QP PP 86 sp_bit := by
  refine QP_pf (fun i h => ?_) fun i h => ?_
  · obtain ⟨i, j⟩ := i; exact ⟨by first | rfl | simp, by first | rfl | simp⟩
  obtain ⟨i, j⟩ := i
  replace h : (0 ≤ i ∧ i ≤ 5) ∧ (0 ≤ j ∧ j ≤ 5) := h
  refine P_code (Quiet.q1 q_impl_pairs Quiet.nil) hmix k_impl_bit rfl ?_ ?_
  · first | rfl | simp
  show wpc 0 PP _ c_impl_bit (initSt [.int .i64 i, .int .i64 j] .nil) (endP r_impl_bit (.int .u32 (2 ^ bitI i.toNat j.toNat)))
  obtain ⟨⟨i0, i1⟩, j0, j1⟩ := h
  have hj : j = 0 ∨ j = 1 ∨ j = 2 ∨ j = 3 ∨ j = 4 ∨ j = 5 := by omega
  have hi : i = 0 ∨ i = 1 ∨ i = 2 ∨ i = 3 ∨ i = 4 ∨ i = 5 := by omega
  rcases hi with rfl | rfl | rfl | rfl | rfl | rfl <;> rcases hj with rfl | rfl | rfl | rfl | rfl | rfl <;> simp -dsimp -implicitDefEqProofs [c_impl_bit, r_impl_bit, sp_pairs_eq, pI0, pI1, pI2, pI3, pI4, pI5, bitI, IntKind.wrap, IntKind.bits, IntKind.signed]
/-! ### a call that sees some objects, of which nothing is known here -/
def ClosedH (os : List (Option (List AV))) : Prop := ∀ b cs, hget os b = some cs → ltL os.length cs = true
theorem hset_pre (os r : List (Option (List AV))) (i : Nat) (x : Option (List AV)) : hset (os ++ r) (os.length + i) x = os ++ hset r i x := by
  induction os with
  | nil => simp
  | cons o os ih =>
    simp only [List.cons_append, List.length_cons, hset]
    rw [if_neg (by omega), show os.length + 1 + i - 1 = os.length + i by omega, ih]
theorem hset_pre0 (os r : List (Option (List AV))) (x : Option (List AV)) : hset (os ++ r) os.length x = os ++ hset r 0 x := hset_pre os r 0 x
theorem hget_pre (os r : List (Option (List AV))) (i : Nat) : hget (os ++ r) (os.length + i) = hget r i := by
  rw [hget_append, if_neg (by omega), show os.length + i - os.length = i by omega]
theorem hget_pre0 (os r : List (Option (List AV))) : hget (os ++ r) os.length = hget r 0 := hget_pre os r 0
theorem hsub_of {f : Nat → Nat} {n : Nat} {A : AHeap} : ∀ {l : List (Option (List AV))} {i : Nat}, (∀ b, b < l.length → f (i + b) < A.n) → (∀ b cs, hget l b = some cs → ltL n cs = true ∧ A (f (i + b)) = some (renL f cs)) → hsub f n A i l
  | [], i, _, _ => trivial
  | none :: r, i, h1, h2 => ⟨by simpa using h1 0 (by simp), hsub_of (fun b hb => by have := h1 (b + 1) (by simp; omega); rwa [show i + (b + 1) = i + 1 + b by omega] at this) (fun b cs hb => by have := h2 (b + 1) cs (by simpa [hget] using hb); rwa [show i + (b + 1) = i + 1 + b by omega] at this)⟩
  | some c :: r, i, h1, h2 => ⟨by simpa using h2 0 c (by simp [hget]), hsub_of (fun b hb => by have := h1 (b + 1) (by simp; omega); rwa [show i + (b + 1) = i + 1 + b by omega] at this) (fun b cs hb => by have := h2 (b + 1) cs (by simpa [hget] using hb); rwa [show i + (b + 1) = i + 1 + b by omega] at this)⟩
theorem hsub_pre {os r : List (Option (List AV))} {m : Nat} (ho : ClosedH os) (hm : os.length ≤ m) : hsub (fun b => b) m ⟨os ++ r⟩ 0 os := by
  refine hsub_of (fun b hb => ?_) fun b cs hb => ?_
  · simp [AHeap.n]; omega
  · have hlt := hget_lt hb
    rw [Nat.zero_add]
    refine ⟨ltL_mono hm _ (ho b cs hb), ?_⟩
    show hget (os ++ r) b = _
    rw [hget_append, if_pos hlt, renL_id, hb]
theorem hsub_append {f : Nat → Nat} {n : Nat} {A : AHeap} : ∀ (l k : List (Option (List AV))) (i : Nat), hsub f n A i l → hsub f n A (i + l.length) k → hsub f n A i (l ++ k)
  | [], k, i, _, h => h
  | none :: r, k, i, h1, h => ⟨h1.1, hsub_append r k (i + 1) h1.2 (by rw [List.length_cons, show i + (r.length + 1) = i + 1 + r.length by omega] at h; exact h)⟩
  | some c :: r, k, i, h1, h => ⟨h1.1, hsub_append r k (i + 1) h1.2 (by rw [List.length_cons, show i + (r.length + 1) = i + 1 + r.length by omega] at h; exact h)⟩
theorem Sub.pre {os r r' : List (Option (List AV))} {t : Nat → AV} {l : List (Nat × AV)} (ho : ClosedH os) (hs : hsub (fun b => b) (os.length + r'.length) ⟨os ++ r⟩ os.length r') (ht : ∀ p ∈ l, p.2.lt (os.length + r'.length) = true ∧ t p.1 = p.2) : Sub os.length ⟨t, ⟨os ++ r⟩⟩ ⟨tl l, ⟨os ++ r'⟩⟩ := by
  have e : (os ++ r').length = os.length + r'.length := by simp
  refine Sub.keep (by simp) ?_ (by rw [e]; exact ht)
  rw [e]
  exact hsub_append _ _ _ (hsub_pre ho (by omega)) (by rw [Nat.zero_add]; exact hs)
theorem View.pre {os r : List (Option (List AV))} (ho : ClosedH os) : View (fun b => b) ⟨os ++ r⟩ ⟨os⟩ := by
  refine ⟨fun b hb => ?_, fun b cs hb => ?_, fun b b' cs cs' _ _ e => e⟩
  · have hb : b < os.length := hb
    simp [AHeap.n]; omega
  · have hlt := hget_lt hb
    refine ⟨ho b cs hb, ?_⟩
    show hget (os ++ r) b = _
    rw [hget_append, if_pos hlt, renL_id]
    exact hb
mutual
theorem ren_same {n : Nat} {g : Nat → Nat} (hg : ∀ b, b < n → g b = b) : ∀ x : AV, x.lt n = true → x.ren g = x
  | .ptr b o, h => by rw [AV.ren, hg b (of_decide_eq_true h)]
  | .ref b e o m t, h => by rw [AV.ren, hg b (of_decide_eq_true h)]
  | .ep x i o, h => by rw [AV.ren, ren_same hg x h]
  | .fn f cs, h => by rw [AV.ren, renL_same hg cs h]
  | .agg cs, h => by rw [AV.ren, renL_same hg cs h]
  | .tup cs, h => by rw [AV.ren, renL_same hg cs h]
  | .bool _, _ | .int _ _, _ | .str _, _ | .sl _ _, _ | .nilp, _ | .nilf, _ | .nili, _ | .iface, _ | .mv _ _, _ | .any, _ => rfl
theorem renL_same {n : Nat} {g : Nat → Nat} (hg : ∀ b, b < n → g b = b) : ∀ cs : List AV, ltL n cs = true → renL g cs = cs
  | [], _ => rfl
  | x :: r, h => by
    simp only [ltL, Bool.and_eq_true] at h
    rw [renL, ren_same hg x h.1, renL_same hg r h.2]
end
theorem upd_pre (g : Nat → Nat) (os r : List (Option (List AV))) (ho : ClosedH os) (hg : ∀ b, b < os.length → g b = b) : upd (fun b => b) g 0 os os (os ++ r) = os ++ r := by
  have key : ∀ (a b : List (Option (List AV))), (∀ i cs, hget b i = some cs → renL g cs = cs) → upd (fun b => b) g a.length b b (a ++ b ++ r) = a ++ b ++ r := by
    intro a b
    induction b generalizing a with
    | nil => intro _; simp [upd]
    | cons o b ih =>
      intro h
      rw [upd]
      have h0 : (if o.isSome = true then hset (a ++ o :: b ++ r) a.length (o.map (renL g)) else a ++ o :: b ++ r) = (a ++ [o]) ++ b ++ r := by
        cases o with
        | none => simp
        | some c =>
          simp only [Option.isSome_some, if_true, Option.map_some, List.append_assoc, List.cons_append]
          rw [hset_pre0, hset, if_pos rfl, h 0 c (by simp [hget])]
          simp
      rw [h0]
      have := ih (a ++ [o]) (fun i cs hi => h (i + 1) cs (by simpa [hget] using hi))
      simp only [List.length_append, List.length_cons, List.length_nil] at this
      rw [this]
      simp
  have := key [] os (fun i cs hi => renL_same hg cs (ho i cs hi))
  simpa using this
/-- A call that sees some objects and leaves them as they are. -/
theorem T.sees {f : FuncId} {args : List AV} {os : List (Option (List AV))} {v : AV} (h : T P f args ⟨os⟩ fun r A' => r = v ∧ A' = ⟨os⟩) (ho : ClosedH os) (ha : ltL os.length args = true) (hv : v.lt 0 = true) (r : List (Option (List AV))) :
    T P f args ⟨os ++ r⟩ fun x A' => x = v ∧ A' = ⟨os ++ r⟩ := by
  have := h.embed (A := ⟨os ++ r⟩) (View.pre ho) ha
  rw [renL_id] at this
  refine this.mono ?_
  rintro x A1 ⟨r', A1', ⟨rfl, rfl⟩, rfl, rfl⟩
  refine ⟨ren_low _ _ hv, AHeap.ext' ?_⟩
  exact upd_pre _ os r ho (fun b hb => by simp [extN, AHeap.n, hb])
end Go.Proofs.YtgophedkejgedaaDoorAi
end

section
/- Contracts: graphs that are made. -/
namespace Go.Proofs.YtgophedkejgedaaDoorAi
open Go Go.RowKit
set_option linter.unusedVariables false
set_option linter.unusedSimpArgs false
set_option maxRecDepth 20000

def rowE (J : Nat → Nat → Bool) (j : Nat) (e : Nat) : Nat → Nat
  | 0 => e
  | i + 1 => if J i j = true then rowE J j e i ||| 2 ^ bitI i j else rowE J j e i
def madeE (J : Nat → Nat → Bool) : Nat → Nat
  | 0 => 0
  | j + 1 => rowE J j (madeE J j) j
theorem bitI_lt {i j : Nat} (h : i < j) (hj : j < 5) : bitI i j < 10 := by
  unfold bitI
  rw [if_pos h]
  have h5 : j = 1 ∨ j = 2 ∨ j = 3 ∨ j = 4 := by omega
  rcases h5 with rfl | rfl | rfl | rfl <;> omega
theorem rowE_lt {J : Nat → Nat → Bool} {j e : Nat} (he : e < 1024) (hj : j < 5) : ∀ {i : Nat}, i ≤ j → rowE J j e i < 1024
  | 0, _ => he
  | i + 1, hi => by
    have h1 := rowE_lt (J := J) he hj (show i ≤ j by omega)
    rw [rowE]
    split
    · exact Nat.or_lt_two_pow (n := 10) h1 (Nat.pow_lt_pow_right (by omega) (bitI_lt (by omega) hj))
    · exact h1
theorem madeE_lt {J : Nat → Nat → Bool} : ∀ {n : Nat}, n ≤ 5 → madeE J n < 1024
  | 0, _ => by simp [madeE]
  | j + 1, hj => rowE_lt (madeE_lt (by omega)) (by omega) (Nat.le_refl _)

theorem orBit0 {a c : Nat} (ha : a < 1024) (hc : c < 1024) : IntKind.u32.wrap ((a % 2 ^ IntKind.u32.bits ||| ((c : Int) % 2 ^ IntKind.u32.bits).toNat : Nat)) = ((a ||| c : Nat) : Int) := by
  have e1 : a % 2 ^ IntKind.u32.bits = a := Nat.mod_eq_of_lt (by simp only [IntKind.bits]; omega)
  have e2 : ((c : Int) % 2 ^ IntKind.u32.bits).toNat = c := by
    rw [Int.emod_eq_of_lt (by omega) (by simp only [IntKind.bits]; omega)]
    simp
  rw [e1, e2]
  have := Nat.or_lt_two_pow (n := 10) ha hc
  exact wrap32 (by omega) (by omega)
theorem orBit {a b : Nat} (ha : a < 1024) (hb : b < 10) : IntKind.u32.wrap ((a % 2 ^ IntKind.u32.bits ||| ((2 : Int) ^ b % 2 ^ IntKind.u32.bits).toNat : Nat)) = ((a ||| 2 ^ b : Nat) : Int) := by
  have e : (2 : Int) ^ b = ((2 ^ b : Nat) : Int) := by simp
  rw [e]
  exact orBit0 ha (Nat.pow_lt_pow_right (n := 10) (by omega) hb)
theorem injB_id (n : Nat) : injB (fun b => b) n = true := by
  simp only [injB, List.all_eq_true]
  intro i _ j _
  by_cases h : i = j <;> simp [h]
theorem T_made {g : FuncId} {caps : List AV} {os : List (Option (List AV))} (J : Nat → Nat → Bool) (n : Nat) (hn : n ≤ 5) (ho : ClosedH os) (hc : ltL os.length caps = true)
    (hf : ∀ i j, i < j → j < n → T PP g ([.int .i64 i, .int .i64 j] ++ caps) ⟨os⟩ fun r A' => r = .bool (J i j) ∧ A' = ⟨os⟩) :
    T PP 126 [.int .i64 n, .fn g caps] ⟨os⟩ fun r A' => r = .agg [.int .i64 n, .int .u32 (madeE J n)] ∧ A' = ⟨os⟩ := by
  refine H_code (Quiet.q1 q_impl_bit Quiet.nil) hmix k_impl_made rfl (fun b => b) (Nat.le_refl _) (fun _ _ => rfl) (injB_id _) (by rfl) ?_
  show wpc os.length PP _ c_impl_made (initSt [.int .i64 n, .fn g caps] ⟨os⟩) _
  have k1 : ¬ (os.length + 1 < os.length) := by omega
  simp -dsimp -implicitDefEqProofs [c_impl_made, r_impl_made, hset_pre0, hset_pre, k1]
  refine wpLoop_st (fun (j : Nat) => ⟨tl [(0, .int .i64 n), (1, .fn g caps), (4, .ptr os.length 0), (5, .ptr (os.length + 1) 0), (10, .int .i64 n), (11, .int .i64 j)], ⟨os ++ [some [.int .i64 0, .int .u32 0], some [.int .i64 n, .int .u32 (madeE J j)]]⟩⟩) (fun j => j ≤ n) (fun j => n - j) 0 (by omega) (Sub.pre ho (by simp [hsub, k1, madeE]) (by simp [ltL_mono (Nat.le_add_right os.length 2) _ hc])) ?_
  intro j hj
  simp -dsimp -implicitDefEqProofs [hset_pre0, hset_pre, k1]
  refine brW_of (fun h => ?_) (fun h => ?_) <;> simp only [decide_eq_true_eq, decide_eq_false_iff_not] at h
  · have hw := wrapNat (i := j) (by omega)
    simp -dsimp -implicitDefEqProofs [k1, hw]
    refine wpLoop_st (fun (i : Nat) => ⟨tl [(0, .int .i64 n), (1, .fn g caps), (4, .ptr os.length 0), (5, .ptr (os.length + 1) 0), (10, .int .i64 n), (11, .int .i64 j), (6, .int .i64 j), (14, .int .i64 j), (15, .int .i64 i)], ⟨os ++ [some [.int .i64 0, .int .u32 0], some [.int .i64 n, .int .u32 (rowE J j (madeE J j) i)]]⟩⟩) (fun i => i ≤ j) (fun i => j - i) 0 (by omega) (Sub.pre ho (by simp [hsub, k1, rowE]) (by simp [ltL_mono (Nat.le_add_right os.length 2) _ hc])) ?_
    intro i hi
    simp -dsimp -implicitDefEqProofs [k1, hw]
    refine brW_of (fun h => ?_) (fun h => ?_) <;> simp only [decide_eq_true_eq, decide_eq_false_iff_not] at h
    · have hw := wrapNat (i := i) (by omega)
      simp -dsimp -implicitDefEqProofs [k1, hw]
      refine ((hf i j h (by omega)).sees ho (by simpa using hc) rfl _).mono ?_
      rintro r A' ⟨rfl, rfl⟩
      have hb := sp_bit_eq i j (by omega)
      cases hJ : J i j with
      | false =>
        simp -dsimp -implicitDefEqProofs [k1, hw]
        exact .mk (i + 1) (by omega) (by omega) (Sub.pre ho (by simp [hsub, k1, rowE, hJ]) (by simp [hw, ltL_mono (Nat.le_add_right os.length 2) _ hc]))
      | true =>
        simp -dsimp -implicitDefEqProofs [k1, hw, hb, hset_pre0, hset_pre]
        have he := orBit (rowE_lt (J := J) (madeE_lt (J := J) (n := j) (by omega)) (by omega) hi) (bitI_lt h (by omega))
        exact .mk (i + 1) (by omega) (by omega) (Sub.pre ho (by simp [hsub, k1, rowE, hJ, he]) (by simp [hw, ltL_mono (Nat.le_add_right os.length 2) _ hc]))
    · have : i = j := by omega
      subst this
      simp -dsimp -implicitDefEqProofs [k1, hw]
      exact .mk (i + 1) (by omega) (by omega) (Sub.pre ho (by simp [hsub, k1, madeE]) (by simp [hw, ltL_mono (Nat.le_add_right os.length 2) _ hc]))
  · have : j = n := by omega
    subst this
    simp -dsimp -implicitDefEqProofs [hset_pre0, hset_pre, k1, hsub_pre ho]

def yes (i j : Nat) : Bool := true
theorem made_yes : ∀ n : Nat, n ≤ 5 → madeE yes n = 2 ^ (n * (n - 1) / 2) - 1 := by decide
theorem ClosedH.nil : ClosedH [] := fun b cs h => by cases h
end Go.Proofs.YtgophedkejgedaaDoorAi
end

section
/- Edges of graphs as bits. -/
namespace Go.Proofs.YtgophedkejgedaaDoorAi
open Go Go.RowKit
set_option linter.unusedVariables false
set_option linter.unusedSimpArgs false

theorem or_step (c : Bool) (a b k : Nat) : (if c = true then a ||| 2 ^ b else a).testBit k = (a.testBit k || (c && decide (b = k))) := by
  cases c <;> simp [Nat.testBit_or, Nat.testBit_two_pow]
theorem bitI_c {i j : Nat} : bitI i j = bitI j i := by
  unfold bitI
  by_cases h : i < j
  · rw [if_pos h, if_neg (by omega)]
  · by_cases h2 : j < i
    · rw [if_neg h, if_pos h2]
    · have : i = j := by omega
      subst this; simp
theorem tri_step (j : Nat) : (j + 1) * j / 2 = j * (j - 1) / 2 + j := by
  cases j with
  | zero => rfl
  | succ j =>
    have h : (j + 1 + 1) * (j + 1) = (j + 1) * (j + 1 - 1) + (j + 1) * 2 := by
      rw [← Nat.mul_add, show j + 1 - 1 + 2 = j + 1 + 1 by omega, Nat.mul_comm]
    rw [h, Nat.add_mul_div_right _ _ (by omega)]
theorem tri_mono {i j : Nat} (h : i ≤ j) : i * (i - 1) / 2 ≤ j * (j - 1) / 2 := Nat.div_le_div_right (Nat.mul_le_mul h (by omega))
theorem bitI_inj {i j i' j' : Nat} (h : i < j) (h' : i' < j') (e : bitI i j = bitI i' j') : i = i' ∧ j = j' := by
  unfold bitI at e
  rw [if_pos h, if_pos h'] at e
  have key : ∀ a b : Nat, a < b → a * (a - 1) / 2 + a ≤ b * (b - 1) / 2 := by
    intro a b hab
    have := tri_mono (i := a + 1) (j := b) (by omega)
    rw [show a + 1 - 1 = a by omega, tri_step] at this
    exact this
  rcases Nat.lt_trichotomy j j' with hj | hj | hj
  · have := key j j' hj; omega
  · subst hj; omega
  · have := key j' j hj; omega
theorem rowE_bit (J : Nat → Nat → Bool) (j e k : Nat) : ∀ i, i ≤ j → ((rowE J j e i).testBit k = true ↔ (e.testBit k = true ∨ ∃ a, a < i ∧ J a j = true ∧ bitI a j = k))
  | 0, _ => by simp [rowE]
  | i + 1, h => by
    rw [rowE, or_step, Bool.or_eq_true, rowE_bit J j e k i (by omega), or_assoc]
    simp only [Bool.and_eq_true, decide_eq_true_eq]
    constructor
    · rintro (h1 | ⟨a, h1, h2⟩ | ⟨h1, h2⟩)
      · exact .inl h1
      · exact .inr ⟨a, by omega, h2⟩
      · exact .inr ⟨i, by omega, h1, h2⟩
    · rintro (h1 | ⟨a, h1, h2, h3⟩)
      · exact .inl h1
      · by_cases ha : a = i
        · subst ha; exact .inr (.inr ⟨h2, h3⟩)
        · exact .inr (.inl ⟨a, by omega, h2, h3⟩)
/-- The edges that are made. -/
theorem madeE_bit (J : Nat → Nat → Bool) (k : Nat) : ∀ n, (madeE J n).testBit k = true ↔ ∃ a b, a < b ∧ b < n ∧ J a b = true ∧ bitI a b = k
  | 0 => by simp [madeE]
  | n + 1 => by
    rw [madeE, rowE_bit J n _ k n (Nat.le_refl _), madeE_bit J k n]
    constructor
    · rintro (⟨a, b, h1, h2, h3⟩ | ⟨a, h1, h2⟩)
      · exact ⟨a, b, h1, by omega, h3⟩
      · exact ⟨a, n, h1, by omega, h2⟩
    · rintro ⟨a, b, h1, h2, h3⟩
      by_cases hb : b = n
      · subst hb; exact .inr ⟨a, h1, h3⟩
      · exact .inl ⟨a, b, h1, by omega, h3⟩
theorem madeE_has (J : Nat → Nat → Bool) {n i j : Nat} (h : i < j) (hj : j < n) : (madeE J n).testBit (bitI i j) = J i j := by
  rw [Bool.eq_iff_iff, madeE_bit]
  constructor
  · rintro ⟨a, b, h1, h2, h3, h4⟩
    obtain ⟨rfl, rfl⟩ := bitI_inj h1 h h4
    exact h3
  · intro hJ
    exact ⟨i, j, h, hj, hJ, rfl⟩
/-- Each bit below is one of a pair. -/
theorem bit_pair {n k : Nat} (hk : k < n * (n - 1) / 2) : ∃ a b, a < b ∧ b < n ∧ bitI a b = k := by
  induction n with
  | zero => simp at hk
  | succ n ih =>
    rw [show n + 1 - 1 = n by omega, tri_step] at hk
    by_cases h : k < n * (n - 1) / 2
    · obtain ⟨a, b, h1, h2, h3⟩ := ih h
      exact ⟨a, b, h1, by omega, h3⟩
    · refine ⟨k - n * (n - 1) / 2, n, by omega, by omega, ?_⟩
      unfold bitI
      rw [if_pos (by omega)]
      omega
theorem bitI_tri {a b n : Nat} (h : a < b) (hb : b < n) : bitI a b < n * (n - 1) / 2 := by
  unfold bitI
  rw [if_pos h]
  have := tri_mono (i := b + 1) (j := n) (by omega)
  rw [show b + 1 - 1 = b by omega, tri_step] at this
  omega
theorem edges_ext {n e e' : Nat} (he : e < 2 ^ (n * (n - 1) / 2)) (he' : e' < 2 ^ (n * (n - 1) / 2)) (h : ∀ a b, a < b → b < n → e.testBit (bitI a b) = e'.testBit (bitI a b)) : e = e' := by
  apply Nat.eq_of_testBit_eq
  intro k
  by_cases hk : k < n * (n - 1) / 2
  · obtain ⟨a, b, h1, h2, rfl⟩ := bit_pair hk
    exact h a b h1 h2
  · rw [Nat.testBit_lt_two_pow (Nat.lt_of_lt_of_le he (Nat.pow_le_pow_right (by omega) (by omega))), Nat.testBit_lt_two_pow (Nat.lt_of_lt_of_le he' (Nat.pow_le_pow_right (by omega) (by omega)))]
theorem madeE_tri (J : Nat → Nat → Bool) (n : Nat) : madeE J n < 2 ^ (n * (n - 1) / 2) := by
  apply Nat.lt_of_not_le
  intro h
  obtain ⟨k, hk1, hk2⟩ := Nat.exists_ge_and_testBit_of_ge_two_pow h
  rw [madeE_bit] at hk2
  obtain ⟨a, b, h1, h2, _, h4⟩ := hk2
  have := bitI_tri h1 h2
  omega
theorem xor_made {n e : Nat} (he : e < 2 ^ (n * (n - 1) / 2)) : (2 ^ (n * (n - 1) / 2) - 1) ^^^ e = madeE (fun i j => !e.testBit (bitI i j)) n := by
  refine edges_ext (Nat.xor_lt_two_pow (by have := Nat.two_pow_pos (n * (n - 1) / 2); omega) he) (madeE_tri _ n) fun a b h1 h2 => ?_
  rw [madeE_has _ h1 h2, Nat.testBit_xor, Nat.testBit_two_pow_sub_one]
  simp [bitI_tri h1 h2]
end Go.Proofs.YtgophedkejgedaaDoorAi
end

section
/- Contracts of functions that take functions. -/
namespace Go.Proofs.YtgophedkejgedaaDoorAi
open Go Go.RowKit
set_option linter.unusedVariables false
set_option linter.unusedSimpArgs false
set_option maxRecDepth 20000
variable {P : Program}

theorem T.of_closed {f : FuncId} {args : List AV} {A : AHeap} {R : AV → AHeap → Prop} (he : Enters P f) (h : ClosedH A.l → ltL A.n args = true → T P f args A R) : T P f args A R := by
  refine ⟨he, fun B w0 σ w vs hG hb hs ha => (h (fun b cs e => ?_) ?_).2 B w0 σ w vs hG hb hs ha⟩
  · obtain ⟨c, cur, t, k1, k2, k3, k4, k5, k6⟩ := hs.own b cs e
    refine ltL_of fun x hx => ?_
    obtain ⟨j, hj⟩ := List.mem_iff_getElem?.1 hx
    obtain ⟨v, _, e2, _⟩ := k6 j x hj
    exact hs.lt_of x v e2
  · refine ltL_of fun x hx => ?_
    obtain ⟨j, hj⟩ := List.mem_iff_getElem?.1 hx
    have hlt : j < vs.length := by rw [← ha.1]; exact (List.getElem?_eq_some_iff.1 hj).1
    exact hs.lt_of x _ (ha.2 j x _ hj (List.getElem?_eq_getElem hlt))

theorem rowE_congr {J J' : Nat → Nat → Bool} {j e : Nat} : ∀ {i : Nat}, (∀ a, a < i → J a j = J' a j) → rowE J j e i = rowE J' j e i
  | 0, _ => rfl
  | i + 1, h => by rw [rowE, rowE, h i (by omega), rowE_congr (fun a ha => h a (by omega))]
theorem madeE_congr {J J' : Nat → Nat → Bool} : ∀ {n : Nat}, (∀ i j, i < j → j < n → J i j = J' i j) → madeE J n = madeE J' n
  | 0, _ => rfl
  | n + 1, h => by rw [madeE, madeE, madeE_congr (fun i j hi hj => h i j hi (by omega)), rowE_congr (fun a ha => h a n ha (by omega))]

def yesOf (sp : List AV → AHeap → Option (AV × AHeap)) (args : List AV) (A : AHeap) : Bool := match sp args A with
  | some (.bool b, _) => b
  | _ => false
open Classical in
noncomputable def spMade (g : FuncId) (sp : List AV → AHeap → Option (AV × AHeap)) : List AV → AHeap → Option (AV × AHeap)
  | [.int .i64 n, .fn g' caps], A => if g' = g ∧ 0 ≤ n ∧ n ≤ 5 ∧ ∀ i j : Nat, i < j → j < n.toNat → sp ([.int .i64 i, .int .i64 j] ++ caps) A = some (.bool (yesOf sp ([.int .i64 i, .int .i64 j] ++ caps) A), A)
      then some (.agg [.int .i64 n, .int .u32 (madeE (fun i j => yesOf sp ([.int .i64 i, .int .i64 j] ++ caps) A) n.toNat)], A) else none
  | _, _ => none
theorem spMade_eq {g : FuncId} {sp : List AV → AHeap → Option (AV × AHeap)} (J : Nat → Nat → Bool) {n : Int} {caps : List AV} {A : AHeap} (hn : 0 ≤ n ∧ n ≤ 5) (h : ∀ i j : Nat, i < j → j < n.toNat → sp ([.int .i64 i, .int .i64 j] ++ caps) A = some (.bool (J i j), A)) :
    spMade g sp [.int .i64 n, .fn g caps] A = some (.agg [.int .i64 n, .int .u32 (madeE J n.toNat)], A) := by
  have hy : ∀ i j : Nat, i < j → j < n.toNat → yesOf sp ([.int .i64 i, .int .i64 j] ++ caps) A = J i j := by
    intro i j hi hj
    unfold yesOf
    rw [h i j hi hj]
  unfold spMade
  dsimp only
  rw [if_pos ⟨rfl, hn.1, hn.2, fun i j hi hj => by rw [hy i j hi hj]; exact h i j hi hj⟩, madeE_congr hy]
theorem QE_made {g : FuncId} {sp : List AV → AHeap → Option (AV × AHeap)} (hg : QE PP g sp) : QE PP 126 (spMade g sp) := by
  intro args A r A1 e
  unfold spMade at e
  split at e
  · rename_i n g' caps
    split at e
    · rename_i hc
      obtain ⟨rfl, h0, h5, hJ⟩ := hc
      injection e with e
      injection e with e1 e2
      subst e1; subst e2
      obtain ⟨m, rfl⟩ := Int.eq_ofNat_of_zero_le h0
      refine T.of_closed (T_made (g := g') (caps := []) (os := []) yes 0 (by omega) ClosedH.nil rfl (fun i j _ hj => absurd hj (Nat.not_lt_zero _))).1 fun ho hl => ?_
      exact T_made (os := A.l) _ m (by omega) ho (by simpa [ltL, AV.lt] using hl) fun i j hi hj => hg _ _ _ _ (hJ i j hi hj)
    · cases e
  · cases e
end Go.Proofs.YtgophedkejgedaaDoorAi
end

section
/- Contracts: the program's sums, differences, products and quotients of two fractions. -/
namespace Go.Proofs.YtgophedkejgedaaDoorAi
open Go Go.RowKit
set_option linter.unusedVariables false
set_option linter.unusedSimpArgs false
set_option maxRecDepth 20000

noncomputable def sp_l00From : List AV → Option (AV × List (Option (List AV))) := pf (ι := (List Int)) (α := AV × List (Option (List AV))) (fun l => inB8 l) (fun l => [.sl (bysA l) false]) (fun l => (.ptr 0 0, [some [.sl (bysA l) false, .int .i64 0, .int .u64 0]]))
theorem sp_l00From_eq (l : List Int) (h : inB8 l) : sp_l00From [.sl (bysA l) false] = some ((.ptr 0 0, [some [.sl (bysA l) false, .int .i64 0, .int .u64 0]])) := by
  unfold sp_l00From
  exact pf_eq (ι := (List Int)) (α := AV × List (Option (List AV))) l h (by rintro l' _ e; simp_all [Int.natCast_inj])
theorem n_spec_l00From : QN PP 58 sp_l00From := by
  refine QN_pf (fun l h => ?_) fun l h => ?_
  · first | rfl | simp
  replace h : inB8 l := h
  show T PP 58 [.sl (bysA l) false] .nil fun r' A' => r' = (((.ptr 0 0, [some [.sl (bysA l) false, .int .i64 0, .int .u64 0]]) : AV × List (Option (List AV)))).1 ∧ A' = ⟨(((.ptr 0 0, [some [.sl (bysA l) false, .int .i64 0, .int .u64 0]]) : AV × List (Option (List AV)))).2⟩
  refine H_code Quiet.nil hmix k_spec_l00From rfl (fun b => b) (by simp [AHeap.n, AHeap.nil]) (by intro b hb; simp [AHeap.n, AHeap.nil] at hb <;> subst hb <;> rfl) (by rfl) (by first | rfl | simp) ?_
  simp -dsimp -implicitDefEqProofs [c_spec_l00From, r_spec_l00From, hsub]
noncomputable def sp_wild : List AV → Option (AV) := pf (ι := (List Int)) (α := AV) (fun l => inB8 l) (fun l => [.sl (bysA l) false]) (fun l => .agg [.int .i64 (lowP (drP l (0, 0)) (drD l (0, 0))), .int .i64 (lowQ (drP l (0, 0)) (drD l (0, 0)))])
theorem sp_wild_eq (l : List Int) (h : inB8 l) : sp_wild [.sl (bysA l) false] = some (.agg [.int .i64 (lowP (drP l (0, 0)) (drD l (0, 0))), .int .i64 (lowQ (drP l (0, 0)) (drD l (0, 0)))]) := by
  unfold sp_wild
  exact pf_eq (ι := (List Int)) (α := AV) l h (by rintro l' _ e; simp_all [Int.natCast_inj])
theorem q_spec_A2Wild : QP PP 16 sp_wild := by
  refine QP_pf (fun l h => ?_) fun l h => ?_
  · exact ⟨by first | rfl | simp, by first | rfl | simp⟩
  replace h : inB8 l := h
  refine P_code (Quiet.e1 n_spec_l00From.toE (Quiet.e1 m_spec_l02Drawn.toE Quiet.nil)) hmix k_spec_A2Wild rfl ?_ ?_
  · first | rfl | simp
  show wpc 0 PP _ c_spec_A2Wild (initSt [.sl (bysA l) false] .nil) (endP r_spec_A2Wild (.agg [.int .i64 (lowP (drP l (0, 0)) (drD l (0, 0))), .int .i64 (lowQ (drP l (0, 0)) (drD l (0, 0)))]))
  have e := sp_drawn_eq l 0 0 ⟨h, by decide, by decide, by decide⟩
  have e0 : ((0 : Nat) : Int) = 0 := rfl
  rw [e0] at e
  simp -dsimp -implicitDefEqProofs [c_spec_A2Wild, r_spec_A2Wild, sp_l00From_eq l h, e]
theorem toldA_O (o : Option Fr) : toldA o.isNone (valO o).p (valO o).q = frO o := by cases o <;> rfl
noncomputable def sp_fracOf : List AV → Option (AV) := pf (ι := (Int) × (Int)) (α := AV) (fun ⟨p, q⟩ => (-1000000000000000000 ≤ p ∧ p ≤ 1000000000000000000) ∧ (-1000000000000000000 ≤ q ∧ q ≤ 1000000000000000000) ∧ q ≠ 0) (fun ⟨p, q⟩ => [.int .i64 p, .int .i64 q]) (fun ⟨p, q⟩ => frO (lowO p q))
theorem sp_fracOf_eq (p q : Int) (h : (-1000000000000000000 ≤ p ∧ p ≤ 1000000000000000000) ∧ (-1000000000000000000 ≤ q ∧ q ≤ 1000000000000000000) ∧ q ≠ 0) : sp_fracOf [.int .i64 p, .int .i64 q] = some (frO (lowO p q)) := by
  unfold sp_fracOf
  exact pf_eq (ι := (Int) × (Int)) (α := AV) (p, q) h (by rintro ⟨p', q'⟩ _ e; simp_all [Int.natCast_inj])
theorem q_impl_FractionOf : QP PP 19 sp_fracOf := by
  refine QP_pf (fun i h => ?_) fun i h => ?_
  · obtain ⟨p, q⟩ := i; exact ⟨by first | rfl | simp, by first | rfl | simp⟩
  obtain ⟨p, q⟩ := i
  replace h : (-1000000000000000000 ≤ p ∧ p ≤ 1000000000000000000) ∧ (-1000000000000000000 ≤ q ∧ q ≤ 1000000000000000000) ∧ q ≠ 0 := h
  refine P_code (Quiet.q1 q_impl_in (Quiet.q1 q_impl_lowest (Quiet.e1 m_impl_sums_kept.toE (Quiet.e1 m_impl_sums_told.toE Quiet.nil)))) hmix k_impl_FractionOf rfl ?_ ?_
  · first | rfl | simp
  show wpc 0 PP _ c_impl_FractionOf (initSt [.int .i64 p, .int .i64 q] .nil) (endP r_impl_FractionOf (frO (lowO p q)))
  obtain ⟨hp, hq, h0⟩ := h
  have i1 : in62 p := by unfold in62; omega
  have i2 : in62 q := by unfold in62; omega
  have hl := sp_lowest_eq p q ⟨i1, i2, h0⟩
  have hk := sp_kept_eq false (lowP p q) (lowQ p q) (lowP_in i1)
  rw [keepF_low, small_low, Bool.false_or] at hk
  have hz : (q == 0) = false := by simpa using h0
  have ht := sp_told_eq (lowO p q).isNone (valO (lowO p q)).p (valO (lowO p q)).q
  rw [toldA_O] at ht
  cases ho : lowO p q <;> rw [ho] at hk ht <;> simp -dsimp -implicitDefEqProofs [c_impl_FractionOf, r_impl_FractionOf, hz, hp, hq, hl, hk, ht, frO, toldA, valO]
theorem frOk_fin {p q : Int} (h : frOk p q = true) : frIn p q := by
  unfold frOk at h
  have := of_decide_eq_true h
  exact ⟨this.1, this.2.1⟩

/-! ### Add -/
noncomputable def sp_add1 : List (Option (List AV)) → List AV → Option (AV × List (Option (List AV))) := pv (pf (ι := (Bool) × (Int) × (Int) × (Int) × (Int)) (α := AV × List (Option (List AV))) (fun ⟨g, p, q, p', q'⟩ => frIn p q ∧ frIn p' q') (fun i => .agg (((fun ⟨g, p, q, p', q'⟩ => [some [.bool g], some [.int .i64 p, .int .i64 q], some [.int .i64 p', .int .i64 q']] : (Bool) × (Int) × (Int) × (Int) × (Int) → List (Option (List AV))) i).map enO) :: (fun ⟨g, p, q, p', q'⟩ => [.ptr 0 0, .ptr 1 0, .ptr 2 0] : (Bool) × (Int) × (Int) × (Int) × (Int) → List AV) i) (fun ⟨g, p, q, p', q'⟩ => (frA (valO (addO p q p' q')), [some [.bool (g || (addO p q p' q').isNone)], some [.int .i64 p, .int .i64 q], some [.int .i64 p', .int .i64 q']])))
theorem sp_add1_eq (g : Bool) (p q p' q' : Int) (h : frIn p q ∧ frIn p' q') : sp_add1 [some [.bool g], some [.int .i64 p, .int .i64 q], some [.int .i64 p', .int .i64 q']] [.ptr 0 0, .ptr 1 0, .ptr 2 0] = some (frA (valO (addO p q p' q')), [some [.bool (g || (addO p q p' q').isNone)], some [.int .i64 p, .int .i64 q], some [.int .i64 p', .int .i64 q']]) := by
  unfold sp_add1 pv
  exact pf_eq (ι := (Bool) × (Int) × (Int) × (Int) × (Int)) (α := AV × List (Option (List AV))) (g, p, q, p', q') h (by rintro ⟨g', p', q', p'', q''⟩ _ e; simp_all [enO, Int.natCast_inj])
theorem v_impl_AddFractions_1 : QV PP 69 sp_add1 := by
  refine QV_pf fun i h => ?_
  obtain ⟨g, p, q, p', q'⟩ := i
  replace h : frIn p q ∧ frIn p' q' := h
  refine H_code (Quiet.e1 m_impl_sums_add.toE Quiet.nil) hmix k_impl_AddFractions_1 rfl (fun b => b) (by simp [AHeap.n]) (fun _ _ => rfl) (by rfl) (by first | rfl | simp) ?_
  show wpc _ PP _ c_impl_AddFractions_1 (initSt [.ptr 0 0, .ptr 1 0, .ptr 2 0] ⟨[some [.bool g], some [.int .i64 p, .int .i64 q], some [.int .i64 p', .int .i64 q']]⟩) (endH (fun b => b) r_impl_AddFractions_1 (frA (valO (addO p q p' q'))) [some [.bool (g || (addO p q p' q').isNone)], some [.int .i64 p, .int .i64 q], some [.int .i64 p', .int .i64 q']])
  have e := sp_add_eq g p q p' q' h
  simp -dsimp -implicitDefEqProofs [c_impl_AddFractions_1, r_impl_AddFractions_1, e, hsub]
noncomputable def sp_workedAdd : List (Option (List AV)) → List AV → Option (AV × List (Option (List AV))) := pv (pf (ι := (Int) × (Int) × (Int) × (Int)) (α := AV × List (Option (List AV))) (fun ⟨p, q, p', q'⟩ => frOk p q = true ∧ frOk p' q' = true) (fun i => .agg (((fun ⟨p, q, p', q'⟩ => [some [.int .i64 p, .int .i64 q], some [.int .i64 p', .int .i64 q']] : (Int) × (Int) × (Int) × (Int) → List (Option (List AV))) i).map enO) :: (fun ⟨p, q, p', q'⟩ => [.agg [.int .i64 p, .int .i64 q], .agg [.int .i64 p', .int .i64 q'], .fn 69 [.ptr 0 0, .ptr 1 0]] : (Int) × (Int) × (Int) × (Int) → List AV) i) (fun ⟨p, q, p', q'⟩ => (frO (addO p q p' q'), [some [.int .i64 p, .int .i64 q], some [.int .i64 p', .int .i64 q']])))
theorem sp_workedAdd_eq (p q p' q' : Int) (h : frOk p q = true ∧ frOk p' q' = true) : sp_workedAdd [some [.int .i64 p, .int .i64 q], some [.int .i64 p', .int .i64 q']] [.agg [.int .i64 p, .int .i64 q], .agg [.int .i64 p', .int .i64 q'], .fn 69 [.ptr 0 0, .ptr 1 0]] = some (frO (addO p q p' q'), [some [.int .i64 p, .int .i64 q], some [.int .i64 p', .int .i64 q']]) := by
  unfold sp_workedAdd pv
  exact pf_eq (ι := (Int) × (Int) × (Int) × (Int)) (α := AV × List (Option (List AV))) (p, q, p', q') h (by rintro ⟨p', q', p'', q''⟩ _ e; simp_all [enO, Int.natCast_inj])
namespace WAdd
theorem v_impl_worked : QV PP 68 sp_workedAdd := by
  refine QV_pf fun i h => ?_
  obtain ⟨p, q, p', q'⟩ := i
  replace h : frOk p q = true ∧ frOk p' q' = true := h
  refine H_code (Quiet.q1 q_impl_ValidFraction (Quiet.e1 m_impl_sums_told.toE (Quiet.e1 v_impl_AddFractions_1.toE Quiet.nil))) hmix k_impl_worked rfl (fun b => b) (by simp [AHeap.n]) (fun _ _ => rfl) (by rfl) (by first | rfl | simp) ?_
  show wpc _ PP _ c_impl_worked (initSt [.agg [.int .i64 p, .int .i64 q], .agg [.int .i64 p', .int .i64 q'], .fn 69 [.ptr 0 0, .ptr 1 0]] ⟨[some [.int .i64 p, .int .i64 q], some [.int .i64 p', .int .i64 q']]⟩) (endH (fun b => b) r_impl_worked (frO (addO p q p' q')) [some [.int .i64 p, .int .i64 q], some [.int .i64 p', .int .i64 q']])
  have e := sp_add1_eq false p q p' q' ⟨frOk_fin h.1, frOk_fin h.2⟩
  have c1 : frOk p q = true := h.1
  have c2 : frOk p' q' = true := h.2
  rw [Bool.false_or] at e
  have ht := sp_told_eq (addO p q p' q').isNone (valO (addO p q p' q')).p (valO (addO p q p' q')).q
  rw [toldA_O] at ht
  have hc : spV sp_add1 [.ptr 5 0, .ptr 0 0, .ptr 1 0] ⟨[some [.int .i64 p, .int .i64 q], some [.int .i64 p', .int .i64 q'], some [.int .i64 p, .int .i64 q], some [.int .i64 p', .int .i64 q'], some [.int .i64 0, .int .i64 0], some [.bool false]]⟩ = some (frA (valO (addO p q p' q')), ⟨[some [.int .i64 p, .int .i64 q], some [.int .i64 p', .int .i64 q'], some [.int .i64 p, .int .i64 q], some [.int .i64 p', .int .i64 q'], some [.int .i64 0, .int .i64 0], some [.bool (addO p q p' q').isNone]]⟩) := by simp [e]
  simp -dsimp -implicitDefEqProofs [c_impl_worked, r_impl_worked, c1, c2]
  refine (v_impl_AddFractions_1.toE _ _ _ _ hc).mono fun r' A' hh => ?_
  obtain ⟨rfl, rfl⟩ := hh
  cases ho : addO p q p' q' <;> rw [ho] at ht <;> simp -dsimp -implicitDefEqProofs [ht, frO, toldA, valO, hsub]
end WAdd
theorem e_workedAdd : QE PP 68 (spV sp_workedAdd) := WAdd.v_impl_worked.toE
noncomputable def sp_addFr : List AV → Option (AV) := pf (ι := (Int) × (Int) × (Int) × (Int)) (α := AV) (fun ⟨p, q, p', q'⟩ => frOk p q = true ∧ frOk p' q' = true) (fun ⟨p, q, p', q'⟩ => [.agg [.int .i64 p, .int .i64 q], .agg [.int .i64 p', .int .i64 q']]) (fun ⟨p, q, p', q'⟩ => frO (addO p q p' q'))
theorem sp_addFr_eq (p q p' q' : Int) (h : frOk p q = true ∧ frOk p' q' = true) : sp_addFr [.agg [.int .i64 p, .int .i64 q], .agg [.int .i64 p', .int .i64 q']] = some (frO (addO p q p' q')) := by
  unfold sp_addFr
  exact pf_eq (ι := (Int) × (Int) × (Int) × (Int)) (α := AV) (p, q, p', q') h (by rintro ⟨p', q', p'', q''⟩ _ e; simp_all [Int.natCast_inj])
theorem q_impl_AddFractions : QP PP 22 sp_addFr := by
  refine QP_pf (fun i h => ?_) fun i h => ?_
  · obtain ⟨p, q, p', q'⟩ := i; exact ⟨by first | rfl | simp, by first | rfl | simp⟩
  obtain ⟨p, q, p', q'⟩ := i
  replace h : frOk p q = true ∧ frOk p' q' = true := h
  refine P_code (Quiet.e1 e_workedAdd Quiet.nil) hmix k_impl_AddFractions rfl ?_ ?_
  · first | rfl | simp
  show wpc 0 PP _ c_impl_AddFractions (initSt [.agg [.int .i64 p, .int .i64 q], .agg [.int .i64 p', .int .i64 q']] .nil) (endP r_impl_AddFractions (frO (addO p q p' q')))
  have e := sp_workedAdd_eq p q p' q' h
  cases ho : addO p q p' q' <;> rw [ho] at e <;> simp -dsimp -implicitDefEqProofs [c_impl_AddFractions, r_impl_AddFractions, e, frO]

/-! ### Sub -/
noncomputable def sp_sub1 : List (Option (List AV)) → List AV → Option (AV × List (Option (List AV))) := pv (pf (ι := (Bool) × (Int) × (Int) × (Int) × (Int)) (α := AV × List (Option (List AV))) (fun ⟨g, p, q, p', q'⟩ => frIn p q ∧ frIn p' q') (fun i => .agg (((fun ⟨g, p, q, p', q'⟩ => [some [.bool g], some [.int .i64 p, .int .i64 q], some [.int .i64 p', .int .i64 q']] : (Bool) × (Int) × (Int) × (Int) × (Int) → List (Option (List AV))) i).map enO) :: (fun ⟨g, p, q, p', q'⟩ => [.ptr 0 0, .ptr 1 0, .ptr 2 0] : (Bool) × (Int) × (Int) × (Int) × (Int) → List AV) i) (fun ⟨g, p, q, p', q'⟩ => (frA (valO (subO p q p' q')), [some [.bool (g || (subO p q p' q').isNone)], some [.int .i64 p, .int .i64 q], some [.int .i64 p', .int .i64 q']])))
theorem sp_sub1_eq (g : Bool) (p q p' q' : Int) (h : frIn p q ∧ frIn p' q') : sp_sub1 [some [.bool g], some [.int .i64 p, .int .i64 q], some [.int .i64 p', .int .i64 q']] [.ptr 0 0, .ptr 1 0, .ptr 2 0] = some (frA (valO (subO p q p' q')), [some [.bool (g || (subO p q p' q').isNone)], some [.int .i64 p, .int .i64 q], some [.int .i64 p', .int .i64 q']]) := by
  unfold sp_sub1 pv
  exact pf_eq (ι := (Bool) × (Int) × (Int) × (Int) × (Int)) (α := AV × List (Option (List AV))) (g, p, q, p', q') h (by rintro ⟨g', p', q', p'', q''⟩ _ e; simp_all [enO, Int.natCast_inj])
theorem v_impl_SubFractions_1 : QV PP 73 sp_sub1 := by
  refine QV_pf fun i h => ?_
  obtain ⟨g, p, q, p', q'⟩ := i
  replace h : frIn p q ∧ frIn p' q' := h
  refine H_code (Quiet.e1 m_impl_sums_sub.toE Quiet.nil) hmix k_impl_SubFractions_1 rfl (fun b => b) (by simp [AHeap.n]) (fun _ _ => rfl) (by rfl) (by first | rfl | simp) ?_
  show wpc _ PP _ c_impl_SubFractions_1 (initSt [.ptr 0 0, .ptr 1 0, .ptr 2 0] ⟨[some [.bool g], some [.int .i64 p, .int .i64 q], some [.int .i64 p', .int .i64 q']]⟩) (endH (fun b => b) r_impl_SubFractions_1 (frA (valO (subO p q p' q'))) [some [.bool (g || (subO p q p' q').isNone)], some [.int .i64 p, .int .i64 q], some [.int .i64 p', .int .i64 q']])
  have e := sp_sub_eq g p q p' q' h
  simp -dsimp -implicitDefEqProofs [c_impl_SubFractions_1, r_impl_SubFractions_1, e, hsub]
noncomputable def sp_workedSub : List (Option (List AV)) → List AV → Option (AV × List (Option (List AV))) := pv (pf (ι := (Int) × (Int) × (Int) × (Int)) (α := AV × List (Option (List AV))) (fun ⟨p, q, p', q'⟩ => frOk p q = true ∧ frOk p' q' = true) (fun i => .agg (((fun ⟨p, q, p', q'⟩ => [some [.int .i64 p, .int .i64 q], some [.int .i64 p', .int .i64 q']] : (Int) × (Int) × (Int) × (Int) → List (Option (List AV))) i).map enO) :: (fun ⟨p, q, p', q'⟩ => [.agg [.int .i64 p, .int .i64 q], .agg [.int .i64 p', .int .i64 q'], .fn 73 [.ptr 0 0, .ptr 1 0]] : (Int) × (Int) × (Int) × (Int) → List AV) i) (fun ⟨p, q, p', q'⟩ => (frO (subO p q p' q'), [some [.int .i64 p, .int .i64 q], some [.int .i64 p', .int .i64 q']])))
theorem sp_workedSub_eq (p q p' q' : Int) (h : frOk p q = true ∧ frOk p' q' = true) : sp_workedSub [some [.int .i64 p, .int .i64 q], some [.int .i64 p', .int .i64 q']] [.agg [.int .i64 p, .int .i64 q], .agg [.int .i64 p', .int .i64 q'], .fn 73 [.ptr 0 0, .ptr 1 0]] = some (frO (subO p q p' q'), [some [.int .i64 p, .int .i64 q], some [.int .i64 p', .int .i64 q']]) := by
  unfold sp_workedSub pv
  exact pf_eq (ι := (Int) × (Int) × (Int) × (Int)) (α := AV × List (Option (List AV))) (p, q, p', q') h (by rintro ⟨p', q', p'', q''⟩ _ e; simp_all [enO, Int.natCast_inj])
namespace WSub
theorem v_impl_worked : QV PP 68 sp_workedSub := by
  refine QV_pf fun i h => ?_
  obtain ⟨p, q, p', q'⟩ := i
  replace h : frOk p q = true ∧ frOk p' q' = true := h
  refine H_code (Quiet.q1 q_impl_ValidFraction (Quiet.e1 m_impl_sums_told.toE (Quiet.e1 v_impl_SubFractions_1.toE Quiet.nil))) hmix k_impl_worked rfl (fun b => b) (by simp [AHeap.n]) (fun _ _ => rfl) (by rfl) (by first | rfl | simp) ?_
  show wpc _ PP _ c_impl_worked (initSt [.agg [.int .i64 p, .int .i64 q], .agg [.int .i64 p', .int .i64 q'], .fn 73 [.ptr 0 0, .ptr 1 0]] ⟨[some [.int .i64 p, .int .i64 q], some [.int .i64 p', .int .i64 q']]⟩) (endH (fun b => b) r_impl_worked (frO (subO p q p' q')) [some [.int .i64 p, .int .i64 q], some [.int .i64 p', .int .i64 q']])
  have e := sp_sub1_eq false p q p' q' ⟨frOk_fin h.1, frOk_fin h.2⟩
  have c1 : frOk p q = true := h.1
  have c2 : frOk p' q' = true := h.2
  rw [Bool.false_or] at e
  have ht := sp_told_eq (subO p q p' q').isNone (valO (subO p q p' q')).p (valO (subO p q p' q')).q
  rw [toldA_O] at ht
  have hc : spV sp_sub1 [.ptr 5 0, .ptr 0 0, .ptr 1 0] ⟨[some [.int .i64 p, .int .i64 q], some [.int .i64 p', .int .i64 q'], some [.int .i64 p, .int .i64 q], some [.int .i64 p', .int .i64 q'], some [.int .i64 0, .int .i64 0], some [.bool false]]⟩ = some (frA (valO (subO p q p' q')), ⟨[some [.int .i64 p, .int .i64 q], some [.int .i64 p', .int .i64 q'], some [.int .i64 p, .int .i64 q], some [.int .i64 p', .int .i64 q'], some [.int .i64 0, .int .i64 0], some [.bool (subO p q p' q').isNone]]⟩) := by simp [e]
  simp -dsimp -implicitDefEqProofs [c_impl_worked, r_impl_worked, c1, c2]
  refine (v_impl_SubFractions_1.toE _ _ _ _ hc).mono fun r' A' hh => ?_
  obtain ⟨rfl, rfl⟩ := hh
  cases ho : subO p q p' q' <;> rw [ho] at ht <;> simp -dsimp -implicitDefEqProofs [ht, frO, toldA, valO, hsub]
end WSub
theorem e_workedSub : QE PP 68 (spV sp_workedSub) := WSub.v_impl_worked.toE
noncomputable def sp_subFr : List AV → Option (AV) := pf (ι := (Int) × (Int) × (Int) × (Int)) (α := AV) (fun ⟨p, q, p', q'⟩ => frOk p q = true ∧ frOk p' q' = true) (fun ⟨p, q, p', q'⟩ => [.agg [.int .i64 p, .int .i64 q], .agg [.int .i64 p', .int .i64 q']]) (fun ⟨p, q, p', q'⟩ => frO (subO p q p' q'))
theorem sp_subFr_eq (p q p' q' : Int) (h : frOk p q = true ∧ frOk p' q' = true) : sp_subFr [.agg [.int .i64 p, .int .i64 q], .agg [.int .i64 p', .int .i64 q']] = some (frO (subO p q p' q')) := by
  unfold sp_subFr
  exact pf_eq (ι := (Int) × (Int) × (Int) × (Int)) (α := AV) (p, q, p', q') h (by rintro ⟨p', q', p'', q''⟩ _ e; simp_all [Int.natCast_inj])
theorem q_impl_SubFractions : QP PP 24 sp_subFr := by
  refine QP_pf (fun i h => ?_) fun i h => ?_
  · obtain ⟨p, q, p', q'⟩ := i; exact ⟨by first | rfl | simp, by first | rfl | simp⟩
  obtain ⟨p, q, p', q'⟩ := i
  replace h : frOk p q = true ∧ frOk p' q' = true := h
  refine P_code (Quiet.e1 e_workedSub Quiet.nil) hmix k_impl_SubFractions rfl ?_ ?_
  · first | rfl | simp
  show wpc 0 PP _ c_impl_SubFractions (initSt [.agg [.int .i64 p, .int .i64 q], .agg [.int .i64 p', .int .i64 q']] .nil) (endP r_impl_SubFractions (frO (subO p q p' q')))
  have e := sp_workedSub_eq p q p' q' h
  cases ho : subO p q p' q' <;> rw [ho] at e <;> simp -dsimp -implicitDefEqProofs [c_impl_SubFractions, r_impl_SubFractions, e, frO]

/-! ### Mul -/
noncomputable def sp_mul1 : List (Option (List AV)) → List AV → Option (AV × List (Option (List AV))) := pv (pf (ι := (Bool) × (Int) × (Int) × (Int) × (Int)) (α := AV × List (Option (List AV))) (fun ⟨g, p, q, p', q'⟩ => frIn p q ∧ frIn p' q') (fun i => .agg (((fun ⟨g, p, q, p', q'⟩ => [some [.bool g], some [.int .i64 p, .int .i64 q], some [.int .i64 p', .int .i64 q']] : (Bool) × (Int) × (Int) × (Int) × (Int) → List (Option (List AV))) i).map enO) :: (fun ⟨g, p, q, p', q'⟩ => [.ptr 0 0, .ptr 1 0, .ptr 2 0] : (Bool) × (Int) × (Int) × (Int) × (Int) → List AV) i) (fun ⟨g, p, q, p', q'⟩ => (frA (valO (mulO p q p' q')), [some [.bool (g || (mulO p q p' q').isNone)], some [.int .i64 p, .int .i64 q], some [.int .i64 p', .int .i64 q']])))
theorem sp_mul1_eq (g : Bool) (p q p' q' : Int) (h : frIn p q ∧ frIn p' q') : sp_mul1 [some [.bool g], some [.int .i64 p, .int .i64 q], some [.int .i64 p', .int .i64 q']] [.ptr 0 0, .ptr 1 0, .ptr 2 0] = some (frA (valO (mulO p q p' q')), [some [.bool (g || (mulO p q p' q').isNone)], some [.int .i64 p, .int .i64 q], some [.int .i64 p', .int .i64 q']]) := by
  unfold sp_mul1 pv
  exact pf_eq (ι := (Bool) × (Int) × (Int) × (Int) × (Int)) (α := AV × List (Option (List AV))) (g, p, q, p', q') h (by rintro ⟨g', p', q', p'', q''⟩ _ e; simp_all [enO, Int.natCast_inj])
theorem v_impl_MulFractions_1 : QV PP 75 sp_mul1 := by
  refine QV_pf fun i h => ?_
  obtain ⟨g, p, q, p', q'⟩ := i
  replace h : frIn p q ∧ frIn p' q' := h
  refine H_code (Quiet.e1 m_impl_sums_mul.toE Quiet.nil) hmix k_impl_MulFractions_1 rfl (fun b => b) (by simp [AHeap.n]) (fun _ _ => rfl) (by rfl) (by first | rfl | simp) ?_
  show wpc _ PP _ c_impl_MulFractions_1 (initSt [.ptr 0 0, .ptr 1 0, .ptr 2 0] ⟨[some [.bool g], some [.int .i64 p, .int .i64 q], some [.int .i64 p', .int .i64 q']]⟩) (endH (fun b => b) r_impl_MulFractions_1 (frA (valO (mulO p q p' q'))) [some [.bool (g || (mulO p q p' q').isNone)], some [.int .i64 p, .int .i64 q], some [.int .i64 p', .int .i64 q']])
  have e := sp_mul_eq g p q p' q' h
  simp -dsimp -implicitDefEqProofs [c_impl_MulFractions_1, r_impl_MulFractions_1, e, hsub]
noncomputable def sp_workedMul : List (Option (List AV)) → List AV → Option (AV × List (Option (List AV))) := pv (pf (ι := (Int) × (Int) × (Int) × (Int)) (α := AV × List (Option (List AV))) (fun ⟨p, q, p', q'⟩ => frOk p q = true ∧ frOk p' q' = true) (fun i => .agg (((fun ⟨p, q, p', q'⟩ => [some [.int .i64 p, .int .i64 q], some [.int .i64 p', .int .i64 q']] : (Int) × (Int) × (Int) × (Int) → List (Option (List AV))) i).map enO) :: (fun ⟨p, q, p', q'⟩ => [.agg [.int .i64 p, .int .i64 q], .agg [.int .i64 p', .int .i64 q'], .fn 75 [.ptr 0 0, .ptr 1 0]] : (Int) × (Int) × (Int) × (Int) → List AV) i) (fun ⟨p, q, p', q'⟩ => (frO (mulO p q p' q'), [some [.int .i64 p, .int .i64 q], some [.int .i64 p', .int .i64 q']])))
theorem sp_workedMul_eq (p q p' q' : Int) (h : frOk p q = true ∧ frOk p' q' = true) : sp_workedMul [some [.int .i64 p, .int .i64 q], some [.int .i64 p', .int .i64 q']] [.agg [.int .i64 p, .int .i64 q], .agg [.int .i64 p', .int .i64 q'], .fn 75 [.ptr 0 0, .ptr 1 0]] = some (frO (mulO p q p' q'), [some [.int .i64 p, .int .i64 q], some [.int .i64 p', .int .i64 q']]) := by
  unfold sp_workedMul pv
  exact pf_eq (ι := (Int) × (Int) × (Int) × (Int)) (α := AV × List (Option (List AV))) (p, q, p', q') h (by rintro ⟨p', q', p'', q''⟩ _ e; simp_all [enO, Int.natCast_inj])
namespace WMul
theorem v_impl_worked : QV PP 68 sp_workedMul := by
  refine QV_pf fun i h => ?_
  obtain ⟨p, q, p', q'⟩ := i
  replace h : frOk p q = true ∧ frOk p' q' = true := h
  refine H_code (Quiet.q1 q_impl_ValidFraction (Quiet.e1 m_impl_sums_told.toE (Quiet.e1 v_impl_MulFractions_1.toE Quiet.nil))) hmix k_impl_worked rfl (fun b => b) (by simp [AHeap.n]) (fun _ _ => rfl) (by rfl) (by first | rfl | simp) ?_
  show wpc _ PP _ c_impl_worked (initSt [.agg [.int .i64 p, .int .i64 q], .agg [.int .i64 p', .int .i64 q'], .fn 75 [.ptr 0 0, .ptr 1 0]] ⟨[some [.int .i64 p, .int .i64 q], some [.int .i64 p', .int .i64 q']]⟩) (endH (fun b => b) r_impl_worked (frO (mulO p q p' q')) [some [.int .i64 p, .int .i64 q], some [.int .i64 p', .int .i64 q']])
  have e := sp_mul1_eq false p q p' q' ⟨frOk_fin h.1, frOk_fin h.2⟩
  have c1 : frOk p q = true := h.1
  have c2 : frOk p' q' = true := h.2
  rw [Bool.false_or] at e
  have ht := sp_told_eq (mulO p q p' q').isNone (valO (mulO p q p' q')).p (valO (mulO p q p' q')).q
  rw [toldA_O] at ht
  have hc : spV sp_mul1 [.ptr 5 0, .ptr 0 0, .ptr 1 0] ⟨[some [.int .i64 p, .int .i64 q], some [.int .i64 p', .int .i64 q'], some [.int .i64 p, .int .i64 q], some [.int .i64 p', .int .i64 q'], some [.int .i64 0, .int .i64 0], some [.bool false]]⟩ = some (frA (valO (mulO p q p' q')), ⟨[some [.int .i64 p, .int .i64 q], some [.int .i64 p', .int .i64 q'], some [.int .i64 p, .int .i64 q], some [.int .i64 p', .int .i64 q'], some [.int .i64 0, .int .i64 0], some [.bool (mulO p q p' q').isNone]]⟩) := by simp [e]
  simp -dsimp -implicitDefEqProofs [c_impl_worked, r_impl_worked, c1, c2]
  refine (v_impl_MulFractions_1.toE _ _ _ _ hc).mono fun r' A' hh => ?_
  obtain ⟨rfl, rfl⟩ := hh
  cases ho : mulO p q p' q' <;> rw [ho] at ht <;> simp -dsimp -implicitDefEqProofs [ht, frO, toldA, valO, hsub]
end WMul
theorem e_workedMul : QE PP 68 (spV sp_workedMul) := WMul.v_impl_worked.toE
noncomputable def sp_mulFr : List AV → Option (AV) := pf (ι := (Int) × (Int) × (Int) × (Int)) (α := AV) (fun ⟨p, q, p', q'⟩ => frOk p q = true ∧ frOk p' q' = true) (fun ⟨p, q, p', q'⟩ => [.agg [.int .i64 p, .int .i64 q], .agg [.int .i64 p', .int .i64 q']]) (fun ⟨p, q, p', q'⟩ => frO (mulO p q p' q'))
theorem sp_mulFr_eq (p q p' q' : Int) (h : frOk p q = true ∧ frOk p' q' = true) : sp_mulFr [.agg [.int .i64 p, .int .i64 q], .agg [.int .i64 p', .int .i64 q']] = some (frO (mulO p q p' q')) := by
  unfold sp_mulFr
  exact pf_eq (ι := (Int) × (Int) × (Int) × (Int)) (α := AV) (p, q, p', q') h (by rintro ⟨p', q', p'', q''⟩ _ e; simp_all [Int.natCast_inj])
theorem q_impl_MulFractions : QP PP 25 sp_mulFr := by
  refine QP_pf (fun i h => ?_) fun i h => ?_
  · obtain ⟨p, q, p', q'⟩ := i; exact ⟨by first | rfl | simp, by first | rfl | simp⟩
  obtain ⟨p, q, p', q'⟩ := i
  replace h : frOk p q = true ∧ frOk p' q' = true := h
  refine P_code (Quiet.e1 e_workedMul Quiet.nil) hmix k_impl_MulFractions rfl ?_ ?_
  · first | rfl | simp
  show wpc 0 PP _ c_impl_MulFractions (initSt [.agg [.int .i64 p, .int .i64 q], .agg [.int .i64 p', .int .i64 q']] .nil) (endP r_impl_MulFractions (frO (mulO p q p' q')))
  have e := sp_workedMul_eq p q p' q' h
  cases ho : mulO p q p' q' <;> rw [ho] at e <;> simp -dsimp -implicitDefEqProofs [c_impl_MulFractions, r_impl_MulFractions, e, frO]

/-! ### Div -/
noncomputable def sp_div1 : List (Option (List AV)) → List AV → Option (AV × List (Option (List AV))) := pv (pf (ι := (Bool) × (Int) × (Int) × (Int) × (Int)) (α := AV × List (Option (List AV))) (fun ⟨g, p, q, p', q'⟩ => frIn p q ∧ frIn p' q' ∧ p' ≠ 0) (fun i => .agg (((fun ⟨g, p, q, p', q'⟩ => [some [.bool g], some [.int .i64 p, .int .i64 q], some [.int .i64 p', .int .i64 q']] : (Bool) × (Int) × (Int) × (Int) × (Int) → List (Option (List AV))) i).map enO) :: (fun ⟨g, p, q, p', q'⟩ => [.ptr 0 0, .ptr 1 0, .ptr 2 0] : (Bool) × (Int) × (Int) × (Int) × (Int) → List AV) i) (fun ⟨g, p, q, p', q'⟩ => (frA (valO (divO p q p' q')), [some [.bool (g || (divO p q p' q').isNone)], some [.int .i64 p, .int .i64 q], some [.int .i64 p', .int .i64 q']])))
theorem sp_div1_eq (g : Bool) (p q p' q' : Int) (h : frIn p q ∧ frIn p' q' ∧ p' ≠ 0) : sp_div1 [some [.bool g], some [.int .i64 p, .int .i64 q], some [.int .i64 p', .int .i64 q']] [.ptr 0 0, .ptr 1 0, .ptr 2 0] = some (frA (valO (divO p q p' q')), [some [.bool (g || (divO p q p' q').isNone)], some [.int .i64 p, .int .i64 q], some [.int .i64 p', .int .i64 q']]) := by
  unfold sp_div1 pv
  exact pf_eq (ι := (Bool) × (Int) × (Int) × (Int) × (Int)) (α := AV × List (Option (List AV))) (g, p, q, p', q') h (by rintro ⟨g', p', q', p'', q''⟩ _ e; simp_all [enO, Int.natCast_inj])
theorem v_impl_DivFractions_1 : QV PP 78 sp_div1 := by
  refine QV_pf fun i h => ?_
  obtain ⟨g, p, q, p', q'⟩ := i
  replace h : frIn p q ∧ frIn p' q' ∧ p' ≠ 0 := h
  refine H_code (Quiet.e1 m_impl_sums_div.toE Quiet.nil) hmix k_impl_DivFractions_1 rfl (fun b => b) (by simp [AHeap.n]) (fun _ _ => rfl) (by rfl) (by first | rfl | simp) ?_
  show wpc _ PP _ c_impl_DivFractions_1 (initSt [.ptr 0 0, .ptr 1 0, .ptr 2 0] ⟨[some [.bool g], some [.int .i64 p, .int .i64 q], some [.int .i64 p', .int .i64 q']]⟩) (endH (fun b => b) r_impl_DivFractions_1 (frA (valO (divO p q p' q'))) [some [.bool (g || (divO p q p' q').isNone)], some [.int .i64 p, .int .i64 q], some [.int .i64 p', .int .i64 q']])
  have e := sp_div_eq g p q p' q' h
  simp -dsimp -implicitDefEqProofs [c_impl_DivFractions_1, r_impl_DivFractions_1, e, hsub]
noncomputable def sp_workedDiv : List (Option (List AV)) → List AV → Option (AV × List (Option (List AV))) := pv (pf (ι := (Int) × (Int) × (Int) × (Int)) (α := AV × List (Option (List AV))) (fun ⟨p, q, p', q'⟩ => frOk p q = true ∧ frOk p' q' = true ∧ p' ≠ 0) (fun i => .agg (((fun ⟨p, q, p', q'⟩ => [some [.int .i64 p, .int .i64 q], some [.int .i64 p', .int .i64 q']] : (Int) × (Int) × (Int) × (Int) → List (Option (List AV))) i).map enO) :: (fun ⟨p, q, p', q'⟩ => [.agg [.int .i64 p, .int .i64 q], .agg [.int .i64 p', .int .i64 q'], .fn 78 [.ptr 0 0, .ptr 1 0]] : (Int) × (Int) × (Int) × (Int) → List AV) i) (fun ⟨p, q, p', q'⟩ => (frO (divO p q p' q'), [some [.int .i64 p, .int .i64 q], some [.int .i64 p', .int .i64 q']])))
theorem sp_workedDiv_eq (p q p' q' : Int) (h : frOk p q = true ∧ frOk p' q' = true ∧ p' ≠ 0) : sp_workedDiv [some [.int .i64 p, .int .i64 q], some [.int .i64 p', .int .i64 q']] [.agg [.int .i64 p, .int .i64 q], .agg [.int .i64 p', .int .i64 q'], .fn 78 [.ptr 0 0, .ptr 1 0]] = some (frO (divO p q p' q'), [some [.int .i64 p, .int .i64 q], some [.int .i64 p', .int .i64 q']]) := by
  unfold sp_workedDiv pv
  exact pf_eq (ι := (Int) × (Int) × (Int) × (Int)) (α := AV × List (Option (List AV))) (p, q, p', q') h (by rintro ⟨p', q', p'', q''⟩ _ e; simp_all [enO, Int.natCast_inj])
namespace WDiv
theorem v_impl_worked : QV PP 68 sp_workedDiv := by
  refine QV_pf fun i h => ?_
  obtain ⟨p, q, p', q'⟩ := i
  replace h : frOk p q = true ∧ frOk p' q' = true ∧ p' ≠ 0 := h
  refine H_code (Quiet.q1 q_impl_ValidFraction (Quiet.e1 m_impl_sums_told.toE (Quiet.e1 v_impl_DivFractions_1.toE Quiet.nil))) hmix k_impl_worked rfl (fun b => b) (by simp [AHeap.n]) (fun _ _ => rfl) (by rfl) (by first | rfl | simp) ?_
  show wpc _ PP _ c_impl_worked (initSt [.agg [.int .i64 p, .int .i64 q], .agg [.int .i64 p', .int .i64 q'], .fn 78 [.ptr 0 0, .ptr 1 0]] ⟨[some [.int .i64 p, .int .i64 q], some [.int .i64 p', .int .i64 q']]⟩) (endH (fun b => b) r_impl_worked (frO (divO p q p' q')) [some [.int .i64 p, .int .i64 q], some [.int .i64 p', .int .i64 q']])
  have e := sp_div1_eq false p q p' q' ⟨frOk_fin h.1, frOk_fin h.2.1, h.2.2⟩
  have c1 : frOk p q = true := h.1
  have c2 : frOk p' q' = true := h.2.1
  rw [Bool.false_or] at e
  have ht := sp_told_eq (divO p q p' q').isNone (valO (divO p q p' q')).p (valO (divO p q p' q')).q
  rw [toldA_O] at ht
  have hc : spV sp_div1 [.ptr 5 0, .ptr 0 0, .ptr 1 0] ⟨[some [.int .i64 p, .int .i64 q], some [.int .i64 p', .int .i64 q'], some [.int .i64 p, .int .i64 q], some [.int .i64 p', .int .i64 q'], some [.int .i64 0, .int .i64 0], some [.bool false]]⟩ = some (frA (valO (divO p q p' q')), ⟨[some [.int .i64 p, .int .i64 q], some [.int .i64 p', .int .i64 q'], some [.int .i64 p, .int .i64 q], some [.int .i64 p', .int .i64 q'], some [.int .i64 0, .int .i64 0], some [.bool (divO p q p' q').isNone]]⟩) := by simp [e]
  simp -dsimp -implicitDefEqProofs [c_impl_worked, r_impl_worked, c1, c2]
  refine (v_impl_DivFractions_1.toE _ _ _ _ hc).mono fun r' A' hh => ?_
  obtain ⟨rfl, rfl⟩ := hh
  cases ho : divO p q p' q' <;> rw [ho] at ht <;> simp -dsimp -implicitDefEqProofs [ht, frO, toldA, valO, hsub]
end WDiv
theorem e_workedDiv : QE PP 68 (spV sp_workedDiv) := WDiv.v_impl_worked.toE
noncomputable def sp_divFr : List AV → Option (AV) := pf (ι := (Int) × (Int) × (Int) × (Int)) (α := AV) (fun ⟨p, q, p', q'⟩ => frOk p q = true ∧ frOk p' q' = true ∧ p' ≠ 0) (fun ⟨p, q, p', q'⟩ => [.agg [.int .i64 p, .int .i64 q], .agg [.int .i64 p', .int .i64 q']]) (fun ⟨p, q, p', q'⟩ => frO (divO p q p' q'))
theorem sp_divFr_eq (p q p' q' : Int) (h : frOk p q = true ∧ frOk p' q' = true ∧ p' ≠ 0) : sp_divFr [.agg [.int .i64 p, .int .i64 q], .agg [.int .i64 p', .int .i64 q']] = some (frO (divO p q p' q')) := by
  unfold sp_divFr
  exact pf_eq (ι := (Int) × (Int) × (Int) × (Int)) (α := AV) (p, q, p', q') h (by rintro ⟨p', q', p'', q''⟩ _ e; simp_all [Int.natCast_inj])
theorem q_impl_DivFractions : QP PP 27 sp_divFr := by
  refine QP_pf (fun i h => ?_) fun i h => ?_
  · obtain ⟨p, q, p', q'⟩ := i; exact ⟨by first | rfl | simp, by first | rfl | simp⟩
  obtain ⟨p, q, p', q'⟩ := i
  replace h : frOk p q = true ∧ frOk p' q' = true ∧ p' ≠ 0 := h
  refine P_code (Quiet.q1 q_impl_ValidFraction (Quiet.e1 e_workedDiv Quiet.nil)) hmix k_impl_DivFractions rfl ?_ ?_
  · first | rfl | simp
  show wpc 0 PP _ c_impl_DivFractions (initSt [.agg [.int .i64 p, .int .i64 q], .agg [.int .i64 p', .int .i64 q']] .nil) (endP r_impl_DivFractions (frO (divO p q p' q')))
  have e := sp_workedDiv_eq p q p' q' h
  have c1 : frOk p q = true := h.1
  have c2 : frOk p' q' = true := h.2.1
  have hz : (p' == 0) = false := by simpa using h.2.2
  cases ho : divO p q p' q' <;> rw [ho] at e <;> simp -dsimp -implicitDefEqProofs [c_impl_DivFractions, r_impl_DivFractions, c1, c2, hz, e, frO]

/-! ### the reference's; order -/
theorem q_spec_AddFractions : QP PP 23 sp_addFr := by
  refine QP_pf (fun i h => ?_) fun i h => ?_
  · obtain ⟨p, q, p', q'⟩ := i; exact ⟨by first | rfl | simp, by first | rfl | simp⟩
  obtain ⟨p, q, p', q'⟩ := i
  replace h : frOk p q = true ∧ frOk p' q' = true := h
  refine P_code (Quiet.q1 q_spec_l02Ok (Quiet.q1 q_spec_l02Add Quiet.nil)) hmix k_spec_AddFractions rfl ?_ ?_
  · first | rfl | simp
  show wpc 0 PP _ c_spec_AddFractions (initSt [.agg [.int .i64 p, .int .i64 q], .agg [.int .i64 p', .int .i64 q']] .nil) (endP r_spec_AddFractions (frO (addO p q p' q')))
  have e := sp_l02Add_eq p q p' q' ⟨frOk_fin h.1, frOk_fin h.2⟩
  have c1 : frOk p q = true := h.1
  have c2 : frOk p' q' = true := h.2
  cases ho : addO p q p' q' <;> rw [ho] at e <;> simp -dsimp -implicitDefEqProofs [c_spec_AddFractions, r_spec_AddFractions, c1, c2, e, frO]
theorem q_spec_MulFractions : QP PP 26 sp_mulFr := by
  refine QP_pf (fun i h => ?_) fun i h => ?_
  · obtain ⟨p, q, p', q'⟩ := i; exact ⟨by first | rfl | simp, by first | rfl | simp⟩
  obtain ⟨p, q, p', q'⟩ := i
  replace h : frOk p q = true ∧ frOk p' q' = true := h
  refine P_code (Quiet.q1 q_spec_l02Ok (Quiet.q1 q_spec_l02Mul Quiet.nil)) hmix k_spec_MulFractions rfl ?_ ?_
  · first | rfl | simp
  show wpc 0 PP _ c_spec_MulFractions (initSt [.agg [.int .i64 p, .int .i64 q], .agg [.int .i64 p', .int .i64 q']] .nil) (endP r_spec_MulFractions (frO (mulO p q p' q')))
  have e := sp_l02Mul_eq p q p' q' ⟨frOk_fin h.1, frOk_fin h.2⟩
  have c1 : frOk p q = true := h.1
  have c2 : frOk p' q' = true := h.2
  cases ho : mulO p q p' q' <;> rw [ho] at e <;> simp -dsimp -implicitDefEqProofs [c_spec_MulFractions, r_spec_MulFractions, c1, c2, e, frO]
noncomputable def sp_cmpFr : List AV → Option (AV) := pf (ι := (Int) × (Int) × (Int) × (Int)) (α := AV) (fun ⟨p, q, p', q'⟩ => frOk p q = true ∧ frOk p' q' = true) (fun ⟨p, q, p', q'⟩ => [.agg [.int .i64 p, .int .i64 q], .agg [.int .i64 p', .int .i64 q']]) (fun ⟨p, q, p', q'⟩ => .tup [.int .i64 (compF p q p' q'), .int .i64 0])
theorem sp_cmpFr_eq (p q p' q' : Int) (h : frOk p q = true ∧ frOk p' q' = true) : sp_cmpFr [.agg [.int .i64 p, .int .i64 q], .agg [.int .i64 p', .int .i64 q']] = some (.tup [.int .i64 (compF p q p' q'), .int .i64 0]) := by
  unfold sp_cmpFr
  exact pf_eq (ι := (Int) × (Int) × (Int) × (Int)) (α := AV) (p, q, p', q') h (by rintro ⟨p', q', p'', q''⟩ _ e; simp_all [Int.natCast_inj])
theorem q_impl_CompareFractions : QP PP 21 sp_cmpFr := by
  refine QP_pf (fun i h => ?_) fun i h => ?_
  · obtain ⟨p, q, p', q'⟩ := i; exact ⟨by first | rfl | simp, by first | rfl | simp⟩
  obtain ⟨p, q, p', q'⟩ := i
  replace h : frOk p q = true ∧ frOk p' q' = true := h
  refine P_code (Quiet.q1 q_impl_ValidFraction (Quiet.q1 q_impl_compare Quiet.nil)) hmix k_impl_CompareFractions rfl ?_ ?_
  · first | rfl | simp
  show wpc 0 PP _ c_impl_CompareFractions (initSt [.agg [.int .i64 p, .int .i64 q], .agg [.int .i64 p', .int .i64 q']] .nil) (endP r_impl_CompareFractions (.tup [.int .i64 (compF p q p' q'), .int .i64 0]))
  have c1 : frOk p q = true := h.1
  have c2 : frOk p' q' = true := h.2
  simp -dsimp -implicitDefEqProofs [c_impl_CompareFractions, r_impl_CompareFractions, c1, c2]
end Go.Proofs.YtgophedkejgedaaDoorAi
end

section
/- MADE BY PROGRAM (wip/tools/gen.py): the abstract code of functions. -/
namespace Go.Proofs.YtgophedkejgedaaDoorAi
open Go AC AOp Opd
set_option linter.unusedVariables false
set_option maxRecDepth 100000
def c_strconv_FormatInt : AC := seq (reg [⟨(some 4), mv (c (.str ⟨#[]⟩)), none⟩]) (seq (reg [⟨(some 5), mv (t 0), none⟩, ⟨(some 6), mv (t 1), none⟩, ⟨(some 7), callq (c (.fn 162 [])) [t 5, t 6], none⟩, ⟨(some 4), mv (t 7), none⟩]) (ret))
def r_strconv_FormatInt : List ARes := [.tmp 4]
theorem k_strconv_FormatInt : acLin Go.Proofs.Tryd.prog 139 2 (inQ [162] []) [] = some (c_strconv_FormatInt, r_strconv_FormatInt) := by kernel_rfl
def c_spec_Decimal : AC := seq (reg [⟨(some 2), mv (c (.str ⟨#[]⟩)), none⟩]) (seq (seq (reg [⟨(some 3), mv (t 0), none⟩, ⟨(some 4), bin .geq (t 3) (c (.int .i64 10)), none⟩]) (cond (t 4) (seq (reg [⟨(some 5), mv (t 0), none⟩, ⟨(some 6), bin .quo (t 5) (c (.int .i64 10)), none⟩, ⟨(some 7), callq (c (.fn 97 [])) [t 6], none⟩, ⟨(some 8), mv (t 0), none⟩, ⟨(some 9), bin .rem (t 8) (c (.int .i64 10)), none⟩, ⟨(some 10), bin .add (c (.int .i64 48)) (t 9), none⟩, ⟨(some 11), conv .u8 (t 10), none⟩, ⟨(some 12), bsl 1 1 [.int .u8 0] [(0, t 11)], none⟩, ⟨(some 13), b2s (t 12), none⟩, ⟨(some 14), bin .add (t 7) (t 13), none⟩, ⟨(some 2), mv (t 14), none⟩]) (ret)) (skip))) (seq (reg [⟨(some 15), mv (t 0), none⟩, ⟨(some 16), bin .add (c (.int .i64 48)) (t 15), none⟩, ⟨(some 17), conv .u8 (t 16), none⟩, ⟨(some 18), bsl 1 1 [.int .u8 0] [(0, t 17)], none⟩, ⟨(some 19), b2s (t 18), none⟩, ⟨(some 2), mv (t 19), none⟩]) (ret)))
def r_spec_Decimal : List ARes := [.tmp 2]
theorem k_spec_Decimal : acLin Go.Proofs.Tryd.prog 97 1 (inQ [97] []) [⟨false, none, [], [], none⟩, ⟨false, none, [], [], none⟩, ⟨false, some [0, 1, 2, 3, 4, 5, 6, 7, 8, 9, 10], [], [], none⟩] = some (c_spec_Decimal, r_spec_Decimal) := by kernel_rfl
def c_impl_decimal : AC := seq (reg [⟨(some 2), mv (c (.str ⟨#[]⟩)), none⟩]) (seq (reg [⟨(some 3), mv (t 0), none⟩, ⟨(some 4), callq (c (.fn 139 [])) [t 3, c (.int .i64 10)], none⟩, ⟨(some 2), mv (t 4), none⟩]) (ret))
def r_impl_decimal : List ARes := [.tmp 2]
theorem k_impl_decimal : acLin Go.Proofs.Tryd.prog 106 1 (inQ [139] []) [] = some (c_impl_decimal, r_impl_decimal) := by kernel_rfl
def c_impl_Fraction_text : AC := seq (reg [⟨(some 1), box 2 (t 0), none⟩, ⟨(some 2), mv (c (.str ⟨#[]⟩)), none⟩]) (seq (seq (reg [⟨(some 3), fad (t 1) 1, none⟩, ⟨(some 4), ld (t 3) 1 false, none⟩, ⟨(some 5), bin .eql (t 4) (c (.int .i64 1)), none⟩]) (cond (t 5) (seq (reg [⟨(some 6), fad (t 1) 0, none⟩, ⟨(some 7), ld (t 6) 1 false, none⟩, ⟨(some 8), callq (c (.fn 106 [])) [t 7], none⟩, ⟨(some 2), mv (t 8), none⟩]) (ret)) (skip))) (seq (reg [⟨(some 9), fad (t 1) 0, none⟩, ⟨(some 10), ld (t 9) 1 false, none⟩, ⟨(some 11), callq (c (.fn 106 [])) [t 10], none⟩, ⟨(some 12), bin .add (t 11) (c (.str ⟨#[47]⟩)), none⟩, ⟨(some 13), fad (t 1) 1, none⟩, ⟨(some 14), ld (t 13) 1 false, none⟩, ⟨(some 15), callq (c (.fn 106 [])) [t 14], none⟩, ⟨(some 16), bin .add (t 12) (t 15), none⟩, ⟨(some 2), mv (t 16), none⟩]) (ret)))
def r_impl_Fraction_text : List ARes := [.tmp 2]
theorem k_impl_Fraction_text : acLin Go.Proofs.Tryd.prog 61 1 (inQ [106] []) [⟨false, none, [], [], none⟩, ⟨false, none, [], [], none⟩, ⟨false, none, [], [], none⟩, ⟨false, none, [], [], none⟩, ⟨false, some [0, 1, 2, 3, 4, 5, 6, 7, 8], [], [], none⟩] = some (c_impl_Fraction_text, r_impl_Fraction_text) := by kernel_rfl
def c_impl_FractionText : AC := seq (reg [⟨(some 1), box 2 (t 0), none⟩, ⟨(some 2), mv (c (.str ⟨#[]⟩)), none⟩]) (seq (seq (reg [⟨(some 3), ld (t 1) 2 true, none⟩, ⟨(some 4), callq (c (.fn 20 [])) [t 3], none⟩, ⟨(some 5), un .not (t 4), none⟩]) (cond (t 5) (seq (reg [⟨(some 2), mv (c (.str ⟨#[]⟩)), none⟩]) (ret)) (skip))) (seq (reg [⟨(some 6), ld (t 1) 2 true, none⟩, ⟨(some 7), callq (c (.fn 61 [])) [t 6], none⟩, ⟨(some 2), mv (t 7), none⟩]) (ret)))
def r_impl_FractionText : List ARes := [.tmp 2]
theorem k_impl_FractionText : acLin Go.Proofs.Tryd.prog 18 1 (inQ [20, 61] []) [] = some (c_impl_FractionText, r_impl_FractionText) := by kernel_rfl
def c_spec_FractionText : AC := seq (reg [⟨(some 1), box 2 (t 0), none⟩, ⟨(some 2), mv (c (.str ⟨#[]⟩)), none⟩]) (seq (seq (reg [⟨(some 4), ld (t 1) 2 true, none⟩, ⟨(some 5), callq (c (.fn 71 [])) [t 4], none⟩, ⟨(some 6), un .not (t 5), none⟩]) (cond (t 6) (seq (reg [⟨(some 2), mv (c (.str ⟨#[]⟩)), none⟩]) (ret)) (skip))) (seq (reg [⟨(some 7), fad (t 1) 0, none⟩, ⟨(some 8), ld (t 7) 1 false, none⟩, ⟨(some 9), callq (c (.fn 122 [])) [t 8], none⟩, ⟨(some 10), callq (c (.fn 97 [])) [t 9], none⟩, ⟨(some 3), mv (t 10), none⟩]) (seq (seq (reg [⟨(some 11), fad (t 1) 0, none⟩, ⟨(some 12), ld (t 11) 1 false, none⟩, ⟨(some 13), bin .lss (t 12) (c (.int .i64 0)), none⟩]) (cond (t 13) (reg [⟨(some 14), mv (t 3), none⟩, ⟨(some 15), bin .add (c (.str ⟨#[45]⟩)) (t 14), none⟩, ⟨(some 3), mv (t 15), none⟩]) (skip))) (seq (seq (reg [⟨(some 16), fad (t 1) 1, none⟩, ⟨(some 17), ld (t 16) 1 false, none⟩, ⟨(some 18), bin .neq (t 17) (c (.int .i64 1)), none⟩]) (cond (t 18) (reg [⟨(some 19), mv (t 3), none⟩, ⟨(some 20), fad (t 1) 1, none⟩, ⟨(some 21), ld (t 20) 1 false, none⟩, ⟨(some 22), callq (c (.fn 97 [])) [t 21], none⟩, ⟨(some 23), bin .add (c (.str ⟨#[47]⟩)) (t 22), none⟩, ⟨(some 24), bin .add (t 19) (t 23), none⟩, ⟨(some 3), mv (t 24), none⟩]) (skip))) (seq (reg [⟨(some 25), mv (t 3), none⟩, ⟨(some 2), mv (t 25), none⟩]) (ret))))))
def r_spec_FractionText : List ARes := [.tmp 2]
theorem k_spec_FractionText : acLin Go.Proofs.Tryd.prog 99 1 (inQ [71, 97, 122] []) [] = some (c_spec_FractionText, r_spec_FractionText) := by kernel_rfl
def c_impl_wordOf : AC := seq (reg [⟨(some 2), mv (c (.str ⟨#[]⟩)), none⟩, ⟨(some 3), mv (c (.int .i64 0)), none⟩]) (seq (seq (reg [⟨(some 4), mv (t 0), none⟩]) (block 0 (seq (reg [⟨(some 6), bin .eql (t 4) (c (.int .i64 1)), none⟩, ⟨(some 5), mv (t 6), none⟩]) (cond (t 5) (seq (reg [⟨(some 2), mv (c (.str ⟨#[103, 105, 118, 101]⟩)), none⟩, ⟨(some 3), mv (c (.int .i64 2)), none⟩]) (ret)) (seq (reg [⟨(some 8), bin .eql (t 4) (c (.int .i64 2)), none⟩, ⟨(some 7), mv (t 8), none⟩]) (cond (t 7) (seq (reg [⟨(some 2), mv (c (.str ⟨#[119, 111, 114, 107]⟩)), none⟩, ⟨(some 3), mv (c (.int .i64 1)), none⟩]) (ret)) (seq (reg [⟨(some 10), bin .eql (t 4) (c (.int .i64 3)), none⟩, ⟨(some 9), mv (t 10), none⟩]) (cond (t 9) (seq (reg [⟨(some 2), mv (c (.str ⟨#[100, 101, 108, 105, 118, 101, 114]⟩)), none⟩, ⟨(some 3), mv (c (.int .i64 1)), none⟩]) (ret)) (seq (reg [⟨(some 12), bin .eql (t 4) (c (.int .i64 4)), none⟩, ⟨(some 11), mv (t 12), none⟩]) (cond (t 11) (seq (reg [⟨(some 2), mv (c (.str ⟨#[99, 111, 112, 121]⟩)), none⟩, ⟨(some 3), mv (c (.int .i64 1)), none⟩]) (ret)) (seq (reg [⟨(some 14), bin .eql (t 4) (c (.int .i64 5)), none⟩, ⟨(some 13), mv (t 14), none⟩]) (cond (t 13) (seq (reg [⟨(some 2), mv (c (.str ⟨#[100, 114, 111, 112]⟩)), none⟩, ⟨(some 3), mv (c (.int .i64 1)), none⟩]) (ret)) (seq (reg [⟨(some 16), bin .eql (t 4) (c (.int .i64 6)), none⟩, ⟨(some 15), mv (t 16), none⟩]) (cond (t 15) (seq (reg [⟨(some 2), mv (c (.str ⟨#[115, 97, 118, 101]⟩)), none⟩, ⟨(some 3), mv (c (.int .i64 0)), none⟩]) (ret)) (seq (reg [⟨(some 18), bin .eql (t 4) (c (.int .i64 7)), none⟩, ⟨(some 17), mv (t 18), none⟩]) (cond (t 17) (seq (reg [⟨(some 2), mv (c (.str ⟨#[99, 114, 97, 115, 104]⟩)), none⟩, ⟨(some 3), mv (c (.int .i64 0)), none⟩]) (ret)) (skip))))))))))))))))) (seq (reg [⟨(some 2), mv (c (.str ⟨#[]⟩)), none⟩, ⟨(some 3), mv (c (.int .i64 0)), none⟩]) (ret)))
def r_impl_wordOf : List ARes := [.tmp 2, .tmp 3]
theorem k_impl_wordOf : acLin Go.Proofs.Tryd.prog 54 1 (inQ [] []) [] = some (c_impl_wordOf, r_impl_wordOf) := by kernel_rfl
def c_spec_l08Words : AC := seq (reg [⟨(some 0), mv (c (.sl [] true)), none⟩, ⟨(some 1), mv (c (.sl [] true)), none⟩]) (seq (reg [⟨(some 2), bsl 1 8 [.str ⟨#[]⟩] [(0, c (.str ⟨#[]⟩)), (1, c (.str ⟨#[103, 105, 118, 101]⟩)), (2, c (.str ⟨#[119, 111, 114, 107]⟩)), (3, c (.str ⟨#[100, 101, 108, 105, 118, 101, 114]⟩)), (4, c (.str ⟨#[99, 111, 112, 121]⟩)), (5, c (.str ⟨#[100, 114, 111, 112]⟩)), (6, c (.str ⟨#[115, 97, 118, 101]⟩)), (7, c (.str ⟨#[99, 114, 97, 115, 104]⟩))], none⟩, ⟨(some 3), bsl 1 8 [.int .i64 0] [(0, c (.int .i64 0)), (1, c (.int .i64 2)), (2, c (.int .i64 1)), (3, c (.int .i64 1)), (4, c (.int .i64 1)), (5, c (.int .i64 1)), (6, c (.int .i64 0)), (7, c (.int .i64 0))], none⟩, ⟨(some 0), mv (t 2), none⟩, ⟨(some 1), mv (t 3), none⟩]) (ret))
def r_spec_l08Words : List ARes := [.tmp 0, .tmp 1]
theorem k_spec_l08Words : acLin Go.Proofs.Tryd.prog 49 0 (inQ [] []) [] = some (c_spec_l08Words, r_spec_l08Words) := by kernel_rfl
def c_spec_l08Deed : AC := seq (reg [⟨(some 1), box 3 (t 0), none⟩, ⟨(some 2), mv (c (.bool false)), none⟩]) (seq (seq (reg [⟨(some 5), fad (t 1) 0, none⟩, ⟨(some 6), ld (t 5) 1 false, none⟩, ⟨(some 7), callq (c (.fn 108 [])) [t 6, c (.int .i64 1), c (.int .i64 7)], none⟩, ⟨(some 8), un .not (t 7), none⟩, ⟨(some 9), mv (t 8), none⟩, ⟨(some 10), fad (t 1) 1, some (9, false)⟩, ⟨(some 11), ld (t 10) 1 false, some (9, false)⟩, ⟨(some 12), callq (c (.fn 108 [])) [t 11, c (.int .i64 0), c (.int .i64 999)], some (9, false)⟩, ⟨(some 13), un .not (t 12), some (9, false)⟩, ⟨(some 14), pick (t 9) (c (.bool true)) (t 13), none⟩, ⟨(some 15), mv (t 14), none⟩, ⟨(some 16), fad (t 1) 2, some (15, false)⟩, ⟨(some 17), ld (t 16) 1 false, some (15, false)⟩, ⟨(some 18), callq (c (.fn 108 [])) [t 17, c (.int .i64 0), c (.int .i64 999)], some (15, false)⟩, ⟨(some 19), un .not (t 18), some (15, false)⟩, ⟨(some 20), pick (t 15) (c (.bool true)) (t 19), none⟩]) (cond (t 20) (seq (reg [⟨(some 2), mv (c (.bool false)), none⟩]) (ret)) (skip))) (seq (reg [⟨(some 22), calle (c (.fn 49 [])) [] [], none⟩, ⟨(some 21), mv (t 22), none⟩, ⟨(some 23), ext (t 21) 0, none⟩, ⟨(some 24), ext (t 21) 1, none⟩, ⟨(some 3), mv (t 23), none⟩, ⟨(some 4), mv (t 24), none⟩]) (seq (reg [⟨(some 25), mv (t 4), none⟩, ⟨(some 26), fad (t 1) 0, none⟩, ⟨(some 27), ld (t 26) 1 false, none⟩, ⟨(some 28), iad 1 (t 25) (t 27), none⟩, ⟨(some 29), ld (t 28) 1 false, none⟩, ⟨(some 30), bin .gtr (t 29) (c (.int .i64 0)), none⟩, ⟨(some 31), mv (t 30), none⟩, ⟨(some 32), fad (t 1) 1, some (31, false)⟩, ⟨(some 33), ld (t 32) 1 false, some (31, false)⟩, ⟨(some 34), bin .eql (t 33) (c (.int .i64 0)), some (31, false)⟩, ⟨(some 35), pick (t 31) (c (.bool true)) (t 34), none⟩, ⟨(some 36), mv (t 35), none⟩, ⟨(some 37), mv (t 4), some (36, true)⟩, ⟨(some 38), fad (t 1) 0, some (36, true)⟩, ⟨(some 39), ld (t 38) 1 false, some (36, true)⟩, ⟨(some 40), iad 1 (t 37) (t 39), some (36, true)⟩, ⟨(some 41), ld (t 40) 1 false, some (36, true)⟩, ⟨(some 42), bin .gtr (t 41) (c (.int .i64 1)), some (36, true)⟩, ⟨(some 43), mv (t 42), some (36, true)⟩, ⟨(some 44), fad (t 1) 2, some (43, false)⟩, ⟨(some 45), ld (t 44) 1 false, some (43, false)⟩, ⟨(some 46), bin .eql (t 45) (c (.int .i64 0)), some (43, false)⟩, ⟨(some 47), pick (t 43) (c (.bool true)) (t 46), some (36, true)⟩, ⟨(some 48), pick (t 36) (t 47) (c (.bool false)), none⟩, ⟨(some 2), mv (t 48), none⟩]) (ret))))
def r_spec_l08Deed : List ARes := [.tmp 2]
theorem k_spec_l08Deed : acLin Go.Proofs.Tryd.prog 51 1 (inQ [108] [49]) [] = some (c_spec_l08Deed, r_spec_l08Deed) := by kernel_rfl
def c_impl_ValidDeed : AC := seq (reg [⟨(some 1), box 3 (t 0), none⟩, ⟨(some 2), mv (c (.bool false)), none⟩]) (seq (reg [⟨(some 6), fad (t 1) 0, none⟩, ⟨(some 7), ld (t 6) 1 false, none⟩, ⟨(some 8), callq (c (.fn 54 [])) [t 7], none⟩, ⟨(some 5), mv (t 8), none⟩, ⟨(some 9), ext (t 5) 0, none⟩, ⟨(some 10), ext (t 5) 1, none⟩, ⟨(some 3), mv (t 9), none⟩, ⟨(some 4), mv (t 10), none⟩]) (seq (reg [⟨(some 11), mv (t 3), none⟩, ⟨(some 12), bin .neq (t 11) (c (.str ⟨#[]⟩)), none⟩, ⟨(some 13), mv (t 12), none⟩, ⟨(some 14), fad (t 1) 1, some (13, true)⟩, ⟨(some 15), ld (t 14) 1 false, some (13, true)⟩, ⟨(some 16), callq (c (.fn 62 [])) [t 15, c (.int .i64 0), c (.int .i64 999)], some (13, true)⟩, ⟨(some 17), pick (t 13) (t 16) (c (.bool false)), none⟩, ⟨(some 18), mv (t 17), none⟩, ⟨(some 19), fad (t 1) 2, some (18, true)⟩, ⟨(some 20), ld (t 19) 1 false, some (18, true)⟩, ⟨(some 21), callq (c (.fn 62 [])) [t 20, c (.int .i64 0), c (.int .i64 999)], some (18, true)⟩, ⟨(some 22), pick (t 18) (t 21) (c (.bool false)), none⟩, ⟨(some 23), mv (t 22), none⟩, ⟨(some 24), mv (t 4), some (23, true)⟩, ⟨(some 25), bin .gtr (t 24) (c (.int .i64 0)), some (23, true)⟩, ⟨(some 26), mv (t 25), some (23, true)⟩, ⟨(some 27), fad (t 1) 1, some (26, false)⟩, ⟨(some 28), ld (t 27) 1 false, some (26, false)⟩, ⟨(some 29), bin .eql (t 28) (c (.int .i64 0)), some (26, false)⟩, ⟨(some 30), pick (t 26) (c (.bool true)) (t 29), some (23, true)⟩, ⟨(some 31), pick (t 23) (t 30) (c (.bool false)), none⟩, ⟨(some 32), mv (t 31), none⟩, ⟨(some 33), mv (t 4), some (32, true)⟩, ⟨(some 34), bin .gtr (t 33) (c (.int .i64 1)), some (32, true)⟩, ⟨(some 35), mv (t 34), some (32, true)⟩, ⟨(some 36), fad (t 1) 2, some (35, false)⟩, ⟨(some 37), ld (t 36) 1 false, some (35, false)⟩, ⟨(some 38), bin .eql (t 37) (c (.int .i64 0)), some (35, false)⟩, ⟨(some 39), pick (t 35) (c (.bool true)) (t 38), some (32, true)⟩, ⟨(some 40), pick (t 32) (t 39) (c (.bool false)), none⟩, ⟨(some 2), mv (t 40), none⟩]) (ret)))
def r_impl_ValidDeed : List ARes := [.tmp 2]
theorem k_impl_ValidDeed : acLin Go.Proofs.Tryd.prog 55 1 (inQ [54, 62] []) [] = some (c_impl_ValidDeed, r_impl_ValidDeed) := by kernel_rfl
def c_impl_DeedText : AC := seq (reg [⟨(some 1), box 3 (t 0), none⟩, ⟨(some 2), mv (c (.str ⟨#[]⟩)), none⟩]) (seq (seq (reg [⟨(some 7), ld (t 1) 3 true, none⟩, ⟨(some 8), callq (c (.fn 55 [])) [t 7], none⟩, ⟨(some 9), un .not (t 8), none⟩]) (cond (t 9) (seq (reg [⟨(some 2), mv (c (.str ⟨#[]⟩)), none⟩]) (ret)) (skip))) (seq (reg [⟨(some 11), fad (t 1) 0, none⟩, ⟨(some 12), ld (t 11) 1 false, none⟩, ⟨(some 13), callq (c (.fn 54 [])) [t 12], none⟩, ⟨(some 10), mv (t 13), none⟩, ⟨(some 14), ext (t 10) 0, none⟩, ⟨(some 15), ext (t 10) 1, none⟩, ⟨(some 3), mv (t 14), none⟩, ⟨(some 4), mv (t 15), none⟩]) (seq (seq (reg [⟨(some 16), fad (t 1) 1, none⟩, ⟨(some 17), ld (t 16) 1 false, none⟩, ⟨(some 18), fad (t 1) 2, none⟩, ⟨(some 19), ld (t 18) 1 false, none⟩, ⟨(some 20), bsl 1 2 [.int .i64 0] [(0, t 17), (1, t 19)], none⟩, ⟨(some 21), mv (t 4), none⟩, ⟨(some 22), sli 1 (t 20) none (some (t 21)) none, none⟩, ⟨(some 23), len (t 22), none⟩, ⟨(some 24), mv (c (.int .i64 0)), none⟩]) (block 0 (loop (seq (reg [⟨(some 25), bin .lss (t 24) (t 23), none⟩]) (seq (cond (t 25) (skip) (exit 0)) (seq (block 1 (seq (reg [⟨(some 26), iad 1 (t 22) (t 24), none⟩, ⟨(some 27), ld (t 26) 1 false, none⟩, ⟨(some 6), mv (t 27), none⟩]) (reg [⟨(some 28), mv (t 3), none⟩, ⟨(some 29), mv (t 6), none⟩, ⟨(some 30), callq (c (.fn 106 [])) [t 29], none⟩, ⟨(some 31), bin .add (c (.str ⟨#[32]⟩)) (t 30), none⟩, ⟨(some 32), bin .add (t 28) (t 31), none⟩, ⟨(some 3), mv (t 32), none⟩]))) (reg [⟨(some 33), bin .add (t 24) (c (.int .i64 1)), none⟩, ⟨(some 24), mv (t 33), none⟩]))))))) (seq (reg [⟨(some 34), mv (t 3), none⟩, ⟨(some 2), mv (t 34), none⟩]) (ret)))))
def r_impl_DeedText : List ARes := [.tmp 2]
theorem k_impl_DeedText : acLin Go.Proofs.Tryd.prog 56 1 (inQ [54, 55, 106] []) [] = some (c_impl_DeedText, r_impl_DeedText) := by kernel_rfl
def c_impl_Graph_edges : AC := seq (reg [⟨(some 1), box 2 (t 0), none⟩, ⟨(some 2), mv (c (.sl [] true)), none⟩]) (seq (reg [⟨(some 6), bsl 2 0 [.int .i64 0, .int .i64 0] [], none⟩, ⟨(some 3), mv (t 6), none⟩]) (seq (seq (reg [⟨(some 7), fad (t 1) 0, none⟩, ⟨(some 8), ld (t 7) 1 false, none⟩, ⟨(some 9), mv (c (.int .i64 0)), none⟩]) (block 0 (loop (seq (reg [⟨(some 10), bin .lss (t 9) (t 8), none⟩]) (seq (cond (t 10) (skip) (exit 0)) (seq (block 1 (seq (reg [⟨(some 11), mv (t 9), none⟩, ⟨(some 4), mv (t 11), none⟩]) (seq (reg [⟨(some 12), mv (t 4), none⟩, ⟨(some 13), mv (c (.int .i64 0)), none⟩]) (block 2 (loop (seq (reg [⟨(some 14), bin .lss (t 13) (t 12), none⟩]) (seq (cond (t 14) (skip) (exit 2)) (seq (block 3 (seq (reg [⟨(some 15), mv (t 13), none⟩, ⟨(some 5), mv (t 15), none⟩]) (seq (reg [⟨(some 16), ld (t 1) 2 true, none⟩, ⟨(some 17), mv (t 5), none⟩, ⟨(some 18), mv (t 4), none⟩, ⟨(some 19), callq (c (.fn 91 [])) [t 16, t 17, t 18], none⟩]) (cond (t 19) (reg [⟨(some 20), mv (t 3), none⟩, ⟨(some 21), mv (t 5), none⟩, ⟨(some 22), mv (t 4), none⟩, ⟨(some 23), bld [.int .i64 0, .int .i64 0] [(0, 1, t 21), (1, 1, t 22)], none⟩, ⟨(some 24), bsl 2 1 [.int .i64 0, .int .i64 0] [(0, t 23)], none⟩, ⟨(some 25), app 2 16 (t 20) (t 24), none⟩, ⟨(some 3), mv (t 25), none⟩]) (skip))))) (reg [⟨(some 26), bin .add (t 13) (c (.int .i64 1)), none⟩, ⟨(some 13), mv (t 26), none⟩]))))))))) (reg [⟨(some 27), bin .add (t 9) (c (.int .i64 1)), none⟩, ⟨(some 9), mv (t 27), none⟩]))))))) (seq (reg [⟨(some 28), mv (t 3), none⟩, ⟨(some 2), mv (t 28), none⟩]) (ret))))
def r_impl_Graph_edges : List ARes := [.tmp 2]
theorem k_impl_Graph_edges : acLin Go.Proofs.Tryd.prog 81 1 (inQ [91] []) [] = some (c_impl_Graph_edges, r_impl_Graph_edges) := by kernel_rfl
def c_spec_l01Pairs : AC := seq (reg [⟨(some 1), box 2 (t 0), none⟩, ⟨(some 2), mv (c (.sl [] true)), none⟩]) (seq (reg [⟨(some 6), bsl 2 0 [.int .i64 0, .int .i64 0] [], none⟩, ⟨(some 3), mv (t 6), none⟩]) (seq (seq (reg [⟨(some 4), mv (c (.int .i64 1)), none⟩]) (block 0 (loop (seq (seq (reg [⟨(some 7), mv (t 4), none⟩, ⟨(some 8), fad (t 1) 0, none⟩, ⟨(some 9), ld (t 8) 1 false, none⟩, ⟨(some 10), bin .lss (t 7) (t 9), none⟩]) (cond (t 10) (skip) (exit 0))) (seq (block 1 (seq (reg [⟨(some 5), mv (c (.int .i64 0)), none⟩]) (block 2 (loop (seq (seq (reg [⟨(some 13), mv (t 5), none⟩, ⟨(some 14), mv (t 4), none⟩, ⟨(some 15), bin .lss (t 13) (t 14), none⟩]) (cond (t 15) (skip) (exit 2))) (seq (block 3 (seq (reg [⟨(some 18), ld (t 1) 2 true, none⟩, ⟨(some 19), mv (t 5), none⟩, ⟨(some 20), mv (t 4), none⟩, ⟨(some 21), callq (c (.fn 155 [])) [t 18, t 19, t 20], none⟩]) (cond (t 21) (reg [⟨(some 22), mv (t 3), none⟩, ⟨(some 23), mv (t 5), none⟩, ⟨(some 24), mv (t 4), none⟩, ⟨(some 25), bld [.int .i64 0, .int .i64 0] [(0, 1, t 23), (1, 1, t 24)], none⟩, ⟨(some 26), bsl 2 1 [.int .i64 0, .int .i64 0] [(0, t 25)], none⟩, ⟨(some 27), app 2 16 (t 22) (t 26), none⟩, ⟨(some 3), mv (t 27), none⟩]) (skip)))) (reg [⟨(some 16), mv (t 5), none⟩, ⟨(some 17), bin .add (t 16) (c (.int .i64 1)), none⟩, ⟨(some 5), mv (t 17), none⟩]))))))) (reg [⟨(some 11), mv (t 4), none⟩, ⟨(some 12), bin .add (t 11) (c (.int .i64 1)), none⟩, ⟨(some 4), mv (t 12), none⟩])))))) (seq (reg [⟨(some 28), mv (t 3), none⟩, ⟨(some 2), mv (t 28), none⟩]) (ret))))
def r_spec_l01Pairs : List ARes := [.tmp 2]
theorem k_spec_l01Pairs : acLin Go.Proofs.Tryd.prog 133 1 (inQ [155] []) [] = some (c_spec_l01Pairs, r_spec_l01Pairs) := by kernel_rfl
def c_impl_Graph_text : AC := seq (reg [⟨(some 1), box 2 (t 0), none⟩, ⟨(some 2), mv (c (.str ⟨#[]⟩)), none⟩]) (seq (reg [⟨(some 6), fad (t 1) 0, none⟩, ⟨(some 7), ld (t 6) 1 false, none⟩, ⟨(some 8), callq (c (.fn 106 [])) [t 7], none⟩, ⟨(some 9), bin .add (c (.str ⟨#[103, 114, 97, 112, 104, 32]⟩)) (t 8), none⟩, ⟨(some 3), mv (t 9), none⟩]) (seq (seq (reg [⟨(some 10), ld (t 1) 2 true, none⟩, ⟨(some 11), calle (c (.fn 81 [])) [t 10] [], none⟩, ⟨(some 12), len (t 11), none⟩, ⟨(some 13), mv (c (.int .i64 0)), none⟩]) (block 0 (loop (seq (reg [⟨(some 14), bin .lss (t 13) (t 12), none⟩]) (seq (cond (t 14) (skip) (exit 0)) (seq (block 1 (seq (reg [⟨(some 15), iad 2 (t 11) (t 13), none⟩, ⟨(some 16), ld (t 15) 2 true, none⟩, ⟨(some 5), alloc [.int .i64 0, .int .i64 0], none⟩, ⟨none, st (t 5) 2 (t 16), none⟩]) (reg [⟨(some 17), mv (t 3), none⟩, ⟨(some 18), fad (t 5) 0, none⟩, ⟨(some 19), ld (t 18) 1 false, none⟩, ⟨(some 20), callq (c (.fn 106 [])) [t 19], none⟩, ⟨(some 21), bin .add (c (.str ⟨#[32]⟩)) (t 20), none⟩, ⟨(some 22), bin .add (t 21) (c (.str ⟨#[45]⟩)), none⟩, ⟨(some 23), fad (t 5) 1, none⟩, ⟨(some 24), ld (t 23) 1 false, none⟩, ⟨(some 25), callq (c (.fn 106 [])) [t 24], none⟩, ⟨(some 26), bin .add (t 22) (t 25), none⟩, ⟨(some 27), bin .add (t 17) (t 26), none⟩, ⟨(some 3), mv (t 27), none⟩]))) (reg [⟨(some 28), bin .add (t 13) (c (.int .i64 1)), none⟩, ⟨(some 13), mv (t 28), none⟩]))))))) (seq (reg [⟨(some 29), mv (t 3), none⟩, ⟨(some 2), mv (t 29), none⟩]) (ret))))
def r_impl_Graph_text : List ARes := [.tmp 2]
theorem k_impl_Graph_text : acLin Go.Proofs.Tryd.prog 88 1 (inQ [106] [81]) [⟨false, none, [], [], none⟩, ⟨false, none, [], [], none⟩, ⟨false, none, [], [], none⟩, ⟨false, none, [], [], none⟩, ⟨false, none, [], [], none⟩, ⟨false, none, [], [], none⟩, ⟨false, some [0, 1, 2, 3, 4, 5, 6, 7, 8, 9, 10, 11], [], [], none⟩] = some (c_impl_Graph_text, r_impl_Graph_text) := by kernel_rfl
def c_impl_GraphText : AC := seq (reg [⟨(some 1), box 2 (t 0), none⟩, ⟨(some 2), mv (c (.str ⟨#[]⟩)), none⟩]) (seq (seq (reg [⟨(some 3), ld (t 1) 2 true, none⟩, ⟨(some 4), callq (c (.fn 36 [])) [t 3], none⟩, ⟨(some 5), un .not (t 4), none⟩]) (cond (t 5) (seq (reg [⟨(some 2), mv (c (.str ⟨#[]⟩)), none⟩]) (ret)) (skip))) (seq (reg [⟨(some 6), ld (t 1) 2 true, none⟩, ⟨(some 7), callq (c (.fn 88 [])) [t 6], none⟩, ⟨(some 2), mv (t 7), none⟩]) (ret)))
def r_impl_GraphText : List ARes := [.tmp 2]
theorem k_impl_GraphText : acLin Go.Proofs.Tryd.prog 33 1 (inQ [36, 88] []) [] = some (c_impl_GraphText, r_impl_GraphText) := by kernel_rfl
def c_spec_GraphText : AC := seq (reg [⟨(some 1), box 2 (t 0), none⟩, ⟨(some 2), mv (c (.str ⟨#[]⟩)), none⟩]) (seq (seq (reg [⟨(some 6), ld (t 1) 2 true, none⟩, ⟨(some 7), callq (c (.fn 92 [])) [t 6], none⟩, ⟨(some 8), un .not (t 7), none⟩]) (cond (t 8) (seq (reg [⟨(some 2), mv (c (.str ⟨#[]⟩)), none⟩]) (ret)) (skip))) (seq (reg [⟨(some 9), fad (t 1) 0, none⟩, ⟨(some 10), ld (t 9) 1 false, none⟩, ⟨(some 11), callq (c (.fn 97 [])) [t 10], none⟩, ⟨(some 12), bin .add (c (.str ⟨#[103, 114, 97, 112, 104, 32]⟩)) (t 11), none⟩, ⟨(some 3), mv (t 12), none⟩]) (seq (reg [⟨(some 13), ld (t 1) 2 true, none⟩, ⟨(some 14), calle (c (.fn 133 [])) [t 13] [], none⟩, ⟨(some 4), mv (t 14), none⟩]) (seq (seq (reg [⟨(some 5), mv (c (.int .i64 0)), none⟩]) (block 0 (loop (seq (seq (reg [⟨(some 15), mv (t 5), none⟩, ⟨(some 16), mv (t 4), none⟩, ⟨(some 17), len (t 16), none⟩, ⟨(some 18), bin .lss (t 15) (t 17), none⟩]) (cond (t 18) (skip) (exit 0))) (seq (block 1 (reg [⟨(some 21), mv (t 3), none⟩, ⟨(some 22), mv (t 4), none⟩, ⟨(some 23), mv (t 5), none⟩, ⟨(some 24), iad 2 (t 22) (t 23), none⟩, ⟨(some 25), fad (t 24) 0, none⟩, ⟨(some 26), ld (t 25) 1 false, none⟩, ⟨(some 27), callq (c (.fn 97 [])) [t 26], none⟩, ⟨(some 28), bin .add (c (.str ⟨#[32]⟩)) (t 27), none⟩, ⟨(some 29), bin .add (t 28) (c (.str ⟨#[45]⟩)), none⟩, ⟨(some 30), mv (t 4), none⟩, ⟨(some 31), mv (t 5), none⟩, ⟨(some 32), iad 2 (t 30) (t 31), none⟩, ⟨(some 33), fad (t 32) 1, none⟩, ⟨(some 34), ld (t 33) 1 false, none⟩, ⟨(some 35), callq (c (.fn 97 [])) [t 34], none⟩, ⟨(some 36), bin .add (t 29) (t 35), none⟩, ⟨(some 37), bin .add (t 21) (t 36), none⟩, ⟨(some 3), mv (t 37), none⟩])) (reg [⟨(some 19), mv (t 5), none⟩, ⟨(some 20), bin .add (t 19) (c (.int .i64 1)), none⟩, ⟨(some 5), mv (t 20), none⟩])))))) (seq (reg [⟨(some 38), mv (t 3), none⟩, ⟨(some 2), mv (t 38), none⟩]) (ret))))))
def r_spec_GraphText : List ARes := [.tmp 2]
theorem k_spec_GraphText : acLin Go.Proofs.Tryd.prog 98 1 (inQ [92, 97] [133]) [⟨false, none, [], [], none⟩, ⟨false, none, [], [], none⟩, ⟨false, none, [], [], none⟩, ⟨false, none, [], [], none⟩, ⟨false, none, [], [], none⟩, ⟨false, none, [], [], none⟩, ⟨false, none, [], [], none⟩, ⟨false, none, [], [], none⟩, ⟨false, none, [], [], none⟩, ⟨false, some [0, 1, 2, 3, 4, 5, 6, 7, 8, 9, 10, 11, 12, 13, 14, 15, 16, 17], [], [], none⟩] = some (c_spec_GraphText, r_spec_GraphText) := by kernel_rfl
def c_spec_l03Ok : AC := seq (reg [⟨(some 1), box 3 (t 0), none⟩, ⟨(some 2), mv (c (.bool false)), none⟩]) (seq (reg [⟨(some 3), fad (t 1) 1, none⟩, ⟨(some 4), ld (t 3) 2 true, none⟩, ⟨(some 5), callq (c (.fn 92 [])) [t 4], none⟩, ⟨(some 6), mv (t 5), none⟩, ⟨(some 7), fad (t 1) 0, some (6, true)⟩, ⟨(some 8), ld (t 7) 1 false, some (6, true)⟩, ⟨(some 9), callq (c (.fn 108 [])) [t 8, c (.int .i64 0), c (.int .i64 3)], some (6, true)⟩, ⟨(some 10), pick (t 6) (t 9) (c (.bool false)), none⟩, ⟨(some 11), mv (t 10), none⟩, ⟨(some 12), fad (t 1) 0, some (11, true)⟩, ⟨(some 13), ld (t 12) 1 false, some (11, true)⟩, ⟨(some 14), fad (t 1) 1, some (11, true)⟩, ⟨(some 15), fad (t 14) 0, some (11, true)⟩, ⟨(some 16), ld (t 15) 1 false, some (11, true)⟩, ⟨(some 17), bin .leq (t 13) (t 16), some (11, true)⟩, ⟨(some 18), pick (t 11) (t 17) (c (.bool false)), none⟩, ⟨(some 2), mv (t 18), none⟩]) (ret))
def r_spec_l03Ok : List ARes := [.tmp 2]
theorem k_spec_l03Ok : acLin Go.Proofs.Tryd.prog 94 1 (inQ [92, 108] []) [] = some (c_spec_l03Ok, r_spec_l03Ok) := by kernel_rfl
def c_impl_ValidFlag : AC := seq (reg [⟨(some 1), box 3 (t 0), none⟩, ⟨(some 2), mv (c (.bool false)), none⟩]) (seq (reg [⟨(some 3), fad (t 1) 1, none⟩, ⟨(some 4), ld (t 3) 2 true, none⟩, ⟨(some 5), callq (c (.fn 36 [])) [t 4], none⟩, ⟨(some 6), mv (t 5), none⟩, ⟨(some 7), fad (t 1) 0, some (6, true)⟩, ⟨(some 8), ld (t 7) 1 false, some (6, true)⟩, ⟨(some 9), callq (c (.fn 62 [])) [t 8, c (.int .i64 0), c (.int .i64 3)], some (6, true)⟩, ⟨(some 10), pick (t 6) (t 9) (c (.bool false)), none⟩, ⟨(some 11), mv (t 10), none⟩, ⟨(some 12), fad (t 1) 0, some (11, true)⟩, ⟨(some 13), ld (t 12) 1 false, some (11, true)⟩, ⟨(some 14), fad (t 1) 1, some (11, true)⟩, ⟨(some 15), fad (t 14) 0, some (11, true)⟩, ⟨(some 16), ld (t 15) 1 false, some (11, true)⟩, ⟨(some 17), bin .leq (t 13) (t 16), some (11, true)⟩, ⟨(some 18), pick (t 11) (t 17) (c (.bool false)), none⟩, ⟨(some 2), mv (t 18), none⟩]) (ret))
def r_impl_ValidFlag : List ARes := [.tmp 2]
theorem k_impl_ValidFlag : acLin Go.Proofs.Tryd.prog 102 1 (inQ [36, 62] []) [] = some (c_impl_ValidFlag, r_impl_ValidFlag) := by kernel_rfl
def c_laws_toFlag : AC := seq (reg [⟨(some 1), box 3 (t 0), none⟩, ⟨(some 2), alloc [.int .i64 0, .int .i64 0, .int .u32 0], none⟩]) (seq (reg [⟨(some 3), alloc [.int .i64 0, .int .i64 0, .int .u32 0], none⟩]) (seq (reg [⟨(some 4), fad (t 1) 0, none⟩, ⟨(some 5), ld (t 4) 1 false, none⟩, ⟨(some 6), fad (t 3) 0, none⟩, ⟨none, st (t 6) 1 (t 5), none⟩]) (seq (reg [⟨(some 7), fad (t 1) 1, none⟩, ⟨(some 8), ld (t 7) 2 true, none⟩, ⟨(some 9), callq (c (.fn 42 [])) [t 8], none⟩, ⟨(some 10), fad (t 3) 1, none⟩, ⟨none, st (t 10) 2 (t 9), none⟩]) (seq (reg [⟨(some 11), ld (t 3) 3 true, none⟩, ⟨none, st (t 2) 3 (t 11), none⟩]) (ret)))))
def r_laws_toFlag : List ARes := [.cell 2 3 true]
theorem k_laws_toFlag : acLin Go.Proofs.Tryd.prog 134 1 (inQ [42] []) [] = some (c_laws_toFlag, r_laws_toFlag) := by kernel_rfl
end Go.Proofs.YtgophedkejgedaaDoorAi
end

section
/- Contracts: numerals, texts of fractions. -/
namespace Go.Proofs.YtgophedkejgedaaDoorAi
open Go Go.RowKit
set_option linter.unusedVariables false
set_option linter.unusedSimpArgs false
set_option maxRecDepth 20000

@[simp] theorem ba_size (a : Array UInt8) : (ByteArray.mk a).size = a.size := rfl
/-- The numeral of a number. -/
def decB (n : Int) : ByteArray := ⟨(Go.Lib.itoa n).toArray⟩
theorem decB_small {n : Int} (h0 : 0 ≤ n) (h1 : n < 10) : decB n = ⟨[UInt8.ofNat (48 + n.toNat)].toArray⟩ := by
  unfold decB Go.Lib.itoa
  rw [if_neg (by omega), Go.Lib.decDigits, dif_pos (by omega)]
theorem decB_step {n : Int} (h : 10 ≤ n) : decB n = decB (n.tdiv 10) ++ ⟨[UInt8.ofNat (48 + (n.tmod 10).toNat)].toArray⟩ := by
  have e1 : (n.tdiv 10).toNat = n.toNat / 10 := by
    rw [Int.tdiv_eq_ediv_of_nonneg (by omega)]; omega
  have e2 : (n.tmod 10).toNat = n.toNat % 10 := by
    rw [Int.tmod_eq_emod_of_nonneg (by omega)]; omega
  unfold decB Go.Lib.itoa
  rw [if_neg (by omega), if_neg (by rw [Int.tdiv_eq_ediv_of_nonneg (by omega)]; omega), e1, e2, Go.Lib.decDigits, dif_neg (by omega)]
  apply ByteArray.ext
  simp
theorem decB_neg {n : Int} (h : n < 0) : decB n = ⟨[45].toArray⟩ ++ decB (n.natAbs : Int) := by
  unfold decB Go.Lib.itoa
  rw [if_pos h, if_neg (by omega)]
  apply ByteArray.ext
  simp
theorem nDig_le : ∀ (k u : Nat), u < 10 ^ (k + 1) → Go.Lib.nDigits u ≤ k + 1
  | 0, u, h => by rw [Go.Lib.nDigits_small (by simpa using h)]; omega
  | k + 1, u, h => by
    by_cases hu : u < 10
    · rw [Go.Lib.nDigits_small hu]; omega
    · rw [Go.Lib.nDigits_big hu]
      have := nDig_le k (u / 10) (by rw [Nat.pow_succ] at h; omega)
      omega
theorem decB_size (n : Int) (h0 : -9223372036854775808 ≤ n) (h1 : n ≤ 9223372036854775807) : (decB n).size ≤ 21 := by
  have hl : (Go.Lib.itoa n).length ≤ 21 := by
    unfold Go.Lib.itoa
    split
    · have := nDig_le 19 n.natAbs (by omega)
      rw [List.length_cons, Go.Lib.decDigits_length]; omega
    · have := nDig_le 19 n.toNat (by omega)
      rw [Go.Lib.decDigits_length]; omega
  unfold decB
  simpa [ByteArray.size] using hl

noncomputable def sp_decK (k : Nat) : List AV → Option AV := pf (ι := Int) (α := AV) (fun n => 0 ≤ n ∧ n < 10 ^ k ∧ n ≤ 9223372036854775807) (fun n => [.int .i64 n]) (fun n => .str (decB n))
theorem sp_decK_eq (k : Nat) (n : Int) (h : 0 ≤ n ∧ n < 10 ^ k ∧ n ≤ 9223372036854775807) : sp_decK k [.int .i64 n] = some (.str (decB n)) := by
  unfold sp_decK
  exact pf_eq (ι := Int) (α := AV) n h (by rintro n' _ e; simp_all)
theorem wrap_dig {d : Int} (h0 : 0 ≤ d) (h1 : d < 10) : IntKind.wrap .u8 (48 + d) = 48 + d := by
  simp [IntKind.wrap, IntKind.signed, IntKind.bits]; omega
theorem wrap_dig' {d : Int} (h0 : 0 ≤ d) (h1 : d < 10) : IntKind.wrap .i64 (48 + d) = 48 + d := by
  simp [IntKind.wrap, IntKind.signed, IntKind.bits]; omega
theorem q_decK : ∀ k, QP PP 97 (sp_decK k) := by
  intro k
  induction k with
  | zero =>
    refine QP_pf (fun n h => ?_) fun n h => ?_
    · exact ⟨by first | rfl | simp, by first | rfl | simp⟩
    replace h : 0 ≤ n ∧ n < 10 ^ 0 ∧ n ≤ 9223372036854775807 := h
    obtain rfl : n = 0 := by omega
    refine P_code Quiet.nil hmix k_spec_Decimal rfl ?_ ?_
    · first | rfl | simp
    show wpc 0 PP _ c_spec_Decimal (initSt [.int .i64 0] .nil) (endP r_spec_Decimal (.str (decB 0)))
    have w : IntKind.wrap .u8 48 = 48 := rfl
    have w' : IntKind.wrap .i64 48 = 48 := rfl
    rw [decB_small (by decide) (by decide)]
    simp -dsimp -implicitDefEqProofs [c_spec_Decimal, r_spec_Decimal, w, w']
  | succ k ih =>
    refine QP_pf (fun n h => ?_) fun n h => ?_
    · exact ⟨by first | rfl | simp, by first | rfl | simp⟩
    replace h : 0 ≤ n ∧ n < 10 ^ (k + 1) ∧ n ≤ 9223372036854775807 := h
    refine P_code (Quiet.q1 ih Quiet.nil) hmix k_spec_Decimal rfl ?_ ?_
    · first | rfl | simp
    show wpc 0 PP _ c_spec_Decimal (initSt [.int .i64 n] .nil) (endP r_spec_Decimal (.str (decB n)))
    by_cases hn : 10 ≤ n
    · have hb : decide (10 ≤ n) = true := decide_eq_true hn
      have em : 0 ≤ n.tmod 10 ∧ n.tmod 10 < 10 := by rw [Int.tmod_eq_emod_of_nonneg (by omega)]; omega
      have ed : 0 ≤ n.tdiv 10 ∧ n.tdiv 10 < 10 ^ k ∧ n.tdiv 10 ≤ 9223372036854775807 := by
        rw [Int.tdiv_eq_ediv_of_nonneg (by omega)]
        have : (10 : Int) ^ (k + 1) = 10 ^ k * 10 := Int.pow_succ ..
        omega
      have w := wrap_dig em.1 em.2
      have w' := wrap_dig' em.1 em.2
      have b1 : 0 ≤ 48 + n.tmod 10 := by omega
      have b2 : 48 + n.tmod 10 < 256 := by omega
      have b3 : (48 + n.tmod 10).toNat = 48 + (n.tmod 10).toNat := by omega
      have hc := sp_decK_eq k _ ed
      have hs := decB_size (n.tdiv 10) (by omega) (by omega)
      have wd : IntKind.wrap .i64 (n.tdiv 10) = n.tdiv 10 := by simp [IntKind.wrap, IntKind.signed, IntKind.bits]; omega
      have wm : IntKind.wrap .i64 (n.tmod 10) = n.tmod 10 := by simp [IntKind.wrap, IntKind.signed, IntKind.bits]; omega
      have hz : (decB (n.tdiv 10)).size + 1 ≤ 9223372036854775807 := by omega
      rw [decB_step hn]
      simp -dsimp -implicitDefEqProofs [c_spec_Decimal, r_spec_Decimal, hb, w, w', b1, b2, b3, hc, wd, wm, hz]
    · have hb : decide (10 ≤ n) = false := decide_eq_false hn
      have w := wrap_dig (d := n) (by omega) (by omega)
      have w' := wrap_dig' (d := n) (by omega) (by omega)
      have b1 : 0 ≤ 48 + n := by omega
      have b2 : 48 + n < 256 := by omega
      have b3 : (48 + n).toNat = 48 + n.toNat := by omega
      rw [decB_small (by omega) (by omega)]
      simp -dsimp -implicitDefEqProofs [c_spec_Decimal, r_spec_Decimal, hb, w, w', b1, b2, b3]
noncomputable def sp_decS : List AV → Option (AV) := pf (ι := (Int)) (α := AV) (fun n => 0 ≤ n ∧ n ≤ 9223372036854775807) (fun n => [.int .i64 n]) (fun n => .str (decB n))
theorem sp_decS_eq (n : Int) (h : 0 ≤ n ∧ n ≤ 9223372036854775807) : sp_decS [.int .i64 n] = some (.str (decB n)) := by
  unfold sp_decS
  exact pf_eq (ι := (Int)) (α := AV) n h (by rintro n' _ e; simp_all [Int.natCast_inj])
theorem q_spec_Decimal : QP PP 97 sp_decS := by
  intro args r e
  obtain ⟨n, h, rfl, rfl⟩ : ∃ n : Int, (0 ≤ n ∧ n ≤ 9223372036854775807) ∧ args = [.int .i64 n] ∧ r = .str (decB n) := by
    unfold sp_decS pf at e
    split at e
    · rename_i hx
      injection e with e
      refine ⟨Classical.choose hx, (Classical.choose_spec hx).1, ?_, e.symm⟩
      first | exact (Classical.choose_spec hx).2 | exact (Classical.choose_spec hx).2.symm
    · cases e
  exact q_decK 19 _ _ (sp_decK_eq 19 n ⟨h.1, by omega, h.2⟩)
end Go.Proofs.YtgophedkejgedaaDoorAi
end

section
/- Contracts: the numeral of the program, texts of fractions. -/
namespace Go.Proofs.YtgophedkejgedaaDoorAi
open Go Go.RowKit
set_option linter.unusedVariables false
set_option linter.unusedSimpArgs false
set_option maxRecDepth 20000

noncomputable def sp_formatI : List AV → Option (AV) := pf (ι := (Int)) (α := AV) (fun n => -9223372036854775808 ≤ n ∧ n ≤ 9223372036854775807) (fun n => [.int .i64 n, .int .i64 10]) (fun n => .str (decB n))
theorem sp_formatI_eq (n : Int) (h : -9223372036854775808 ≤ n ∧ n ≤ 9223372036854775807) : sp_formatI [.int .i64 n, .int .i64 10] = some (.str (decB n)) := by
  unfold sp_formatI
  exact pf_eq (ι := (Int)) (α := AV) n h (by rintro n' _ e; simp_all [Int.natCast_inj])
theorem below_grown' (w : World) (k : Nat) (os : Array Obj) : Below w.heap.size w (Go.Sort.grow (w.drewN k) os) :=
  ⟨rfl, rfl, rfl, by show w.heap.size ≤ (w.heap ++ os).size; rw [Array.size_append]; omega, fun j hj => by show (w.heap ++ os)[j]? = _; rw [Array.getElem?_append_left hj]⟩
theorem q_internal_strconv_FormatInt : QP PP 162 sp_formatI := by
  refine QP_pf (fun n h => ?_) fun n h => ?_
  · exact ⟨by first | rfl | simp, by first | rfl | simp⟩
  replace h : -9223372036854775808 ≤ n ∧ n ≤ 9223372036854775807 := h
  refine T.lib ⟨_, Tryd.func162, by kernel_rfl, by kernel_rfl⟩ (fun σ w vs hr hG => ?_) .nil
  obtain ⟨v1, us, rfl, h1, h2⟩ := hr.head
  obtain ⟨v2, us2, rfl, h3, h4⟩ := h2.head
  obtain rfl : us2 = [] := List.eq_nil_of_length_eq_zero h4.1.symm
  cases h1; cases h3
  refine (Tryd.internal_strconv_FormatInt_10 n h.1 h.2 w (hG.tab (by kernel_rfl))).mono ?_
  rintro e w' ⟨rfl, k, os, rfl⟩
  exact ⟨_, rfl, below_grown' w k os, .str _⟩
theorem q_strconv_FormatInt : QP PP 139 sp_formatI := by
  refine QP_pf (fun n h => ?_) fun n h => ?_
  · exact ⟨by first | rfl | simp, by first | rfl | simp⟩
  replace h : -9223372036854775808 ≤ n ∧ n ≤ 9223372036854775807 := h
  refine P_code (Quiet.q1 q_internal_strconv_FormatInt Quiet.nil) hmix k_strconv_FormatInt rfl ?_ ?_
  · first | rfl | simp
  show wpc 0 PP _ c_strconv_FormatInt (initSt [.int .i64 n, .int .i64 10] .nil) (endP r_strconv_FormatInt (.str (decB n)))
  simp -dsimp -implicitDefEqProofs [c_strconv_FormatInt, r_strconv_FormatInt, sp_formatI_eq n h]
noncomputable def sp_decimal : List AV → Option (AV) := pf (ι := (Int)) (α := AV) (fun n => -9223372036854775808 ≤ n ∧ n ≤ 9223372036854775807) (fun n => [.int .i64 n]) (fun n => .str (decB n))
theorem sp_decimal_eq (n : Int) (h : -9223372036854775808 ≤ n ∧ n ≤ 9223372036854775807) : sp_decimal [.int .i64 n] = some (.str (decB n)) := by
  unfold sp_decimal
  exact pf_eq (ι := (Int)) (α := AV) n h (by rintro n' _ e; simp_all [Int.natCast_inj])
theorem q_impl_decimal : QP PP 106 sp_decimal := by
  refine QP_pf (fun n h => ?_) fun n h => ?_
  · exact ⟨by first | rfl | simp, by first | rfl | simp⟩
  replace h : -9223372036854775808 ≤ n ∧ n ≤ 9223372036854775807 := h
  refine P_code (Quiet.q1 q_strconv_FormatInt Quiet.nil) hmix k_impl_decimal rfl ?_ ?_
  · first | rfl | simp
  show wpc 0 PP _ c_impl_decimal (initSt [.int .i64 n] .nil) (endP r_impl_decimal (.str (decB n)))
  simp -dsimp -implicitDefEqProofs [c_impl_decimal, r_impl_decimal, sp_formatI_eq n h]

def slashB : ByteArray := ⟨#[47]⟩
def minusB : ByteArray := ⟨#[45]⟩
def noB : ByteArray := ⟨#[]⟩
def frT (p q : Int) : ByteArray := if q = 1 then decB p else decB p ++ slashB ++ decB q
noncomputable def sp_frText : List AV → Option (AV) := pf (ι := (Int) × (Int)) (α := AV) (fun ⟨p, q⟩ => (-9223372036854775808 ≤ p ∧ p ≤ 9223372036854775807) ∧ (-9223372036854775808 ≤ q ∧ q ≤ 9223372036854775807)) (fun ⟨p, q⟩ => [.agg [.int .i64 p, .int .i64 q]]) (fun ⟨p, q⟩ => .str (frT p q))
theorem sp_frText_eq (p q : Int) (h : (-9223372036854775808 ≤ p ∧ p ≤ 9223372036854775807) ∧ (-9223372036854775808 ≤ q ∧ q ≤ 9223372036854775807)) : sp_frText [.agg [.int .i64 p, .int .i64 q]] = some (.str (frT p q)) := by
  unfold sp_frText
  exact pf_eq (ι := (Int) × (Int)) (α := AV) (p, q) h (by rintro ⟨p', q'⟩ _ e; simp_all [Int.natCast_inj])
theorem q_impl_Fraction_text : QP PP 61 sp_frText := by
  refine QP_pf (fun i h => ?_) fun i h => ?_
  · obtain ⟨p, q⟩ := i; exact ⟨by first | rfl | simp, by first | rfl | simp⟩
  obtain ⟨p, q⟩ := i
  replace h : (-9223372036854775808 ≤ p ∧ p ≤ 9223372036854775807) ∧ (-9223372036854775808 ≤ q ∧ q ≤ 9223372036854775807) := h
  refine P_code (Quiet.q1 q_impl_decimal Quiet.nil) hmix k_impl_Fraction_text rfl ?_ ?_
  · first | rfl | simp
  show wpc 0 PP _ c_impl_Fraction_text (initSt [.agg [.int .i64 p, .int .i64 q]] .nil) (endP r_impl_Fraction_text (.str (frT p q)))
  have hp := sp_decimal_eq p h.1
  have hq := sp_decimal_eq q h.2
  have sp := decB_size p h.1.1 h.1.2
  have sq := decB_size q h.2.1 h.2.2
  by_cases hone : q = 1
  · subst hone
    simp -dsimp -implicitDefEqProofs [c_impl_Fraction_text, r_impl_Fraction_text, hp, frT]
  · have hb : (q == 1) = false := by simpa using hone
    have s1 : (decB p).size + 1 ≤ 9223372036854775807 := by omega
    have s2 : (decB p).size + 1 + (decB q).size ≤ 9223372036854775807 := by omega
    simp -dsimp -implicitDefEqProofs [c_impl_Fraction_text, r_impl_Fraction_text, hp, hq, hb, s1, s2, frT, hone, slashB]
end Go.Proofs.YtgophedkejgedaaDoorAi
end

section
/- Contracts and law: FractionText. -/
namespace Go.Proofs.YtgophedkejgedaaDoorAi
open Go Go.RowKit
set_option linter.unusedVariables false
set_option linter.unusedSimpArgs false
set_option maxRecDepth 20000

theorem frOk_bd {p q : Int} (h : frOk p q = true) : (-1000000000 ≤ p ∧ p ≤ 1000000000) ∧ (1 ≤ q ∧ q ≤ 1000000000) := by
  unfold frOk at h
  have := of_decide_eq_true h
  exact ⟨this.1, this.2.1⟩
def fracT (p q : Int) : ByteArray := if frOk p q = true then frT p q else noB
noncomputable def sp_fracText : List AV → Option (AV) := pf (ι := (Int) × (Int)) (α := AV) (fun ⟨p, q⟩ => True) (fun ⟨p, q⟩ => [.agg [.int .i64 p, .int .i64 q]]) (fun ⟨p, q⟩ => .str (fracT p q))
theorem sp_fracText_eq (p q : Int) : sp_fracText [.agg [.int .i64 p, .int .i64 q]] = some (.str (fracT p q)) := by
  unfold sp_fracText
  exact pf_eq (ι := (Int) × (Int)) (α := AV) (p, q) trivial (by rintro ⟨p', q'⟩ _ e; simp_all [Int.natCast_inj])
attribute [simp] sp_fracText_eq
theorem q_impl_FractionText : QP PP 18 sp_fracText := by
  refine QP_pf (fun i h => ?_) fun i h => ?_
  · obtain ⟨p, q⟩ := i; exact ⟨by first | rfl | simp, by first | rfl | simp⟩
  obtain ⟨p, q⟩ := i
  replace h : True := h
  refine P_code (Quiet.q1 q_impl_ValidFraction (Quiet.q1 q_impl_Fraction_text Quiet.nil)) hmix k_impl_FractionText rfl ?_ ?_
  · first | rfl | simp
  show wpc 0 PP _ c_impl_FractionText (initSt [.agg [.int .i64 p, .int .i64 q]] .nil) (endP r_impl_FractionText (.str (fracT p q)))
  cases hf : frOk p q with
  | false => simp -dsimp -implicitDefEqProofs [c_impl_FractionText, r_impl_FractionText, hf, fracT, noB]
  | true =>
    have hb := frOk_bd hf
    simp -dsimp -implicitDefEqProofs [c_impl_FractionText, r_impl_FractionText, hf, fracT, sp_frText_eq p q (by omega)]
theorem q_spec_FractionText : QP PP 99 sp_fracText := by
  refine QP_pf (fun i h => ?_) fun i h => ?_
  · obtain ⟨p, q⟩ := i; exact ⟨by first | rfl | simp, by first | rfl | simp⟩
  obtain ⟨p, q⟩ := i
  replace h : True := h
  refine P_code (Quiet.q1 q_spec_l02Ok (Quiet.q1 q_spec_l02Abs (Quiet.q1 q_spec_Decimal Quiet.nil))) hmix k_spec_FractionText rfl ?_ ?_
  · first | rfl | simp
  show wpc 0 PP _ c_spec_FractionText (initSt [.agg [.int .i64 p, .int .i64 q]] .nil) (endP r_spec_FractionText (.str (fracT p q)))
  cases hf : frOk p q with
  | false => simp -dsimp -implicitDefEqProofs [c_spec_FractionText, r_spec_FractionText, hf, fracT, noB]
  | true =>
    have hb := frOk_bd hf
    have ha := sp_size_eq p (by omega)
    have hd := sp_decS_eq p.natAbs (by omega)
    have hd2 := sp_decS_eq q (by omega)
    have s0 := decB_size p.natAbs (by omega) (by omega)
    have s2 := decB_size q (by omega) (by omega)
    have z1 : 1 + (decB p.natAbs).size ≤ 9223372036854775807 := by omega
    have z2 : 1 + (decB q).size ≤ 9223372036854775807 := by omega
    have z3 : (decB p.natAbs).size + (1 + (decB q).size) ≤ 9223372036854775807 := by omega
    have z4 : 1 + (decB p.natAbs).size + (1 + (decB q).size) ≤ 9223372036854775807 := by omega
    by_cases hp : p < 0
    · by_cases hq : q = 1
      · subst hq
        simp -dsimp -implicitDefEqProofs [c_spec_FractionText, r_spec_FractionText, hf, fracT, frT, ha, hd, hp, decB_neg hp, z1]
      · have hqb : (q != 1) = true := by simpa using hq
        simp -dsimp -implicitDefEqProofs [c_spec_FractionText, r_spec_FractionText, hf, fracT, frT, ha, hd, hd2, hp, hq, hqb, decB_neg hp, z1, z2, z4, slashB, ByteArray.append_assoc]
    · have e0 : ((p.natAbs : Nat) : Int) = p := by omega
      rw [e0] at hd s0 z1 z3 z4 ha
      by_cases hq : q = 1
      · subst hq
        simp -dsimp -implicitDefEqProofs [c_spec_FractionText, r_spec_FractionText, hf, fracT, frT, ha, hd, hp, z1]
      · have hqb : (q != 1) = true := by simpa using hq
        simp -dsimp -implicitDefEqProofs [c_spec_FractionText, r_spec_FractionText, hf, fracT, frT, ha, hd, hd2, hp, hq, hqb, z1, z2, z3, slashB, ByteArray.append_assoc]
theorem beq_ba (a : ByteArray) : (a == a) = true := by show (a.data == a.data) = true; simp
theorem bne_ba (a : ByteArray) : (a != a) = false := by unfold bne; rw [beq_ba]; rfl
def tyFraction : Ty := .st [.int .i64, .int .i64]
end Go.Proofs.YtgophedkejgedaaDoorAi
end

section
/- Plain law: numerals are parsed. Contracts: strconv.ParseInt, number. -/
namespace Go.Proofs.YtgophedkejgedaaDoorAi
open Go Go.RowKit
set_option linter.unusedVariables false
set_option linter.unusedSimpArgs false
set_option maxRecDepth 20000

/-! ### numerals -/
theorem dig_toNat {d : Nat} (h : d < 10) : (UInt8.ofNat (48 + d)).toNat = 48 + d := by
  rw [UInt8.toNat_ofNat']; omega
theorem decD_dig (u : Nat) : ∀ c ∈ Go.Lib.decDigits u, 48 ≤ c.toNat ∧ c.toNat ≤ 57 := by
  induction u using Nat.strongRecOn with
  | ind u ih =>
    intro c hc
    rw [Go.Lib.decDigits] at hc
    split at hc
    · obtain rfl := List.mem_singleton.1 hc
      rw [dig_toNat (by omega)]; omega
    · rcases List.mem_append.1 hc with hc | hc
      · exact ih (u / 10) (by omega) c hc
      · obtain rfl := List.mem_singleton.1 hc
        rw [dig_toNat (by omega)]; omega
theorem decD_ne (u : Nat) : Go.Lib.decDigits u ≠ [] := by
  intro h
  have := congrArg List.length h
  rw [Go.Lib.decDigits_length] at this
  have := Go.Lib.nDigits_pos u
  simp at *
  omega
theorem pU_snoc (M : Nat) (c : UInt8) : ∀ (l : List UInt8) (acc v : Nat), Go.Lib.parseUintM M acc l = .ok v → Go.Lib.parseUintM M acc (l ++ [c]) = Go.Lib.parseUintM M v [c]
  | [], acc, v, h => by
    rw [Go.Lib.parseUintM] at h
    injection h with h
    rw [h]; rfl
  | d :: l, acc, v, h => by
    rw [List.cons_append, Go.Lib.parseUintM]
    rw [Go.Lib.parseUintM] at h
    split at h
    · rename_i h1
      rw [if_pos h1]
      split at h
      · cases h
      · rename_i h2
        rw [if_neg h2]
        split at h
        · cases h
        · rename_i h3
          rw [if_neg h3]
          exact pU_snoc M c l _ v h
    · cases h
theorem pU_dec (u : Nat) (hu : u ≤ 9223372036854775808) : Go.Lib.parseUintM (2 ^ 64 - 1) 0 (Go.Lib.decDigits u) = .ok u := by
  induction u using Nat.strongRecOn with
  | ind u ih =>
    rw [Go.Lib.decDigits]
    split
    · rename_i h
      rw [Go.Lib.parseUintM, dig_toNat h, if_pos (by omega), if_neg (by omega), if_neg (by omega), Go.Lib.parseUintM]
      congr 1; omega
    · rw [pU_snoc _ _ _ _ _ (ih (u / 10) (by omega) (by omega)), Go.Lib.parseUintM, dig_toNat (by omega), if_pos (by omega), if_neg (by omega), if_neg (by omega), Go.Lib.parseUintM]
      congr 1; omega
theorem pUB_dec (u : Nat) (hu : u ≤ 9223372036854775808) : Go.Lib.parseUintB 64 (Go.Lib.decDigits u) = .ok u := by
  unfold Go.Lib.parseUintB
  rw [if_neg (decD_ne u), pU_dec u hu]
theorem pI_dec (n : Int) (h0 : -9223372036854775808 ≤ n) (h1 : n ≤ 9223372036854775807) : Go.Lib.parseIntB 64 (decB n).data.toList = .ok n := by
  have e : (decB n).data.toList = Go.Lib.itoa n := by simp [decB]
  rw [e]
  unfold Go.Lib.itoa
  by_cases hn : n < 0
  · rw [if_pos hn, Go.Lib.parseIntB]
    have h45 : (45 : UInt8).toNat = 45 := rfl
    simp only [h45]
    rw [if_pos (by simp), pUB_dec _ (by omega)]
    simp only
    rw [if_neg (by simp), if_neg (by omega)]
    simp; omega
  · rw [if_neg hn]
    have hp := pUB_dec n.toNat (by omega)
    have hd := decD_dig n.toNat
    cases hl : Go.Lib.decDigits n.toNat with
    | nil => exact absurd hl (decD_ne _)
    | cons c r =>
      rw [hl] at hp hd
      have hc := hd c (List.mem_cons_self ..)
      rw [Go.Lib.parseIntB]
      rw [if_neg (by omega), hp]
      simp only
      rw [if_neg (by omega), if_neg (by omega), if_neg (by omega)]
      congr 1; omega
theorem pI_in {l : List UInt8} {v : Int} (h : Go.Lib.parseIntB 64 l = .ok v) : -9223372036854775808 ≤ v ∧ v ≤ 9223372036854775807 := by
  unfold Go.Lib.parseIntB at h
  split at h
  · cases h
  · rename_i c r
    simp only at h
    split at h
    · cases h
    · cases h
    · rename_i u hu
      split at h
      · cases h
      · rename_i h1
        split at h
        · cases h
        · rename_i h2
          injection h with h
          subst h
          split <;> omega

/-! ### contracts -/
def numV (s : ByteArray) : Int := match Go.Lib.parseIntB 64 s.data.toList with
  | .ok v => v
  | .range => Go.Lib.intSat 64 s.data.toList
  | _ => 0
def numE (s : ByteArray) : Bool := match Go.Lib.parseIntB 64 s.data.toList with
  | .ok _ => true
  | _ => false
def parErr (s : ByteArray) : AV := if numE s = true then .nili else .iface
theorem parErr_lt (s : ByteArray) : (parErr s).lt 0 = true := by unfold parErr; split <;> rfl
noncomputable def sp_parseI : List AV → Option (AV) := pf (ι := (ByteArray)) (α := AV) (fun s => s.size ≤ 1048576) (fun s => [.str s, .int .i64 10, .int .i64 64]) (fun s => .tup [.int .i64 (numV s), parErr s])
theorem sp_parseI_eq (s : ByteArray) (h : s.size ≤ 1048576) : sp_parseI [.str s, .int .i64 10, .int .i64 64] = some (.tup [.int .i64 (numV s), parErr s]) := by
  unfold sp_parseI
  exact pf_eq (ι := (ByteArray)) (α := AV) s h (by rintro s' _ e; simp_all [Int.natCast_inj])
theorem var_cell0 {P : Program} {w : World} {name : String} {g : Nat} {v : Value} (hg : P.globalNamed name = some g) (h : w.var? P name = some #[v]) : w.cell? ⟨g, 0, none⟩ = some v := by
  have := World.var?_cell hg h 0
  simpa using this
theorem q_strconv_ParseInt : QP PP 53 sp_parseI := by
  refine QP_pf (fun s h => ?_) fun s h => ?_
  · exact ⟨by first | rfl | simp, by simp [parErr_lt]⟩
  replace h : s.size ≤ 1048576 := h
  refine T.lib ⟨_, Tryd.func53, by kernel_rfl, by kernel_rfl⟩ (fun σ w vs hr hG => ?_) .nil
  obtain ⟨v1, us, rfl, h1, h2⟩ := hr.head
  obtain ⟨v2, us2, rfl, h3, h4⟩ := h2.head
  obtain ⟨v3, us3, rfl, h5, h6⟩ := h4.head
  obtain rfl : us3 = [] := List.eq_nil_of_length_eq_zero h6.1.symm
  cases h1; cases h3; cases h5
  have rep2 : ∀ {x y : AV} {u v : Value}, Rep σ x u → Rep σ y v → Rep σ (.tup [x, y]) (.tuple #[u, v]) := by
    intro x y u v hu hv
    exact .tup [x, y] [u, v] rfl (fun i c z hc hz => by
      match i, hc, hz with
      | 0, hc, hz => cases hc; cases hz; exact hu
      | 1, hc, hz => cases hc; cases hz; exact hv
      | n + 2, hc, hz => cases hc)
  cases hp : Go.Lib.parseIntB 64 s.data.toList with
  | ok v =>
    have e1 : numV s = v := by unfold numV; rw [hp]
    have e2 : parErr s = .nili := by unfold parErr numE; rw [hp]; rfl
    refine (Tryd.strconv_ParseInt_10_at64_ok s (by omega) v hp w).mono ?_
    rintro e w' ⟨rfl, hw⟩
    refine ⟨_, rfl, ?_, ?_⟩
    · rcases hw with rfl | ⟨t, rfl⟩
      · exact Below.refl _ _
      · exact Go.Lib.bytesWorld_below _ _ _
    · rw [e1, e2]; exact rep2 (.int _ _) .nili
  | range =>
    have e1 : numV s = Go.Lib.intSat 64 s.data.toList := by unfold numV; rw [hp]
    have e2 : parErr s = .iface := by unfold parErr numE; rw [hp]; rfl
    obtain ⟨t, v, hv⟩ := hG.rng rfl (by kernel_rfl)
    refine (Go.Proofs.Any.strconv_ParseInt_10_at64_range Tryd.laysC174 s (by omega) hp (.iface t v) w (var_cell0 (by kernel_rfl) hv) (.inr ⟨t, v, rfl⟩)).mono ?_
    rintro e w' ⟨N, rfl, _, _, hb⟩
    refine ⟨_, rfl, hb, ?_⟩
    rw [e1, e2]; exact rep2 (.int _ _) (.iface _ _)
  | _ =>
    have e1 : numV s = 0 := by unfold numV; rw [hp]
    have e2 : parErr s = .iface := by unfold parErr numE; rw [hp]; rfl
    obtain ⟨t, v, hv⟩ := hG.syn rfl (by kernel_rfl)
    refine (Go.Proofs.Any.strconv_ParseInt_10_at64_syntax Tryd.laysC174 s (by omega) hp (.iface t v) w (var_cell0 (by kernel_rfl) hv) (.inr ⟨t, v, rfl⟩)).mono ?_
    rintro e w' ⟨N, rfl, _, _, hb⟩
    refine ⟨_, rfl, hb, ?_⟩
    rw [e1, e2]; exact rep2 (.int _ _) (.iface _ _)
end Go.Proofs.YtgophedkejgedaaDoorAi
end

section
/- MADE BY PROGRAM (wip/tools/gen.py): the abstract code of functions. -/
namespace Go.Proofs.YtgophedkejgedaaDoorAi
open Go AC AOp Opd
set_option linter.unusedVariables false
set_option maxRecDepth 100000
def c_impl_number : AC := seq (reg [⟨(some 2), mv (c (.int .i64 0)), none⟩, ⟨(some 3), mv (c (.bool false)), none⟩]) (seq (reg [⟨(some 7), mv (t 0), none⟩, ⟨(some 8), callq (c (.fn 53 [])) [t 7, c (.int .i64 10), c (.int .i64 64)], none⟩, ⟨(some 6), mv (t 8), none⟩, ⟨(some 9), ext (t 6) 0, none⟩, ⟨(some 10), ext (t 6) 1, none⟩, ⟨(some 4), mv (t 9), none⟩, ⟨(some 5), mv (t 10), none⟩]) (seq (reg [⟨(some 11), mv (t 4), none⟩, ⟨(some 12), mv (t 5), none⟩, ⟨(some 13), eqi false (t 12), none⟩, ⟨(some 14), mv (t 13), none⟩, ⟨(some 15), mv (t 4), some (14, true)⟩, ⟨(some 16), callq (c (.fn 106 [])) [t 15], some (14, true)⟩, ⟨(some 17), mv (t 0), some (14, true)⟩, ⟨(some 18), bin .eql (t 16) (t 17), some (14, true)⟩, ⟨(some 19), pick (t 14) (t 18) (c (.bool false)), none⟩, ⟨(some 2), mv (t 11), none⟩, ⟨(some 3), mv (t 19), none⟩]) (ret)))
def r_impl_number : List ARes := [.tmp 2, .tmp 3]
theorem k_impl_number : acLin Go.Proofs.Tryd.prog 60 1 (inQ [53, 106] []) [] = some (c_impl_number, r_impl_number) := by kernel_rfl
def c_impl_ReadFraction : AC := seq (reg [⟨(some 2), alloc [.int .i64 0, .int .i64 0], none⟩, ⟨(some 3), mv (c (.int .i64 0)), none⟩]) (seq (reg [⟨(some 13), mv (t 0), none⟩, ⟨(some 14), callq (c (.fn 59 [])) [t 13, c (.str ⟨#[47]⟩)], none⟩, ⟨(some 12), mv (t 14), none⟩, ⟨(some 15), ext (t 12) 0, none⟩, ⟨(some 16), ext (t 12) 1, none⟩, ⟨(some 17), ext (t 12) 2, none⟩, ⟨(some 4), mv (t 15), none⟩, ⟨(some 5), mv (t 16), none⟩, ⟨(some 6), mv (t 17), none⟩]) (seq (seq (reg [⟨(some 18), mv (t 6), none⟩, ⟨(some 19), un .not (t 18), none⟩]) (cond (t 19) (reg [⟨(some 5), mv (c (.str ⟨#[49]⟩)), none⟩]) (skip))) (seq (reg [⟨(some 21), mv (t 4), none⟩, ⟨(some 22), callq (c (.fn 60 [])) [t 21], none⟩, ⟨(some 20), mv (t 22), none⟩, ⟨(some 23), ext (t 20) 0, none⟩, ⟨(some 24), ext (t 20) 1, none⟩, ⟨(some 7), mv (t 23), none⟩, ⟨(some 8), mv (t 24), none⟩]) (seq (reg [⟨(some 26), mv (t 5), none⟩, ⟨(some 27), callq (c (.fn 60 [])) [t 26], none⟩, ⟨(some 25), mv (t 27), none⟩, ⟨(some 28), ext (t 25) 0, none⟩, ⟨(some 29), ext (t 25) 1, none⟩, ⟨(some 9), mv (t 28), none⟩, ⟨(some 10), mv (t 29), none⟩]) (seq (reg [⟨(some 30), mv (t 7), none⟩, ⟨(some 31), mv (t 9), none⟩, ⟨(some 32), bld [.int .i64 0, .int .i64 0] [(0, 1, t 30), (1, 1, t 31)], none⟩, ⟨(some 11), alloc [.int .i64 0, .int .i64 0], none⟩, ⟨none, st (t 11) 2 (t 32), none⟩]) (seq (seq (reg [⟨(some 33), mv (t 8), none⟩, ⟨(some 34), un .not (t 33), none⟩, ⟨(some 35), mv (t 34), none⟩, ⟨(some 36), mv (t 10), some (35, false)⟩, ⟨(some 37), un .not (t 36), some (35, false)⟩, ⟨(some 38), pick (t 35) (c (.bool true)) (t 37), none⟩, ⟨(some 39), mv (t 38), none⟩, ⟨(some 40), ld (t 11) 2 true, some (39, false)⟩, ⟨(some 41), callq (c (.fn 20 [])) [t 40], some (39, false)⟩, ⟨(some 42), un .not (t 41), some (39, false)⟩, ⟨(some 43), pick (t 39) (c (.bool true)) (t 42), none⟩, ⟨(some 44), mv (t 43), none⟩, ⟨(some 45), ld (t 11) 2 true, some (44, false)⟩, ⟨(some 46), callq (c (.fn 61 [])) [t 45], some (44, false)⟩, ⟨(some 47), mv (t 0), some (44, false)⟩, ⟨(some 48), bin .neq (t 46) (t 47), some (44, false)⟩, ⟨(some 49), pick (t 44) (c (.bool true)) (t 48), none⟩]) (cond (t 49) (seq (reg [⟨(some 50), bld [.int .i64 0, .int .i64 0] [], none⟩, ⟨none, st (t 2) 2 (t 50), none⟩, ⟨(some 3), mv (c (.int .i64 5)), none⟩]) (ret)) (skip))) (seq (reg [⟨(some 51), ld (t 11) 2 true, none⟩, ⟨none, st (t 2) 2 (t 51), none⟩, ⟨(some 3), mv (c (.int .i64 0)), none⟩]) (ret))))))))
def r_impl_ReadFraction : List ARes := [.cell 2 2 true, .tmp 3]
theorem k_impl_ReadFraction : acLin Go.Proofs.Tryd.prog 17 1 (inQ [20, 59, 60, 61] []) [] = some (c_impl_ReadFraction, r_impl_ReadFraction) := by kernel_rfl
def c_spec_l01Split : AC := seq (reg [⟨(some 4), mv (c (.sl [] true)), none⟩]) (seq (reg [⟨(some 8), bsl 1 0 [.str ⟨#[]⟩] [], none⟩, ⟨(some 5), mv (t 8), none⟩]) (seq (reg [⟨(some 6), mv (c (.int .i64 0)), none⟩]) (seq (seq (reg [⟨(some 7), mv (c (.int .i64 0)), none⟩]) (block 0 (loop (seq (seq (reg [⟨(some 9), mv (t 7), none⟩, ⟨(some 10), mv (t 0), none⟩, ⟨(some 11), lens (t 10), none⟩, ⟨(some 12), bin .lss (t 9) (t 11), none⟩]) (cond (t 12) (skip) (exit 0))) (seq (block 1 (seq (reg [⟨(some 15), mv (t 0), none⟩, ⟨(some 16), mv (t 7), none⟩, ⟨(some 17), idx (t 15) (t 16), none⟩, ⟨(some 18), mv (t 1), none⟩, ⟨(some 19), bin .eql (t 17) (t 18), none⟩]) (cond (t 19) (seq (reg [⟨(some 20), mv (t 5), none⟩, ⟨(some 21), mv (t 0), none⟩, ⟨(some 22), mv (t 6), none⟩, ⟨(some 23), mv (t 7), none⟩, ⟨(some 24), sls (t 21) (some (t 22)) (some (t 23)), none⟩, ⟨(some 25), bsl 1 1 [.str ⟨#[]⟩] [(0, t 24)], none⟩, ⟨(some 26), app 1 16 (t 20) (t 25), none⟩, ⟨(some 5), mv (t 26), none⟩]) (reg [⟨(some 27), mv (t 7), none⟩, ⟨(some 28), bin .add (t 27) (c (.int .i64 1)), none⟩, ⟨(some 6), mv (t 28), none⟩])) (skip)))) (reg [⟨(some 13), mv (t 7), none⟩, ⟨(some 14), bin .add (t 13) (c (.int .i64 1)), none⟩, ⟨(some 7), mv (t 14), none⟩])))))) (seq (reg [⟨(some 29), mv (t 5), none⟩, ⟨(some 30), mv (t 0), none⟩, ⟨(some 31), mv (t 6), none⟩, ⟨(some 32), sls (t 30) (some (t 31)) none, none⟩, ⟨(some 33), bsl 1 1 [.str ⟨#[]⟩] [(0, t 32)], none⟩, ⟨(some 34), app 1 16 (t 29) (t 33), none⟩, ⟨(some 4), mv (t 34), none⟩]) (ret)))))
def r_spec_l01Split : List ARes := [.tmp 4]
theorem k_spec_l01Split : acLin Go.Proofs.Tryd.prog 48 2 (inQ [] []) [] = some (c_spec_l01Split, r_spec_l01Split) := by kernel_rfl
def c_spec_l01Number : AC := seq (reg [⟨(some 2), mv (c (.int .i64 0)), none⟩, ⟨(some 3), mv (c (.bool false)), none⟩]) (seq (seq (reg [⟨(some 6), mv (t 0), none⟩, ⟨(some 7), lens (t 6), none⟩, ⟨(some 8), bin .lss (t 7) (c (.int .i64 1)), none⟩, ⟨(some 9), mv (t 8), none⟩, ⟨(some 10), mv (t 0), some (9, false)⟩, ⟨(some 11), lens (t 10), some (9, false)⟩, ⟨(some 12), bin .gtr (t 11) (c (.int .i64 9)), some (9, false)⟩, ⟨(some 13), pick (t 9) (c (.bool true)) (t 12), none⟩, ⟨(some 14), mv (t 13), none⟩, ⟨(some 15), mv (t 0), some (14, false)⟩, ⟨(some 16), idx (t 15) (c (.int .i64 0)), some (14, false)⟩, ⟨(some 17), bin .eql (t 16) (c (.int .u8 48)), some (14, false)⟩, ⟨(some 18), mv (t 17), some (14, false)⟩, ⟨(some 19), mv (t 0), some (18, true)⟩, ⟨(some 20), lens (t 19), some (18, true)⟩, ⟨(some 21), bin .gtr (t 20) (c (.int .i64 1)), some (18, true)⟩, ⟨(some 22), pick (t 18) (t 21) (c (.bool false)), some (14, false)⟩, ⟨(some 23), pick (t 14) (c (.bool true)) (t 22), none⟩]) (cond (t 23) (seq (reg [⟨(some 2), mv (c (.int .i64 0)), none⟩, ⟨(some 3), mv (c (.bool false)), none⟩]) (ret)) (skip))) (seq (reg [⟨(some 4), mv (c (.int .i64 0)), none⟩]) (seq (seq (reg [⟨(some 5), mv (c (.int .i64 0)), none⟩]) (block 0 (loop (seq (seq (reg [⟨(some 24), mv (t 5), none⟩, ⟨(some 25), mv (t 0), none⟩, ⟨(some 26), lens (t 25), none⟩, ⟨(some 27), bin .lss (t 24) (t 26), none⟩]) (cond (t 27) (skip) (exit 0))) (seq (block 1 (seq (seq (reg [⟨(some 30), mv (t 0), none⟩, ⟨(some 31), mv (t 5), none⟩, ⟨(some 32), idx (t 30) (t 31), none⟩, ⟨(some 33), bin .lss (t 32) (c (.int .u8 48)), none⟩, ⟨(some 34), mv (t 33), none⟩, ⟨(some 35), mv (t 0), some (34, false)⟩, ⟨(some 36), mv (t 5), some (34, false)⟩, ⟨(some 37), idx (t 35) (t 36), some (34, false)⟩, ⟨(some 38), bin .gtr (t 37) (c (.int .u8 57)), some (34, false)⟩, ⟨(some 39), pick (t 34) (c (.bool true)) (t 38), none⟩]) (cond (t 39) (seq (reg [⟨(some 2), mv (c (.int .i64 0)), none⟩, ⟨(some 3), mv (c (.bool false)), none⟩]) (ret)) (skip))) (reg [⟨(some 40), mv (t 4), none⟩, ⟨(some 41), bin .mul (t 40) (c (.int .i64 10)), none⟩, ⟨(some 42), mv (t 0), none⟩, ⟨(some 43), mv (t 5), none⟩, ⟨(some 44), idx (t 42) (t 43), none⟩, ⟨(some 45), bin .sub (t 44) (c (.int .u8 48)), none⟩, ⟨(some 46), conv .i64 (t 45), none⟩, ⟨(some 47), bin .add (t 41) (t 46), none⟩, ⟨(some 4), mv (t 47), none⟩]))) (reg [⟨(some 28), mv (t 5), none⟩, ⟨(some 29), bin .add (t 28) (c (.int .i64 1)), none⟩, ⟨(some 5), mv (t 29), none⟩])))))) (seq (reg [⟨(some 48), mv (t 4), none⟩, ⟨(some 2), mv (t 48), none⟩, ⟨(some 3), mv (c (.bool true)), none⟩]) (ret)))))
def r_spec_l01Number : List ARes := [.tmp 2, .tmp 3]
theorem k_spec_l01Number : acLin Go.Proofs.Tryd.prog 50 1 (inQ [] []) [] = some (c_spec_l01Number, r_spec_l01Number) := by kernel_rfl
end Go.Proofs.YtgophedkejgedaaDoorAi
end

section
/- Contracts: number, strings.Cut, ReadFraction of the program. -/
namespace Go.Proofs.YtgophedkejgedaaDoorAi
open Go Go.RowKit
set_option linter.unusedVariables false
set_option linter.unusedSimpArgs false
set_option maxRecDepth 20000

def numB (s : ByteArray) : Bool := numE s && (decB (numV s) == s)
theorem numV_in (s : ByteArray) (h : numE s = true) : -9223372036854775808 ≤ numV s ∧ numV s ≤ 9223372036854775807 := by
  unfold numE at h
  unfold numV
  cases hp : Go.Lib.parseIntB 64 s.data.toList with
  | ok v => exact pI_in hp
  | range => rw [hp] at h; cases h
  | _ => rw [hp] at h; cases h
theorem ba_eq {a b : ByteArray} : (a == b) = decide (a = b) := by
  show (a.data == b.data) = _
  rw [Bool.eq_iff_iff, decide_eq_true_iff, beq_iff_eq]
  exact ⟨fun h => ByteArray.ext h, fun h => by rw [h]⟩
theorem num_dec (n : Int) (h0 : -9223372036854775808 ≤ n) (h1 : n ≤ 9223372036854775807) : numV (decB n) = n ∧ numB (decB n) = true := by
  have hp := pI_dec n h0 h1
  have e1 : numV (decB n) = n := by unfold numV; rw [hp]
  have e2 : numE (decB n) = true := by unfold numE; rw [hp]
  refine ⟨e1, ?_⟩
  unfold numB
  rw [e1, e2, beq_ba]; rfl
noncomputable def sp_numI : List AV → Option (AV) := pf (ι := (ByteArray)) (α := AV) (fun s => s.size ≤ 1048576) (fun s => [.str s]) (fun s => .tup [.int .i64 (numV s), .bool (numB s)])
theorem sp_numI_eq (s : ByteArray) (h : s.size ≤ 1048576) : sp_numI [.str s] = some (.tup [.int .i64 (numV s), .bool (numB s)]) := by
  unfold sp_numI
  exact pf_eq (ι := (ByteArray)) (α := AV) s h (by rintro s' _ e; simp_all [Int.natCast_inj])
theorem q_impl_number : QP PP 60 sp_numI := by
  refine QP_pf (fun s h => ?_) fun s h => ?_
  · exact ⟨by first | rfl | simp, by first | rfl | simp⟩
  replace h : s.size ≤ 1048576 := h
  refine P_code (Quiet.q1 q_strconv_ParseInt (Quiet.q1 q_impl_decimal Quiet.nil)) hmix k_impl_number rfl ?_ ?_
  · first | rfl | simp
  show wpc 0 PP _ c_impl_number (initSt [.str s] .nil) (endP r_impl_number (.tup [.int .i64 (numV s), .bool (numB s)]))
  have hp := sp_parseI_eq s h
  unfold numB
  cases he : numE s with
  | false =>
    have e : parErr s = .iface := by unfold parErr; rw [he]; rfl
    rw [e] at hp
    simp -dsimp -implicitDefEqProofs [c_impl_number, r_impl_number, hp]
  | true =>
    have e : parErr s = .nili := by unfold parErr; rw [he]; rfl
    rw [e] at hp
    have hd := sp_decimal_eq (numV s) (numV_in s he)
    simp -dsimp -implicitDefEqProofs [c_impl_number, r_impl_number, hp, hd]

def cutA (s sep : ByteArray) : ByteArray := ⟨(Go.Lib.cut s.data.toList sep.data.toList).1.toArray⟩
def cutB (s sep : ByteArray) : ByteArray := ⟨(Go.Lib.cut s.data.toList sep.data.toList).2.1.toArray⟩
def cutI (s sep : ByteArray) : Bool := (Go.Lib.cut s.data.toList sep.data.toList).2.2
noncomputable def sp_cutS : List AV → Option (AV) := pf (ι := (ByteArray) × (ByteArray)) (α := AV) (fun ⟨s, sep⟩ => s.size ≤ 1048576) (fun ⟨s, sep⟩ => [.str s, .str sep]) (fun ⟨s, sep⟩ => .tup [.str (cutA s sep), .str (cutB s sep), .bool (cutI s sep)])
theorem sp_cutS_eq (s sep : ByteArray) (h : s.size ≤ 1048576) : sp_cutS [.str s, .str sep] = some (.tup [.str (cutA s sep), .str (cutB s sep), .bool (cutI s sep)]) := by
  unfold sp_cutS
  exact pf_eq (ι := (ByteArray) × (ByteArray)) (α := AV) (s, sep) h (by rintro ⟨s', sep'⟩ _ e; simp_all [Int.natCast_inj])
theorem q_strings_Cut : QP PP 59 sp_cutS := by
  refine QP_pf (fun i h => ?_) fun i h => ?_
  · obtain ⟨s, sep⟩ := i; exact ⟨by first | rfl | simp, by first | rfl | simp⟩
  obtain ⟨s, sep⟩ := i
  replace h : s.size ≤ 1048576 := h
  refine T.lib ⟨_, Tryd.func59, by kernel_rfl, by kernel_rfl⟩ (fun σ w vs hr hG => ?_) .nil
  obtain ⟨v1, us, rfl, h1, h2⟩ := hr.head
  obtain ⟨v2, us2, rfl, h3, h4⟩ := h2.head
  obtain rfl : us2 = [] := List.eq_nil_of_length_eq_zero h4.1.symm
  cases h1; cases h3
  obtain ⟨m, hm⟩ := hG.max (by kernel_rfl)
  refine (Tryd.strings_Cut s sep m w (by omega) (var_cell0 (by kernel_rfl) hm)).mono ?_
  rintro e w' ⟨rfl, n, rfl⟩
  refine ⟨_, rfl, ⟨rfl, rfl, rfl, Nat.le_refl _, fun _ _ => rfl⟩, ?_⟩
  exact .tup [.str (cutA s sep), .str (cutB s sep), .bool (cutI s sep)] [.string _, .string _, .bool _] rfl (fun i c z hc hz => by
    match i, hc, hz with
    | 0, hc, hz => cases hc; cases hz; exact .str _
    | 1, hc, hz => cases hc; cases hz; exact .str _
    | 2, hc, hz => cases hc; cases hz; exact .bool _
    | n + 3, hc, hz => cases hc)
theorem cut_sizes (s sep : ByteArray) : (cutA s sep).size ≤ s.size ∧ (cutB s sep).size ≤ s.size := by
  have e : s.size = s.data.toList.length := by rw [Array.length_toList]; rfl
  unfold cutA cutB Go.Lib.cut
  rw [e]
  split
  · simp only [ba_size, List.size_toArray, List.length_take, List.length_drop]; omega
  · simp only [ba_size, List.size_toArray, List.length_nil]; omega
def onesB : ByteArray := ⟨#[49]⟩
def topS (s : ByteArray) : ByteArray := cutA s slashB
def botS (s : ByteArray) : ByteArray := if cutI s slashB = true then cutB s slashB else onesB
def readOk (s : ByteArray) : Bool := (numB (topS s) && numB (botS s)) && frOk (numV (topS s)) (numV (botS s)) && (frT (numV (topS s)) (numV (botS s)) == s)
def readR (s : ByteArray) : AV := if readOk s = true then .tup [.agg [.int .i64 (numV (topS s)), .int .i64 (numV (botS s))], .int .i64 0] else .tup [.agg [.int .i64 0, .int .i64 0], .int .i64 5]
theorem readR_lt (s : ByteArray) : (readR s).lt 0 = true := by unfold readR; split <;> rfl
noncomputable def sp_readFr : List AV → Option (AV) := pf (ι := (ByteArray)) (α := AV) (fun s => s.size ≤ 1048576) (fun s => [.str s]) (fun s => readR s)
theorem sp_readFr_eq (s : ByteArray) (h : s.size ≤ 1048576) : sp_readFr [.str s] = some (readR s) := by
  unfold sp_readFr
  exact pf_eq (ι := (ByteArray)) (α := AV) s h (by rintro s' _ e; simp_all [Int.natCast_inj])
attribute [simp] readR_lt
theorem q_impl_ReadFraction : QP PP 17 sp_readFr := by
  refine QP_pf (fun s h => ?_) fun s h => ?_
  · exact ⟨by first | rfl | simp, by first | rfl | simp⟩
  replace h : s.size ≤ 1048576 := h
  refine P_code (Quiet.q1 q_strings_Cut (Quiet.q1 q_impl_number (Quiet.q1 q_impl_ValidFraction (Quiet.q1 q_impl_Fraction_text Quiet.nil)))) hmix k_impl_ReadFraction rfl ?_ ?_
  · first | rfl | simp
  show wpc 0 PP _ c_impl_ReadFraction (initSt [.str s] .nil) (endP r_impl_ReadFraction (readR s))
  have hc := sp_cutS_eq s slashB h
  have hs := cut_sizes s slashB
  have hA := sp_numI_eq (topS s) (by unfold topS; omega)
  have hB := sp_numI_eq (botS s) (by
    unfold botS
    split
    · omega
    · show 1 ≤ 1048576; omega)
  unfold readR
  have hc' : sp_cutS [.str s, .str ⟨#[47]⟩] = some (.tup [.str (topS s), .str (cutB s slashB), .bool (cutI s slashB)]) := hc
  cases hi : cutI s slashB <;> rw [hi] at hc'
  · have eb : botS s = onesB := by unfold botS; rw [hi]; rfl
    rw [eb] at hB
    have hB' : sp_numI [.str ⟨#[49]⟩] = some (.tup [.int .i64 (numV onesB), .bool (numB onesB)]) := hB
    unfold readOk
    rw [eb]
    cases h1 : numB (topS s) <;> cases h2 : numB onesB <;> rw [h1] at hA <;> rw [h2] at hB'
    · simp -dsimp -implicitDefEqProofs [c_impl_ReadFraction, r_impl_ReadFraction, hc', hA, hB']
    · simp -dsimp -implicitDefEqProofs [c_impl_ReadFraction, r_impl_ReadFraction, hc', hA, hB']
    · simp -dsimp -implicitDefEqProofs [c_impl_ReadFraction, r_impl_ReadFraction, hc', hA, hB']
    · cases h3 : frOk (numV (topS s)) (numV onesB) with
      | false => simp -dsimp -implicitDefEqProofs [c_impl_ReadFraction, r_impl_ReadFraction, hc', hA, hB', h3]
      | true =>
        have hb := frOk_bd h3
        have ht := sp_frText_eq (numV (topS s)) (numV onesB) (by omega)
        cases h4 : (frT (numV (topS s)) (numV onesB) == s) with
        | false =>
          have h4' : (frT (numV (topS s)) (numV onesB) != s) = true := by unfold bne; rw [h4]; rfl
          simp -dsimp -implicitDefEqProofs [c_impl_ReadFraction, r_impl_ReadFraction, hc', hA, hB', h3, ht, h4, h4']
        | true =>
          have h4' : (frT (numV (topS s)) (numV onesB) != s) = false := by unfold bne; rw [h4]; rfl
          simp -dsimp -implicitDefEqProofs [c_impl_ReadFraction, r_impl_ReadFraction, hc', hA, hB', h3, ht, h4, h4']
  · have eb : botS s = cutB s slashB := by unfold botS; rw [hi]; rfl
    rw [eb] at hB
    unfold readOk
    rw [eb]
    generalize cutB s slashB = bs at *
    cases h1 : numB (topS s) <;> cases h2 : numB bs <;> rw [h1] at hA <;> rw [h2] at hB
    · simp -dsimp -implicitDefEqProofs [c_impl_ReadFraction, r_impl_ReadFraction, hc', hA, hB]
    · simp -dsimp -implicitDefEqProofs [c_impl_ReadFraction, r_impl_ReadFraction, hc', hA, hB]
    · simp -dsimp -implicitDefEqProofs [c_impl_ReadFraction, r_impl_ReadFraction, hc', hA, hB]
    · cases h3 : frOk (numV (topS s)) (numV bs) with
      | false => simp -dsimp -implicitDefEqProofs [c_impl_ReadFraction, r_impl_ReadFraction, hc', hA, hB, h3]
      | true =>
        have hb := frOk_bd h3
        have ht := sp_frText_eq (numV (topS s)) (numV bs) (by omega)
        cases h4 : (frT (numV (topS s)) (numV bs) == s) with
        | false =>
          have h4' : (frT (numV (topS s)) (numV bs) != s) = true := by unfold bne; rw [h4]; rfl
          simp -dsimp -implicitDefEqProofs [c_impl_ReadFraction, r_impl_ReadFraction, hc', hA, hB, h3, ht, h4, h4']
        | true =>
          have h4' : (frT (numV (topS s)) (numV bs) != s) = false := by unfold bne; rw [h4]; rfl
          simp -dsimp -implicitDefEqProofs [c_impl_ReadFraction, r_impl_ReadFraction, hc', hA, hB, h3, ht, h4, h4']
end Go.Proofs.YtgophedkejgedaaDoorAi
end

section
/- Contracts: numbers and pieces of texts of the reference. -/
namespace Go.Proofs.YtgophedkejgedaaDoorAi
open Go Go.RowKit
set_option linter.unusedVariables false
set_option linter.unusedSimpArgs false
set_option maxRecDepth 20000

def bAt (s : ByteArray) (i : Nat) : Int := ((s.data.toList[i]?.getD 0).toNat : Int)
theorem bAt_in (s : ByteArray) (i : Nat) : 0 ≤ bAt s i ∧ bAt s i ≤ 255 := by
  unfold bAt
  have := (s.data.toList[i]?.getD 0).toNat_lt
  omega
theorem bAt_get (s : ByteArray) (i : Nat) (h : i < s.size) : ((s[i]'h).toNat : Int) = bAt s i := by
  have h' : i < s.data.toList.length := by rw [Array.length_toList]; exact h
  unfold bAt
  rw [List.getElem?_eq_getElem h']
  rfl
theorem idx_at (s : ByteArray) (i : Nat) (h : i < s.size) : bytA s (i : Int) = some (.int .u8 (bAt s i)) := by
  unfold bytA
  rw [dif_pos ⟨by omega, by simpa using h⟩]
  congr 2
  exact bAt_get s i h
def isDig (c : Int) : Bool := decide (48 ≤ c) && decide (c ≤ 57)
def nV (s : ByteArray) : Nat → Int
  | 0 => 0
  | i + 1 => nV s i * 10 + (bAt s i - 48)
def nOk (s : ByteArray) : Nat → Bool
  | 0 => true
  | i + 1 => nOk s i && isDig (bAt s i)
theorem nV_in (s : ByteArray) : ∀ i, nOk s i = true → 0 ≤ nV s i ∧ nV s i < 10 ^ i
  | 0, _ => by simp [nV]
  | i + 1, h => by
    simp only [nOk, isDig, Bool.and_eq_true, decide_eq_true_eq] at h
    have ih := nV_in s i h.1
    simp only [nV]
    have : (10 : Int) ^ (i + 1) = 10 ^ i * 10 := Int.pow_succ ..
    omega
theorem nOk_false {s : ByteArray} {i : Nat} (h : isDig (bAt s i) = false) : ∀ j, i < j → nOk s j = false
  | 0, h0 => by omega
  | j + 1, h0 => by
    rw [nOk]
    by_cases e : i = j
    · subst e; rw [h]; simp
    · rw [nOk_false h j (by omega)]; rfl
def l01B (s : ByteArray) : Bool := !(decide (s.size < 1) || decide (9 < s.size)) && !((bAt s 0 == 48) && decide (1 < s.size)) && nOk s s.size
def l01V (s : ByteArray) : Int := if l01B s = true then nV s s.size else 0
noncomputable def sp_l01Num : List AV → Option (AV) := pf (ι := (ByteArray)) (α := AV) (fun s => s.size ≤ 1048576) (fun s => [.str s]) (fun s => .tup [.int .i64 (l01V s), .bool (l01B s)])
theorem sp_l01Num_eq (s : ByteArray) (h : s.size ≤ 1048576) : sp_l01Num [.str s] = some (.tup [.int .i64 (l01V s), .bool (l01B s)]) := by
  unfold sp_l01Num
  exact pf_eq (ι := (ByteArray)) (α := AV) s h (by rintro s' _ e; simp_all [Int.natCast_inj])
theorem q_spec_l01Number : QP PP 50 sp_l01Num := by
  refine QP_pf (fun s h => ?_) fun s h => ?_
  · exact ⟨by first | rfl | simp, by first | rfl | simp⟩
  replace h : s.size ≤ 1048576 := h
  refine P_code Quiet.nil hmix k_spec_l01Number rfl ?_ ?_
  · first | rfl | simp
  show wpc 0 PP _ c_spec_l01Number (initSt [.str s] .nil) (endP r_spec_l01Number (.tup [.int .i64 (l01V s), .bool (l01B s)]))
  by_cases h1 : s.size < 1
  · have hv : l01B s = false := by unfold l01B; simp [h1]
    have hz : s.size = 0 := by omega
    simp -dsimp -implicitDefEqProofs [c_spec_l01Number, r_spec_l01Number, hz, hv, l01V]
  by_cases h9 : 9 < s.size
  · have hv : l01B s = false := by unfold l01B; simp [h9]
    have h1' : ¬ ((s.size : Int) < 1) := by omega
    have h9' : (9 : Int) < s.size := by omega
    simp -dsimp -implicitDefEqProofs [c_spec_l01Number, r_spec_l01Number, h1, h9, h1', h9', hv, l01V]
  have h1' : ¬ ((s.size : Int) < 1) := by omega
  have h9' : ¬ (9 : Int) < s.size := by omega
  have i0 : bytA s 0 = some (.int .u8 (bAt s 0)) := idx_at s 0 (by omega)
  by_cases hz : (bAt s 0 == 48) = true ∧ 1 < s.size
  · have hv : l01B s = false := by unfold l01B; rw [hz.1]; simp [hz.2]
    have hz2 : (1 : Int) < s.size := by omega
    simp -dsimp -implicitDefEqProofs [c_spec_l01Number, r_spec_l01Number, h1, h9, h1', h9', i0, hz.1, hz.2, hz2, hv, l01V]
  have hz' : ((bAt s 0 == 48) && decide ((1 : Int) < s.size)) = false := by
    cases e : (bAt s 0 == 48) with
    | false => rfl
    | true =>
      have : ¬ 1 < s.size := fun h => hz ⟨e, h⟩
      simp; omega
  have hz'' : ((bAt s 0 == 48) && decide (1 < s.size)) = false := by
    cases e : (bAt s 0 == 48) with
    | false => rfl
    | true =>
      have : ¬ 1 < s.size := fun h => hz ⟨e, h⟩
      simp; omega
  have hB : l01B s = nOk s s.size := by unfold l01B; rw [hz'']; simp [h1, h9]
  cases e48 : (bAt s 0 == 48) <;> rw [e48] at hz' <;> simp only [Bool.false_and, Bool.true_and, decide_eq_false_iff_not] at hz'
  all_goals simp -dsimp -implicitDefEqProofs [c_spec_l01Number, r_spec_l01Number, h1, h9, h1', h9', i0, e48, hz']
  all_goals
    refine wpLoop_st (fun (i : Nat) => ⟨tl [(0, .str s), (4, .int .i64 (nV s i)), (5, .int .i64 i)], ⟨[]⟩⟩) (fun i => i ≤ s.size ∧ nOk s i = true) (fun i => s.size - i) 0 ⟨by omega, rfl⟩ (Sub.keep (by simp) (by simp [hsub]) (by simp [nV])) ?_
    rintro i ⟨hi, ho⟩
    simp -dsimp -implicitDefEqProofs
    refine brW_of (fun h => ?_) (fun h => ?_) <;> simp only [decide_eq_true_eq, decide_eq_false_iff_not] at h
    · have hx : i < s.size := by omega
      have hw := wrapNat (i := i) (by omega)
      have hg := idx_at s i hx
      have hb := bAt_in s i
      have hn := nV_in s i ho
      have hp9 : (10 : Int) ^ i ≤ 10 ^ 9 := by
        have : i ≤ 9 := by omega
        exact_mod_cast Nat.pow_le_pow_right (by decide) this
      cases hd : isDig (bAt s i) with
      | false =>
        have hf : l01B s = false := by rw [hB]; exact nOk_false hd s.size hx
        unfold isDig at hd
        by_cases c1 : 48 ≤ bAt s i
        · have c2 : 57 < bAt s i := by
            rw [decide_eq_true c1] at hd
            have := of_decide_eq_false (by simpa using hd : decide (bAt s i ≤ 57) = false)
            omega
          have c1' : ¬ bAt s i < 48 := by omega
          simp -dsimp -implicitDefEqProofs [hg, c1', c2, hf, l01V]
        · have c1' : bAt s i < 48 := by omega
          simp -dsimp -implicitDefEqProofs [hg, c1', hf, l01V]
      | true =>
        have hd' := hd
        unfold isDig at hd
        simp only [Bool.and_eq_true, decide_eq_true_eq] at hd
        have c1 : ¬ bAt s i < 48 := by omega
        have c2 : ¬ 57 < bAt s i := by omega
        have w1 : IntKind.wrap .i64 (nV s i * 10) = nV s i * 10 := wrapI64 (by omega) (by omega)
        have w2 : IntKind.wrap .u8 (bAt s i - 48) = bAt s i - 48 := by simp [IntKind.wrap, IntKind.signed, IntKind.bits]; omega
        have w3 : IntKind.wrap .i64 (bAt s i - 48) = bAt s i - 48 := wrapI64 (by omega) (by omega)
        have w4 : IntKind.wrap .i64 (nV s i * 10 + (bAt s i - 48)) = nV s i * 10 + (bAt s i - 48) := wrapI64 (by omega) (by omega)
        simp -dsimp -implicitDefEqProofs [hg, c1, c2, w1, w2, w3, w4, hw]
        exact .mk (i + 1) ⟨by omega, by rw [nOk, ho, hd']; rfl⟩ (by omega) (Sub.keep (by simp) (by simp [hsub]) (by simp [nV, hw]))
    · have : i = s.size := by omega
      subst this
      have hf : l01B s = true := by rw [hB]; exact ho
      simp -dsimp -implicitDefEqProofs [hf, l01V]
end Go.Proofs.YtgophedkejgedaaDoorAi
end

section
/- Contracts: the graph with all edges. -/
namespace Go.Proofs.YtgophedkejgedaaDoorAi
open Go Go.RowKit
set_option linter.unusedVariables false
set_option linter.unusedSimpArgs false
set_option maxRecDepth 20000

theorem tri_pow {n : Int} (h : 0 ≤ n ∧ n ≤ 5) : n = 0 ∨ n = 1 ∨ n = 2 ∨ n = 3 ∨ n = 4 ∨ n = 5 := by omega
def compR (n : Int) : AV := if 0 ≤ n ∧ n ≤ 5 then .tup [.agg [.int .i64 n, .int .u32 (2 ^ (n.toNat * (n.toNat - 1) / 2) - 1 : Nat)], .int .i64 0] else .tup [.agg [.int .i64 0, .int .u32 0], .int .i64 2]
@[simp] theorem compR_lt (n : Int) (k : Nat) : (compR n).lt k = true := by unfold compR; split <;> rfl
noncomputable def sp_CompleteGraph : List AV → Option (AV) := pf (ι := (Int)) (α := AV) (fun n => True) (fun n => [.int .i64 n]) (fun n => compR n)
theorem sp_CompleteGraph_eq (n : Int) : sp_CompleteGraph [.int .i64 n] = some (compR n) := by
  unfold sp_CompleteGraph
  exact pf_eq (ι := (Int)) (α := AV) n trivial (by rintro n' _ e; simp_all [Int.natCast_inj])
attribute [simp] sp_CompleteGraph_eq
end Go.Proofs.YtgophedkejgedaaDoorAi
end

section
/- MADE BY PROGRAM (wip/tools/gen.py): the abstract code of functions. -/
namespace Go.Proofs.YtgophedkejgedaaDoorAi
open Go AC AOp Opd
set_option linter.unusedVariables false
set_option maxRecDepth 100000
def c_impl_Graph_has : AC := seq (reg [⟨(some 3), box 2 (t 0), none⟩, ⟨(some 6), mv (c (.bool false)), none⟩]) (seq (reg [⟨(some 7), fad (t 3) 1, none⟩, ⟨(some 8), ld (t 7) 1 false, none⟩, ⟨(some 9), mv (t 1), none⟩, ⟨(some 10), mv (t 2), none⟩, ⟨(some 11), callq (c (.fn 86 [])) [t 9, t 10], none⟩, ⟨(some 12), bin .and (t 8) (t 11), none⟩, ⟨(some 13), bin .neq (t 12) (c (.int .u32 0)), none⟩, ⟨(some 6), mv (t 13), none⟩]) (ret))
def r_impl_Graph_has : List ARes := [.tmp 6]
theorem k_impl_Graph_has : acLin Go.Proofs.Tryd.prog 91 3 (inQ [86] []) [⟨false, none, [], [], none⟩, ⟨false, some [0, 1, 2, 3, 4, 5, 6, 7], [], [], none⟩] = some (c_impl_Graph_has, r_impl_Graph_has) := by kernel_rfl
def c_impl_Graph_opposite_1 : AC := seq (reg [⟨(some 5), mv (c (.bool false)), none⟩]) (seq (reg [⟨(some 6), ld (t 2) 2 true, none⟩, ⟨(some 7), mv (t 0), none⟩, ⟨(some 8), mv (t 1), none⟩, ⟨(some 9), callq (c (.fn 91 [])) [t 6, t 7, t 8], none⟩, ⟨(some 10), un .not (t 9), none⟩, ⟨(some 5), mv (t 10), none⟩]) (ret))
def r_impl_Graph_opposite_1 : List ARes := [.tmp 5]
theorem k_impl_Graph_opposite_1 : acLin Go.Proofs.Tryd.prog 127 3 (inQ [91] []) [] = some (c_impl_Graph_opposite_1, r_impl_Graph_opposite_1) := by kernel_rfl
def c_impl_Graph_opposite : AC := seq (reg [⟨(some 1), box 2 (t 0), none⟩, ⟨(some 2), alloc [.int .i64 0, .int .u32 0], none⟩]) (seq (reg [⟨(some 3), fad (t 1) 0, none⟩, ⟨(some 4), ld (t 3) 1 false, none⟩, ⟨(some 5), mkf 127 [t 1], none⟩, ⟨(some 6), calle (c (.fn 126 [])) [t 4, t 5] [], none⟩, ⟨none, st (t 2) 2 (t 6), none⟩]) (ret))
def r_impl_Graph_opposite : List ARes := [.cell 2 2 true]
theorem k_impl_Graph_opposite : acLin Go.Proofs.Tryd.prog 89 1 (inQ [] [126]) [] = some (c_impl_Graph_opposite, r_impl_Graph_opposite) := by kernel_rfl
end Go.Proofs.YtgophedkejgedaaDoorAi
end

section
/- Contracts: edges of graphs; opposite graphs; copies of lists. -/
namespace Go.Proofs.YtgophedkejgedaaDoorAi
open Go Go.RowKit
set_option linter.unusedVariables false
set_option linter.unusedSimpArgs false
set_option maxRecDepth 20000

theorem andBit0 {a c : Nat} (ha : a < 4294967296) (hc : c < 1024) : IntKind.u32.wrap ((a % 2 ^ IntKind.u32.bits &&& ((c : Int) % 2 ^ IntKind.u32.bits).toNat : Nat)) = ((a &&& c : Nat) : Int) := by
  have e1 : a % 2 ^ IntKind.u32.bits = a := Nat.mod_eq_of_lt (by simp only [IntKind.bits]; omega)
  have e2 : ((c : Int) % 2 ^ IntKind.u32.bits).toNat = c := by
    rw [Int.emod_eq_of_lt (by omega) (by simp only [IntKind.bits]; omega)]
    simp
  rw [e1, e2]
  have : a &&& c ≤ c := Nat.and_le_right
  exact wrap32 (by omega) (by omega)
theorem and_pow (a b : Nat) : a &&& 2 ^ b = if a.testBit b = true then 2 ^ b else 0 := by
  apply Nat.eq_of_testBit_eq
  intro k
  rw [Nat.testBit_and, Nat.testBit_two_pow]
  by_cases h : b = k
  · subst h
    cases a.testBit b <;> simp
  · cases a.testBit b <;> simp [h, Nat.testBit_two_pow]
theorem andBit {a b : Nat} (ha : a < 4294967296) (hb : b < 10) : IntKind.u32.wrap ((a % 2 ^ IntKind.u32.bits &&& ((2 : Int) ^ b % 2 ^ IntKind.u32.bits).toNat : Nat)) = if a.testBit b = true then ((2 ^ b : Nat) : Int) else 0 := by
  have e : (2 : Int) ^ b = ((2 ^ b : Nat) : Int) := by simp
  rw [e, andBit0 ha (Nat.pow_lt_pow_right (n := 10) (by omega) hb), and_pow]
  cases a.testBit b <;> simp
theorem bitI_10 {i j : Nat} (hi : i < 5) (hj : j < 5) (h : i ≠ j) : bitI i j < 10 := by
  rcases Nat.lt_or_gt_of_ne h with h | h
  · exact bitI_lt h hj
  · rw [bitI_c]; exact bitI_lt h hi

def hasB (e i j : Int) : Bool := e.toNat.testBit (bitI i.toNat j.toNat)
def vx (i j : Int) : Prop := (0 ≤ i ∧ i < 5) ∧ (0 ≤ j ∧ j < 5) ∧ i ≠ j
noncomputable def sp_has : List AV → Option (AV) := pf (ι := (Int) × (Int) × (Int) × (Int)) (α := AV) (fun ⟨n, e, i, j⟩ => (0 ≤ e ∧ e ≤ 4294967295) ∧ vx i j) (fun ⟨n, e, i, j⟩ => [.agg [.int .i64 n, .int .u32 e], .int .i64 i, .int .i64 j]) (fun ⟨n, e, i, j⟩ => .bool (hasB e i j))
theorem sp_has_eq (n e i j : Int) (h : (0 ≤ e ∧ e ≤ 4294967295) ∧ vx i j) : sp_has [.agg [.int .i64 n, .int .u32 e], .int .i64 i, .int .i64 j] = some (.bool (hasB e i j)) := by
  unfold sp_has
  exact pf_eq (ι := (Int) × (Int) × (Int) × (Int)) (α := AV) (n, e, i, j) h (by rintro ⟨n', e', i', j'⟩ _ e; simp_all [Int.natCast_inj])
theorem q_impl_Graph_has : QP PP 91 sp_has := by
  refine QP_pf (fun i h => ?_) fun i h => ?_
  · obtain ⟨n, e, i, j⟩ := i; exact ⟨by first | rfl | simp, by first | rfl | simp⟩
  obtain ⟨n, e, i, j⟩ := i
  replace h : (0 ≤ e ∧ e ≤ 4294967295) ∧ vx i j := h
  refine P_code (Quiet.q1 q_impl_bit Quiet.nil) hmix k_impl_Graph_has rfl ?_ ?_
  · first | rfl | simp
  show wpc 0 PP _ c_impl_Graph_has (initSt [.agg [.int .i64 n, .int .u32 e], .int .i64 i, .int .i64 j] .nil) (endP r_impl_Graph_has (.bool (hasB e i j)))
  obtain ⟨⟨e0, e1⟩, ⟨i0, i1⟩, ⟨j0, j1⟩, hij⟩ := h
  obtain ⟨m, rfl⟩ := Int.eq_ofNat_of_zero_le e0
  have hb := andBit (a := m) (b := bitI i.toNat j.toNat) (by omega) (bitI_10 (by omega) (by omega) (by omega))
  simp -dsimp -implicitDefEqProofs [c_impl_Graph_has, r_impl_Graph_has, sp_bit_eq i j (by omega), hb, hasB]
  have hp : (2 : Int) ^ bitI i.toNat j.toNat ≠ 0 := Int.pow_ne_zero (by omega)
  cases m.testBit (bitI i.toNat j.toNat) <;> simp [hp]

def notE (e : Int) (n : Int) : Nat := madeE (fun i j => !hasB e i j) n.toNat
noncomputable def sp_opp1 : List (Option (List AV)) → List AV → Option (AV × List (Option (List AV))) := pv (pf (ι := (Int) × (Int) × (Int) × (Int)) (α := AV × List (Option (List AV))) (fun ⟨n, e, i, j⟩ => (0 ≤ e ∧ e ≤ 4294967295) ∧ vx i j) (fun i => .agg (((fun ⟨n, e, i, j⟩ => [some [.int .i64 n, .int .u32 e]] : (Int) × (Int) × (Int) × (Int) → List (Option (List AV))) i).map enO) :: (fun ⟨n, e, i, j⟩ => [.int .i64 i, .int .i64 j, .ptr 0 0] : (Int) × (Int) × (Int) × (Int) → List AV) i) (fun ⟨n, e, i, j⟩ => (.bool (!hasB e i j), [some [.int .i64 n, .int .u32 e]])))
theorem sp_opp1_eq (n e i j : Int) (h : (0 ≤ e ∧ e ≤ 4294967295) ∧ vx i j) : sp_opp1 [some [.int .i64 n, .int .u32 e]] [.int .i64 i, .int .i64 j, .ptr 0 0] = some (.bool (!hasB e i j), [some [.int .i64 n, .int .u32 e]]) := by
  unfold sp_opp1 pv
  exact pf_eq (ι := (Int) × (Int) × (Int) × (Int)) (α := AV × List (Option (List AV))) (n, e, i, j) h (by rintro ⟨n', e', i', j'⟩ _ e; simp_all [enO, Int.natCast_inj])
theorem v_impl_Graph_opposite_1 : QV PP 127 sp_opp1 := by
  refine QV_pf fun i h => ?_
  obtain ⟨n, e, i, j⟩ := i
  replace h : (0 ≤ e ∧ e ≤ 4294967295) ∧ vx i j := h
  refine H_code (Quiet.q1 q_impl_Graph_has Quiet.nil) hmix k_impl_Graph_opposite_1 rfl (fun b => b) (by simp [AHeap.n]) (fun _ _ => rfl) (by rfl) (by first | rfl | simp) ?_
  show wpc _ PP _ c_impl_Graph_opposite_1 (initSt [.int .i64 i, .int .i64 j, .ptr 0 0] ⟨[some [.int .i64 n, .int .u32 e]]⟩) (endH (fun b => b) r_impl_Graph_opposite_1 (.bool (!hasB e i j)) [some [.int .i64 n, .int .u32 e]])
  simp -dsimp -implicitDefEqProofs [c_impl_Graph_opposite_1, r_impl_Graph_opposite_1, sp_has_eq n e i j h, hsub]
theorem e_made_opp : QE PP 126 (spMade 127 (spV sp_opp1)) := QE_made v_impl_Graph_opposite_1.toE
noncomputable def sp_opp : List AV → Option (AV) := pf (ι := (Int) × (Int)) (α := AV) (fun ⟨n, e⟩ => (0 ≤ n ∧ n ≤ 5) ∧ (0 ≤ e ∧ e ≤ 4294967295)) (fun ⟨n, e⟩ => [.agg [.int .i64 n, .int .u32 e]]) (fun ⟨n, e⟩ => .agg [.int .i64 n, .int .u32 (notE e n)])
theorem sp_opp_eq (n e : Int) (h : (0 ≤ n ∧ n ≤ 5) ∧ (0 ≤ e ∧ e ≤ 4294967295)) : sp_opp [.agg [.int .i64 n, .int .u32 e]] = some (.agg [.int .i64 n, .int .u32 (notE e n)]) := by
  unfold sp_opp
  exact pf_eq (ι := (Int) × (Int)) (α := AV) (n, e) h (by rintro ⟨n', e'⟩ _ e; simp_all [Int.natCast_inj])
theorem q_impl_Graph_opposite : QP PP 89 sp_opp := by
  refine QP_pf (fun i h => ?_) fun i h => ?_
  · obtain ⟨n, e⟩ := i; exact ⟨by first | rfl | simp, by first | rfl | simp⟩
  obtain ⟨n, e⟩ := i
  replace h : (0 ≤ n ∧ n ≤ 5) ∧ (0 ≤ e ∧ e ≤ 4294967295) := h
  refine P_code (Quiet.e1 e_made_opp Quiet.nil) hmix k_impl_Graph_opposite rfl ?_ ?_
  · first | rfl | simp
  show wpc 0 PP _ c_impl_Graph_opposite (initSt [.agg [.int .i64 n, .int .u32 e]] .nil) (endP r_impl_Graph_opposite (.agg [.int .i64 n, .int .u32 (notE e n)]))
  have hm := spMade_eq (g := 127) (sp := spV sp_opp1) (n := n) (caps := [.ptr 0 0]) (A := ⟨[some [.int .i64 n, .int .u32 e], some [.int .i64 0, .int .u32 0]]⟩) (fun i j => !hasB e i j) h.1 (fun i j hi hj => by
    have := sp_opp1_eq n e i j ⟨h.2, by unfold vx; omega⟩
    simp [this])
  simp -dsimp -implicitDefEqProofs [c_impl_Graph_opposite, r_impl_Graph_opposite, hm, notE]
end Go.Proofs.YtgophedkejgedaaDoorAi
end

section
/- MADE BY PROGRAM (wip/tools/gen.py): the abstract code of functions. -/
namespace Go.Proofs.YtgophedkejgedaaDoorAi
open Go AC AOp Opd
set_option linter.unusedVariables false
set_option maxRecDepth 100000
def c_impl_sizeOk : AC := seq (reg [⟨(some 2), mv (c (.bool false)), none⟩]) (seq (reg [⟨(some 3), mv (t 0), none⟩, ⟨(some 4), callq (c (.fn 62 [])) [t 3, c (.int .i64 0), c (.int .i64 5)], none⟩, ⟨(some 2), mv (t 4), none⟩]) (ret))
def r_impl_sizeOk : List ARes := [.tmp 2]
theorem k_impl_sizeOk : acLin Go.Proofs.Tryd.prog 82 1 (inQ [62] []) [] = some (c_impl_sizeOk, r_impl_sizeOk) := by kernel_rfl
def c_spec_l01Bit : AC := seq (reg [⟨(some 4), mv (c (.int .u32 0)), none⟩]) (seq (seq (reg [⟨(some 5), mv (t 0), none⟩, ⟨(some 6), mv (t 1), none⟩, ⟨(some 7), bin .gtr (t 5) (t 6), none⟩]) (cond (t 7) (seq (reg [⟨(some 8), mv (t 1), none⟩, ⟨(some 9), mv (t 0), none⟩, ⟨(some 10), callq (c (.fn 156 [])) [t 8, t 9], none⟩, ⟨(some 4), mv (t 10), none⟩]) (ret)) (skip))) (seq (reg [⟨(some 11), mv (t 1), none⟩, ⟨(some 12), callq (c (.fn 123 [])) [t 11], none⟩, ⟨(some 13), mv (t 0), none⟩, ⟨(some 14), bin .add (t 12) (t 13), none⟩, ⟨(some 15), conv .u64 (t 14), none⟩, ⟨(some 16), bin .shl (c (.int .u32 1)) (t 15), none⟩, ⟨(some 4), mv (t 16), none⟩]) (ret)))
def r_spec_l01Bit : List ARes := [.tmp 4]
theorem k_spec_l01Bit : acLin Go.Proofs.Tryd.prog 156 2 (inQ [123, 156] []) [] = some (c_spec_l01Bit, r_spec_l01Bit) := by kernel_rfl
def c_spec_l01Joined : AC := seq (reg [⟨(some 3), box 2 (t 0), none⟩, ⟨(some 6), mv (c (.bool false)), none⟩]) (seq (reg [⟨(some 7), mv (t 1), none⟩, ⟨(some 8), mv (t 2), none⟩, ⟨(some 9), bin .neq (t 7) (t 8), none⟩, ⟨(some 10), mv (t 9), none⟩, ⟨(some 11), fad (t 3) 1, some (10, true)⟩, ⟨(some 12), ld (t 11) 1 false, some (10, true)⟩, ⟨(some 13), mv (t 1), some (10, true)⟩, ⟨(some 14), mv (t 2), some (10, true)⟩, ⟨(some 15), callq (c (.fn 156 [])) [t 13, t 14], some (10, true)⟩, ⟨(some 16), bin .and (t 12) (t 15), some (10, true)⟩, ⟨(some 17), bin .neq (t 16) (c (.int .u32 0)), some (10, true)⟩, ⟨(some 18), pick (t 10) (t 17) (c (.bool false)), none⟩, ⟨(some 6), mv (t 18), none⟩]) (ret))
def r_spec_l01Joined : List ARes := [.tmp 6]
theorem k_spec_l01Joined : acLin Go.Proofs.Tryd.prog 155 3 (inQ [156] []) [⟨false, none, [], [], none⟩, ⟨false, some [0, 1, 2, 3, 4, 5, 6, 7, 8, 9, 10, 11, 12], [], [], none⟩] = some (c_spec_l01Joined, r_spec_l01Joined) := by kernel_rfl
end Go.Proofs.YtgophedkejgedaaDoorAi
end
