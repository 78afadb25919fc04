/- Contracts, joined. -/
import Derived.Test.YtgophedkejgedaaDoorMfe2
import Derived.Test.YtgophedkejgedaaDoorAiX
import Derived.Test.YtgophedkejgedaaDoorProg
import Derived.Test.YtgophedkejgedaaDoorShelfB
section
/- Contracts: joined parts of patterns. (Under way.) -/
namespace Go.Proofs.YtgophedkejgedaaDoorAi
open Go Go.RowKit
set_option linter.unusedVariables false
set_option linter.unusedSimpArgs false
set_option maxRecDepth 20000

noncomputable def sp_sizeOk : List AV → Option (AV) := pf (ι := (Int)) (α := AV) (fun n => True) (fun n => [.int .i64 n]) (fun n => .bool (decide (0 ≤ n) && decide (n ≤ 5)))
theorem sp_sizeOk_eq (n : Int) : sp_sizeOk [.int .i64 n] = some (.bool (decide (0 ≤ n) && decide (n ≤ 5))) := by
  unfold sp_sizeOk
  exact pf_eq (ι := (Int)) (α := AV) n trivial (by rintro n' _ e; simp_all [Int.natCast_inj])
attribute [simp] sp_sizeOk_eq
theorem q_impl_sizeOk : QP PP 82 sp_sizeOk := by
  refine QP_pf (fun n h => ?_) fun n h => ?_
  · exact ⟨by first | rfl | simp, by first | rfl | simp⟩
  replace h : True := h
  refine P_code (Quiet.q1 q_impl_in Quiet.nil) hmix k_impl_sizeOk rfl ?_ ?_
  · first | rfl | simp
  show wpc 0 PP _ c_impl_sizeOk (initSt [.int .i64 n] .nil) (endP r_impl_sizeOk (.bool (decide (0 ≤ n) && decide (n ≤ 5))))
  simp -dsimp -implicitDefEqProofs [c_impl_sizeOk, r_impl_sizeOk]
theorem shrBit {l i : Nat} (hl : l < 4294967296) (hi : i < 5) : (IntKind.u32.wrap ((((l : Int).fdiv (2 ^ min i IntKind.u32.bits) % 2 ^ IntKind.u32.bits).toNat &&& 1 % 2 ^ IntKind.u32.bits : Nat)) == 1) = l.testBit i := by
  have e0 : min i IntKind.u32.bits = i := Nat.min_eq_left (by simp only [IntKind.bits]; omega)
  have e1 : (2 : Int) ^ i = ((2 ^ i : Nat) : Int) := by simp
  have hq : l / 2 ^ i ≤ l := Nat.div_le_self _ _
  have e2 : ((l : Int).fdiv (2 ^ i) % 2 ^ IntKind.u32.bits).toNat = l / 2 ^ i := by
    rw [e1]
    generalize 2 ^ i = c at hq
    rw [Int.fdiv_eq_ediv_of_nonneg _ (Int.natCast_nonneg c), ← Int.natCast_ediv]
    generalize l / c = d at hq
    rw [Int.emod_eq_of_lt (by omega) (by simp only [IntKind.bits]; omega)]
    simp
  rw [e0, e2, show (1 : Nat) % 2 ^ IntKind.u32.bits = 1 from rfl, Nat.and_one_is_mod, wrap32 (by omega) (by omega), Nat.testBit_eq_decide_div_mod_eq]
  generalize l / 2 ^ i = d
  rw [Bool.eq_iff_iff, beq_iff_eq, decide_eq_true_eq]
  omega
def loopB (l i : Int) : Bool := l.toNat.testBit i.toNat
noncomputable def sp_loopP : List (Option (List AV)) → List AV → Option (AV × List (Option (List AV))) := pv (pf (ι := (Int) × (Int) × (Int) × (List Fr) × (Int)) (α := AV × List (Option (List AV))) (fun ⟨n, e, l, ps, i⟩ => (0 ≤ l ∧ l ≤ 4294967295) ∧ (0 ≤ i ∧ i < 5)) (fun i => .agg (((fun ⟨n, e, l, ps, i⟩ => [some [.int .i64 n, .int .u32 e, .int .u32 l, .sl (frsA ps) false]] : (Int) × (Int) × (Int) × (List Fr) × (Int) → List (Option (List AV))) i).map enO) :: (fun ⟨n, e, l, ps, i⟩ => [.ptr 0 0, .int .i64 i] : (Int) × (Int) × (Int) × (List Fr) × (Int) → List AV) i) (fun ⟨n, e, l, ps, i⟩ => (.bool (loopB l i), [some [.int .i64 n, .int .u32 e, .int .u32 l, .sl (frsA ps) false]])))
theorem sp_loopP_eq (n e l : Int) (ps : List Fr) (i : Int) (h : (0 ≤ l ∧ l ≤ 4294967295) ∧ (0 ≤ i ∧ i < 5)) : sp_loopP [some [.int .i64 n, .int .u32 e, .int .u32 l, .sl (frsA ps) false]] [.ptr 0 0, .int .i64 i] = some (.bool (loopB l i), [some [.int .i64 n, .int .u32 e, .int .u32 l, .sl (frsA ps) false]]) := by
  unfold sp_loopP pv
  exact pf_eq (ι := (Int) × (Int) × (Int) × (List Fr) × (Int)) (α := AV × List (Option (List AV))) (n, e, l, ps, i) h (by rintro ⟨n', e', l', ps', i'⟩ _ e; simp_all [enO, Int.natCast_inj])
def joinB (e l i j : Int) : Bool := if i = j then loopB l i else hasB e i j
noncomputable def sp_joinP : List (Option (List AV)) → List AV → Option (AV × List (Option (List AV))) := pv (pf (ι := (Int) × (Int) × (Int) × (List Fr) × (Int) × (Int)) (α := AV × List (Option (List AV))) (fun ⟨n, e, l, ps, i, j⟩ => ((0 ≤ e ∧ e ≤ 4294967295) ∧ (0 ≤ l ∧ l ≤ 4294967295)) ∧ (0 ≤ i ∧ i < 5) ∧ (0 ≤ j ∧ j < 5)) (fun i => .agg (((fun ⟨n, e, l, ps, i, j⟩ => [some [.int .i64 n, .int .u32 e, .int .u32 l, .sl (frsA ps) false]] : (Int) × (Int) × (Int) × (List Fr) × (Int) × (Int) → List (Option (List AV))) i).map enO) :: (fun ⟨n, e, l, ps, i, j⟩ => [.ptr 0 0, .int .i64 i, .int .i64 j] : (Int) × (Int) × (Int) × (List Fr) × (Int) × (Int) → List AV) i) (fun ⟨n, e, l, ps, i, j⟩ => (.bool (joinB e l i j), [some [.int .i64 n, .int .u32 e, .int .u32 l, .sl (frsA ps) false]])))
theorem sp_joinP_eq (n e l : Int) (ps : List Fr) (i j : Int) (h : ((0 ≤ e ∧ e ≤ 4294967295) ∧ (0 ≤ l ∧ l ≤ 4294967295)) ∧ (0 ≤ i ∧ i < 5) ∧ (0 ≤ j ∧ j < 5)) : sp_joinP [some [.int .i64 n, .int .u32 e, .int .u32 l, .sl (frsA ps) false]] [.ptr 0 0, .int .i64 i, .int .i64 j] = some (.bool (joinB e l i j), [some [.int .i64 n, .int .u32 e, .int .u32 l, .sl (frsA ps) false]]) := by
  unfold sp_joinP pv
  exact pf_eq (ι := (Int) × (Int) × (Int) × (List Fr) × (Int) × (Int)) (α := AV × List (Option (List AV))) (n, e, l, ps, i, j) h (by rintro ⟨n', e', l', ps', i', j'⟩ _ e; simp_all [enO, Int.natCast_inj])
end Go.Proofs.YtgophedkejgedaaDoorAi
end

section
/- Contracts: joined vertices, as the reference has them. (Under way.) -/
namespace Go.Proofs.YtgophedkejgedaaDoorAi
open Go Go.RowKit
set_option linter.unusedVariables false
set_option linter.unusedSimpArgs false
set_option maxRecDepth 20000

/-- A contract that says nothing: for a call that does not come. -/
theorem QP.none (P : Program) (f : FuncId) : QP P f (fun _ => Option.none) := fun _ _ h => by cases h
noncomputable def sp_bitLe : List AV → Option (AV) := pf (ι := (Int) × (Int)) (α := AV) (fun ⟨i, j⟩ => (0 ≤ i ∧ i ≤ 5) ∧ (0 ≤ j ∧ j ≤ 5) ∧ i ≤ j) (fun ⟨i, j⟩ => [.int .i64 i, .int .i64 j]) (fun ⟨i, j⟩ => .int .u32 (2 ^ bitI i.toNat j.toNat))
theorem sp_bitLe_eq (i j : Int) (h : (0 ≤ i ∧ i ≤ 5) ∧ (0 ≤ j ∧ j ≤ 5) ∧ i ≤ j) : sp_bitLe [.int .i64 i, .int .i64 j] = some (.int .u32 (2 ^ bitI i.toNat j.toNat)) := by
  unfold sp_bitLe
  exact pf_eq (ι := (Int) × (Int)) (α := AV) (i, j) h (by rintro ⟨i', j'⟩ _ e; simp_all [Int.natCast_inj])
theorem q_bitLe : QP PP 156 sp_bitLe := by
  refine QP_pf (fun i h => ?_) fun i h => ?_
  · obtain ⟨i, j⟩ := i; exact ⟨rfl, rfl⟩
  obtain ⟨i, j⟩ := i
  replace h : (0 ≤ i ∧ i ≤ 5) ∧ (0 ≤ j ∧ j ≤ 5) ∧ i ≤ j := h
  refine P_code (Quiet.q1 (QP.none PP 156) (Quiet.q1 q_spec_l01Bits Quiet.nil)) hmix k_spec_l01Bit rfl rfl ?_
  obtain ⟨⟨i0, i1⟩, ⟨j0, j1⟩, hij⟩ := h
  have hj : j = 0 ∨ j = 1 ∨ j = 2 ∨ j = 3 ∨ j = 4 ∨ j = 5 := by omega
  have hi : i = 0 ∨ i = 1 ∨ i = 2 ∨ i = 3 ∨ i = 4 ∨ i = 5 := by omega
  rcases hi with rfl | rfl | rfl | rfl | rfl | rfl <;> rcases hj with rfl | rfl | rfl | rfl | rfl | rfl <;> first | (exfalso; omega) | simp -dsimp -implicitDefEqProofs [c_spec_l01Bit, r_spec_l01Bit, sp_pairs_eq, pI0, pI1, pI2, pI3, pI4, pI5, bitI, IntKind.wrap, IntKind.bits, IntKind.signed]
theorem q_spec_l01Bit : QP PP 156 sp_bit := by
  refine QP_pf (fun i h => ?_) fun i h => ?_
  · obtain ⟨i, j⟩ := i; exact ⟨rfl, rfl⟩
  obtain ⟨i, j⟩ := i
  replace h : (0 ≤ i ∧ i ≤ 5) ∧ (0 ≤ j ∧ j ≤ 5) := h
  by_cases hij : i ≤ j
  · exact (q_bitLe _ _ (sp_bitLe_eq i j ⟨h.1, h.2, hij⟩)).2
  · refine P_code (Quiet.q1 q_bitLe (Quiet.q1 q_spec_l01Bits Quiet.nil)) hmix k_spec_l01Bit rfl rfl ?_
    have hlt : j < i := by omega
    simp -dsimp -implicitDefEqProofs [c_spec_l01Bit, r_spec_l01Bit, hlt, sp_bitLe_eq j i ⟨h.2, h.1, by omega⟩, bitI_c (i := j.toNat) (j := i.toNat)]
def joinedB (e i j : Int) : Bool := decide (i ≠ j) && hasB e i j
noncomputable def sp_l01Joined : List AV → Option (AV) := pf (ι := (Int) × (Int) × (Int) × (Int)) (α := AV) (fun ⟨n, e, i, j⟩ => (0 ≤ e ∧ e ≤ 4294967295) ∧ (0 ≤ i ∧ i < 5) ∧ (0 ≤ j ∧ j < 5)) (fun ⟨n, e, i, j⟩ => [.agg [.int .i64 n, .int .u32 e], .int .i64 i, .int .i64 j]) (fun ⟨n, e, i, j⟩ => .bool (joinedB e i j))
theorem sp_l01Joined_eq (n e i j : Int) (h : (0 ≤ e ∧ e ≤ 4294967295) ∧ (0 ≤ i ∧ i < 5) ∧ (0 ≤ j ∧ j < 5)) : sp_l01Joined [.agg [.int .i64 n, .int .u32 e], .int .i64 i, .int .i64 j] = some (.bool (joinedB e i j)) := by
  unfold sp_l01Joined
  exact pf_eq (ι := (Int) × (Int) × (Int) × (Int)) (α := AV) (n, e, i, j) h (by rintro ⟨n', e', i', j'⟩ _ e; simp_all [Int.natCast_inj])
theorem q_spec_l01Joined : QP PP 155 sp_l01Joined := by
  refine QP_pf (fun i h => ?_) fun i h => ?_
  · obtain ⟨n, e, i, j⟩ := i; exact ⟨by first | rfl | simp, by first | rfl | simp⟩
  obtain ⟨n, e, i, j⟩ := i
  replace h : (0 ≤ e ∧ e ≤ 4294967295) ∧ (0 ≤ i ∧ i < 5) ∧ (0 ≤ j ∧ j < 5) := h
  refine P_code (Quiet.q1 q_spec_l01Bit Quiet.nil) hmix k_spec_l01Joined rfl ?_ ?_
  · first | rfl | simp
  show wpc 0 PP _ c_spec_l01Joined (initSt [.agg [.int .i64 n, .int .u32 e], .int .i64 i, .int .i64 j] .nil) (endP r_spec_l01Joined (.bool (joinedB e i j)))
  obtain ⟨⟨e0, e1⟩, ⟨i0, i1⟩, ⟨j0, j1⟩⟩ := h
  by_cases hij : i = j
  · subst hij
    simp -dsimp -implicitDefEqProofs [c_spec_l01Joined, r_spec_l01Joined, joinedB]
  · obtain ⟨m, rfl⟩ := Int.eq_ofNat_of_zero_le e0
    have hb := andBit (a := m) (b := bitI i.toNat j.toNat) (by omega) (bitI_10 (by omega) (by omega) (by omega))
    have hn : (i != j) = true := by simpa using hij
    simp -dsimp -implicitDefEqProofs [c_spec_l01Joined, r_spec_l01Joined, hn, sp_bit_eq i j (by omega), hb, joinedB, hasB, hij]
    have hp : (2 : Int) ^ bitI i.toNat j.toNat ≠ 0 := Int.pow_ne_zero (by omega)
    cases m.testBit (bitI i.toNat j.toNat) <;> simp [hp]
end Go.Proofs.YtgophedkejgedaaDoorAi
end

section
/- Contracts: opposite patterns. -/
namespace Go.Proofs.YtgophedkejgedaaDoorAi
open Go Go.RowKit
set_option linter.unusedVariables false
set_option linter.unusedSimpArgs false
set_option maxRecDepth 20000

theorem xorU {a b : Nat} (ha : a < 4294967296) (hb : b < 4294967296) : IntKind.u32.wrap ((((a : Int) % 2 ^ IntKind.u32.bits).toNat ^^^ ((b : Int) % 2 ^ IntKind.u32.bits).toNat : Nat)) = ((a ^^^ b : Nat) : Int) := by
  have e : ∀ c : Nat, c < 4294967296 → ((c : Int) % 2 ^ IntKind.u32.bits).toNat = c := fun c hc => by
    rw [Int.emod_eq_of_lt (by omega) (by simp only [IntKind.bits]; omega)]
    simp
  rw [e a ha, e b hb]
  have := Nat.xor_lt_two_pow (n := 32) (x := a) (y := b) (by omega) (by omega)
  exact wrap32 (by omega) (by omega)
theorem xorN {a b : Nat} (ha : a < 4294967296) (hb : b < 4294967296) : IntKind.u32.wrap ((a % 2 ^ IntKind.u32.bits ^^^ b % 2 ^ IntKind.u32.bits : Nat)) = ((a ^^^ b : Nat) : Int) := by
  rw [Nat.mod_eq_of_lt (by simp only [IntKind.bits]; omega), Nat.mod_eq_of_lt (by simp only [IntKind.bits]; omega)]
  have := Nat.xor_lt_two_pow (n := 32) (x := a) (y := b) (by omega) (by omega)
  exact wrap32 (by omega) (by omega)
theorem graphOk_lt {n e : Int} (h : graphOk n e = true) (he : 0 ≤ e) : (0 ≤ n ∧ n ≤ 5) ∧ e.toNat < 2 ^ (n.toNat * (n.toNat - 1) / 2) := by
  obtain ⟨hn, hlt⟩ := of_decide_eq_true h
  refine ⟨hn, ?_⟩
  obtain ⟨m, rfl⟩ := Int.eq_ofNat_of_zero_le he
  rcases tri_pow hn with rfl | rfl | rfl | rfl | rfl | rfl <;> simp [pI0, pI1, pI2, pI3, pI4, pI5] at hlt ⊢ <;> omega
def oppG (n e : Int) : AV := if graphOk n e = true then .tup [.agg [.int .i64 n, .int .u32 (notE e n)], .int .i64 0] else .tup [.agg [.int .i64 0, .int .u32 0], .int .i64 1]
@[simp] theorem oppG_lt (n e : Int) (k : Nat) : (oppG n e).lt k = true := by unfold oppG; split <;> rfl
noncomputable def sp_oppG : List AV → Option (AV) := pf (ι := (Int) × (Int)) (α := AV) (fun ⟨n, e⟩ => 0 ≤ e ∧ e ≤ 4294967295) (fun ⟨n, e⟩ => [.agg [.int .i64 n, .int .u32 e]]) (fun ⟨n, e⟩ => oppG n e)
theorem sp_oppG_eq (n e : Int) (h : 0 ≤ e ∧ e ≤ 4294967295) : sp_oppG [.agg [.int .i64 n, .int .u32 e]] = some (oppG n e) := by
  unfold sp_oppG
  exact pf_eq (ι := (Int) × (Int)) (α := AV) (n, e) h (by rintro ⟨n', e'⟩ _ e; simp_all [Int.natCast_inj])
noncomputable def sp_l07Copy : List AV → List AV → Option (AV × List (Option (List AV))) := pb (pf (ι := (Int) × (Int) × (Int) × (List Fr)) (α := AV × List (Option (List AV))) (fun ⟨n, e, l, ps⟩ => ps ≠ [] ∧ ps.length ≤ 1048576) (fun i => .agg ((fun ⟨n, e, l, ps⟩ => [.int .i64 n, .int .u32 e, .int .u32 l, .sl (frsA ps) false] : (Int) × (Int) × (Int) × (List Fr) → List AV) i) :: (fun ⟨n, e, l, ps⟩ => [.ptr 0 0] : (Int) × (Int) × (Int) × (List Fr) → List AV) i) (fun ⟨n, e, l, ps⟩ => (.agg [.int .i64 n, .int .u32 e, .int .u32 l, .ref 1 2 0 ps.length .full], [some [.int .i64 n, .int .u32 e, .int .u32 l, .sl (frsA ps) false], some (flatA (frsA ps))])))
theorem sp_l07Copy_eq (n e l : Int) (ps : List Fr) (h : ps ≠ [] ∧ ps.length ≤ 1048576) : sp_l07Copy [.int .i64 n, .int .u32 e, .int .u32 l, .sl (frsA ps) false] [.ptr 0 0] = some (.agg [.int .i64 n, .int .u32 e, .int .u32 l, .ref 1 2 0 ps.length .full], [some [.int .i64 n, .int .u32 e, .int .u32 l, .sl (frsA ps) false], some (flatA (frsA ps))]) := by
  unfold sp_l07Copy pb
  exact pf_eq (ι := (Int) × (Int) × (Int) × (List Fr)) (α := AV × List (Option (List AV))) (n, e, l, ps) h (by rintro ⟨n', e', l', ps'⟩ _ e; simp_all [Int.natCast_inj])
noncomputable def sp_cloneFr : List AV → Option (AV × List (Option (List AV))) := pf (ι := (List Fr)) (α := AV × List (Option (List AV))) (fun ps => ps ≠ [] ∧ ps.length ≤ 1048576) (fun ps => [.sl (frsA ps) false]) (fun ps => (.ref 0 2 0 ps.length .full, [some (flatA (frsA ps))]))
theorem sp_cloneFr_eq (ps : List Fr) (h : ps ≠ [] ∧ ps.length ≤ 1048576) : sp_cloneFr [.sl (frsA ps) false] = some ((.ref 0 2 0 ps.length .full, [some (flatA (frsA ps))])) := by
  unfold sp_cloneFr
  exact pf_eq (ι := (List Fr)) (α := AV × List (Option (List AV))) ps h (by rintro ps' _ e; simp_all [Int.natCast_inj])
end Go.Proofs.YtgophedkejgedaaDoorAi
end

section
/- Contracts: marks in patterns. -/
namespace Go.Proofs.YtgophedkejgedaaDoorAi
open Go Go.RowKit
set_option linter.unusedVariables false
set_option linter.unusedSimpArgs false
set_option maxRecDepth 20000

def kOk (k : Int) : Prop := 0 ≤ k ∧ k ≤ 1099511627776
noncomputable def sp_markFr : List (Option (List AV)) → List AV → Option (AV × List (Option (List AV))) := pv (pf (ι := (List Fr) × (Int) × (Cp)) (α := AV × List (Option (List AV))) (fun ⟨ps, k, t⟩ => kOk k ∧ ps.length ≤ 1048576) (fun i => .agg (((fun ⟨ps, k, t⟩ => [some (flatA (frsA ps))] : (List Fr) × (Int) × (Cp) → List (Option (List AV))) i).map enO) :: (fun ⟨ps, k, t⟩ => [.ref 0 2 0 ps.length t, .int .i64 k] : (List Fr) × (Int) × (Cp) → List AV) i) (fun ⟨ps, k, t⟩ => (.int .i64 (k + 2 * ps.length), [some (flatA (frsA (marksF ps.length k)))])))
theorem sp_markFr_eq (ps : List Fr) (k : Int) (t : Cp) (h : kOk k ∧ ps.length ≤ 1048576) : sp_markFr [some (flatA (frsA ps))] [.ref 0 2 0 ps.length t, .int .i64 k] = some (.int .i64 (k + 2 * ps.length), [some (flatA (frsA (marksF ps.length k)))]) := by
  unfold sp_markFr pv
  exact pf_eq (ι := (List Fr) × (Int) × (Cp)) (α := AV × List (Option (List AV))) (ps, k, t) h (by rintro ⟨ps', k', t'⟩ _ e; simp_all [enO, Int.natCast_inj])
noncomputable def sp_markFr0 : List AV → Option (AV) := pf (ι := (Int)) (α := AV) (fun k => True) (fun k => [.sl [] false, .int .i64 k]) (fun k => .int .i64 k)
theorem sp_markFr0_eq (k : Int) : sp_markFr0 [.sl [] false, .int .i64 k] = some (.int .i64 k) := by
  unfold sp_markFr0
  exact pf_eq (ι := (Int)) (α := AV) k trivial (by rintro k' _ e; simp_all [Int.natCast_inj])
attribute [simp] sp_markFr0_eq
noncomputable def sp_heldFr : List AV → Option (AV) := pf (ι := (Nat) × (Int)) (α := AV) (fun ⟨n, k⟩ => kOk k ∧ n ≤ 1048576) (fun ⟨n, k⟩ => [.sl (frsA (marksF n k)) false, .int .i64 k]) (fun ⟨n, k⟩ => .int .i64 (k + 2 * n))
theorem sp_heldFr_eq (n : Nat) (k : Int) (h : kOk k ∧ n ≤ 1048576) : sp_heldFr [.sl (frsA (marksF n k)) false, .int .i64 k] = some (.int .i64 (k + 2 * n)) := by
  unfold sp_heldFr
  exact pf_eq (ι := (Nat) × (Int)) (α := AV) (n, k) h (by rintro ⟨n', k'⟩ _ e; simp_all [Int.natCast_inj])
noncomputable def sp_markPat : List (Option (List AV)) → List AV → Option (AV × List (Option (List AV))) := pv (pf (ι := (Int) × (Int) × (Int) × (List Fr) × (Int) × (Cp)) (α := AV × List (Option (List AV))) (fun ⟨a, b, c, ps, k, t⟩ => kOk k ∧ ps.length ≤ 1048576) (fun i => .agg (((fun ⟨a, b, c, ps, k, t⟩ => [some (flatA (frsA ps))] : (Int) × (Int) × (Int) × (List Fr) × (Int) × (Cp) → List (Option (List AV))) i).map enO) :: (fun ⟨a, b, c, ps, k, t⟩ => [.agg [.int .i64 a, .int .u32 b, .int .u32 c, .ref 0 2 0 ps.length t], .int .i64 k] : (Int) × (Int) × (Int) × (List Fr) × (Int) × (Cp) → List AV) i) (fun ⟨a, b, c, ps, k, t⟩ => (.int .i64 (k + 2 * ps.length), [some (flatA (frsA (marksF ps.length k)))])))
theorem sp_markPat_eq (a b c : Int) (ps : List Fr) (k : Int) (t : Cp) (h : kOk k ∧ ps.length ≤ 1048576) : sp_markPat [some (flatA (frsA ps))] [.agg [.int .i64 a, .int .u32 b, .int .u32 c, .ref 0 2 0 ps.length t], .int .i64 k] = some (.int .i64 (k + 2 * ps.length), [some (flatA (frsA (marksF ps.length k)))]) := by
  unfold sp_markPat pv
  exact pf_eq (ι := (Int) × (Int) × (Int) × (List Fr) × (Int) × (Cp)) (α := AV × List (Option (List AV))) (a, b, c, ps, k, t) h (by rintro ⟨a', b', c', ps', k', t'⟩ _ e; simp_all [enO, Int.natCast_inj])
noncomputable def sp_markPat0 : List AV → Option (AV) := pf (ι := (Int) × (Int) × (Int) × (Int)) (α := AV) (fun ⟨a, b, c, k⟩ => True) (fun ⟨a, b, c, k⟩ => [.agg [.int .i64 a, .int .u32 b, .int .u32 c, .sl [] false], .int .i64 k]) (fun ⟨a, b, c, k⟩ => .int .i64 k)
theorem sp_markPat0_eq (a b c k : Int) : sp_markPat0 [.agg [.int .i64 a, .int .u32 b, .int .u32 c, .sl [] false], .int .i64 k] = some (.int .i64 k) := by
  unfold sp_markPat0
  exact pf_eq (ι := (Int) × (Int) × (Int) × (Int)) (α := AV) (a, b, c, k) trivial (by rintro ⟨a', b', c', k'⟩ _ e; simp_all [Int.natCast_inj])
attribute [simp] sp_markPat0_eq
noncomputable def sp_heldPat : List AV → Option (AV) := pf (ι := (Int) × (Int) × (Int) × (Nat) × (Int)) (α := AV) (fun ⟨a, b, c, n, k⟩ => kOk k ∧ n ≤ 1048576) (fun ⟨a, b, c, n, k⟩ => [.agg [.int .i64 a, .int .u32 b, .int .u32 c, .sl (frsA (marksF n k)) false], .int .i64 k]) (fun ⟨a, b, c, n, k⟩ => .int .i64 (k + 2 * n))
theorem sp_heldPat_eq (a b c : Int) (n : Nat) (k : Int) (h : kOk k ∧ n ≤ 1048576) : sp_heldPat [.agg [.int .i64 a, .int .u32 b, .int .u32 c, .sl (frsA (marksF n k)) false], .int .i64 k] = some (.int .i64 (k + 2 * n)) := by
  unfold sp_heldPat
  exact pf_eq (ι := (Int) × (Int) × (Int) × (Nat) × (Int)) (α := AV) (a, b, c, n, k) h (by rintro ⟨a', b', c', n', k'⟩ _ e; simp_all [Int.natCast_inj])
end Go.Proofs.YtgophedkejgedaaDoorAi
end

section
/- Contracts: the pattern of opposite graphs. -/
namespace Go.Proofs.YtgophedkejgedaaDoorAi
open Go Go.RowKit
set_option linter.unusedVariables false
set_option linter.unusedSimpArgs false
set_option maxRecDepth 20000

def oppR (n e l : Int) (ps : List Fr) : AV × List (Option (List AV)) :=
  if patOk n e l ps = true then (.tup [.agg [.int .i64 n, .int .u32 (notE e n), .int .u32 (2 ^ n.toNat - 1 - l), .ref 0 2 0 ps.length .full], .int .i64 0], [some (flatA (frsA ps))])
  else (noPat 1, [])
theorem xor_ones {w l : Nat} (h : l < 2 ^ w) : (2 ^ w - 1) ^^^ l = 2 ^ w - 1 - l := by
  have h1 : (BitVec.allOnes w ^^^ BitVec.ofNat w l).toNat = (~~~(BitVec.ofNat w l)).toNat := by rw [BitVec.not_def]
  rw [BitVec.toNat_xor, BitVec.toNat_allOnes, BitVec.toNat_not, BitVec.toNat_ofNat, Nat.mod_eq_of_lt h] at h1
  exact h1
theorem not32 {l : Int} (h0 : 0 ≤ l) (h : l ≤ 4294967295) : IntKind.u32.wrap (((if IntKind.u32.signed = true then -1 else IntKind.u32.max) % 2 ^ IntKind.u32.bits).toNat ^^^ (l % 2 ^ IntKind.u32.bits).toNat : Nat) = 4294967295 - l := by
  obtain ⟨m, rfl⟩ := Int.eq_ofNat_of_zero_le h0
  have e : ((if IntKind.u32.signed = true then -1 else IntKind.u32.max) % 2 ^ IntKind.u32.bits).toNat ^^^ ((m : Int) % 2 ^ IntKind.u32.bits).toNat = (2 ^ 32 - 1) ^^^ m := by
    have e2 : ((m : Int) % 2 ^ IntKind.u32.bits).toNat = m := by
      rw [Int.emod_eq_of_lt (by omega) (by simp only [IntKind.bits]; omega)]
      simp
    rw [e2]
    rfl
  rw [e, xor_ones (by omega)]
  exact (wrap32 (by omega) (by omega)).trans (by omega)
theorem mask32 {l c : Int} {w : Nat} (hw : w ≤ 4) (hc : c = 2 ^ w - 1) (h0 : 0 ≤ l) (h : l < 2 ^ w) : IntKind.u32.wrap (((4294967295 - l) % 2 ^ IntKind.u32.bits).toNat &&& (c % 2 ^ IntKind.u32.bits).toNat : Nat) = 2 ^ w - 1 - l := by
  obtain ⟨m, rfl⟩ := Int.eq_ofNat_of_zero_le h0
  subst hc
  have h5 : w = 0 ∨ w = 1 ∨ w = 2 ∨ w = 3 ∨ w = 4 := by omega
  have e : ((4294967295 - (m : Int)) % 2 ^ IntKind.u32.bits).toNat = 4294967295 - m := by
    have : m < 16 := by rcases h5 with rfl | rfl | rfl | rfl | rfl <;> omega
    rw [Int.emod_eq_of_lt (by omega) (by simp only [IntKind.bits]; omega)]
    omega
  rw [e]
  have key : ∀ w : Nat, w ≤ 4 → ∀ m : Nat, m < 2 ^ w → (4294967295 - m) &&& (2 ^ w - 1) = 2 ^ w - 1 - m := by decide
  have hk := key w hw m (by have : ((2 ^ w : Nat) : Int) = 2 ^ w := by simp
                            omega)
  have e2 : (((2 : Int) ^ w - 1) % 2 ^ IntKind.u32.bits).toNat = 2 ^ w - 1 := by rcases h5 with rfl | rfl | rfl | rfl | rfl <;> rfl
  rw [e2, hk]
  rcases h5 with rfl | rfl | rfl | rfl | rfl <;> exact (wrap32 (by omega) (by omega)).trans (by omega)
theorem xorL {l c : Int} {w : Nat} (hw : w ≤ 4) (hc : c = 2 ^ w - 1) (h0 : 0 ≤ l) (h : l < 2 ^ w) : IntKind.u32.wrap ((c % 2 ^ IntKind.u32.bits).toNat ^^^ (l % 2 ^ IntKind.u32.bits).toNat : Nat) = 2 ^ w - 1 - l := by
  obtain ⟨m, rfl⟩ := Int.eq_ofNat_of_zero_le h0
  subst hc
  have h5 : w = 0 ∨ w = 1 ∨ w = 2 ∨ w = 3 ∨ w = 4 := by omega
  have hm : m < 2 ^ w := by have : ((2 ^ w : Nat) : Int) = 2 ^ w := by simp
                            omega
  have e : ((m : Int) % 2 ^ IntKind.u32.bits).toNat = m := by
    have : m < 16 := by rcases h5 with rfl | rfl | rfl | rfl | rfl <;> omega
    rw [Int.emod_eq_of_lt (by omega) (by simp only [IntKind.bits]; omega)]
    simp
  have e2 : (((2 : Int) ^ w - 1) % 2 ^ IntKind.u32.bits).toNat = 2 ^ w - 1 := by rcases h5 with rfl | rfl | rfl | rfl | rfl <;> rfl
  rw [e, e2, xor_ones hm]
  rcases h5 with rfl | rfl | rfl | rfl | rfl <;> exact (wrap32 (by omega) (by omega)).trans (by omega)
theorem patOk_spec {n e l : Int} {ps : List Fr} (h : patOk n e l ps = true) : graphOk n e = true ∧ (1 ≤ n ∧ n ≤ 4) ∧ l < 2 ^ n.toNat ∧ (ps.length : Int) = n ∧ allOk ps = true := by
  simp only [patOk, Bool.and_eq_true, decide_eq_true_eq] at h
  obtain ⟨⟨⟨⟨⟨h1, h2⟩, h3⟩, h4⟩, _⟩, _⟩ := h
  obtain ⟨h5, h6⟩ := of_decide_eq_true h2
  exact ⟨h1, h5, h6, h3, h4⟩
noncomputable def sp_oppP : List AV → Option (AV × List (Option (List AV))) := pf (ι := (Int) × (Int) × (Int) × (List Fr)) (α := AV × List (Option (List AV))) (fun ⟨n, e, l, ps⟩ => (0 ≤ e ∧ e ≤ 4294967295) ∧ (0 ≤ l ∧ l ≤ 4294967295) ∧ ps.length ≤ maxLen) (fun ⟨n, e, l, ps⟩ => [.agg [.int .i64 n, .int .u32 e, .int .u32 l, .sl (frsA ps) false]]) (fun ⟨n, e, l, ps⟩ => oppR n e l ps)
theorem sp_oppP_eq (n e l : Int) (ps : List Fr) (h : (0 ≤ e ∧ e ≤ 4294967295) ∧ (0 ≤ l ∧ l ≤ 4294967295) ∧ ps.length ≤ maxLen) : sp_oppP [.agg [.int .i64 n, .int .u32 e, .int .u32 l, .sl (frsA ps) false]] = some (oppR n e l ps) := by
  unfold sp_oppP
  exact pf_eq (ι := (Int) × (Int) × (Int) × (List Fr)) (α := AV × List (Option (List AV))) (n, e, l, ps) h (by rintro ⟨n', e', l', ps'⟩ _ e; simp_all [Int.natCast_inj])
end Go.Proofs.YtgophedkejgedaaDoorAi
end

section
/- Contracts: lists of numbers; graphs with so many vertices in each part. -/
namespace Go.Proofs.YtgophedkejgedaaDoorAi
open Go Go.RowKit
set_option linter.unusedVariables false
set_option linter.unusedSimpArgs false
set_option maxRecDepth 20000

/-! ### searching in lists -/
def idxF {α : Type} (f : α → Bool) : List α → Nat → Int
  | [], _ => -1
  | x :: r, i => if f x = true then i else idxF f r (i + 1)
theorem idxF_ge {α : Type} (f : α → Bool) : ∀ (l : List α) (i : Nat), decide (0 ≤ idxF f l i) = l.any f
  | [], _ => rfl
  | x :: r, i => by
    rw [idxF, List.any_cons]
    cases hx : f x with
    | true => simp
    | false => simp only [Bool.false_eq_true, if_false, Bool.false_or]; exact idxF_ge f r (i + 1)
theorem hsub_all {os : List (Option (List AV))} (ho : ClosedH os) : hsub (fun b => b) os.length ⟨os⟩ 0 os := by
  have := hsub_pre (r := []) (m := os.length) ho (Nat.le_refl _)
  simpa using this
theorem Sub.pre0 {os : List (Option (List AV))} {t : Nat → AV} {l : List (Nat × AV)} (ho : ClosedH os) (ht : ∀ p ∈ l, p.2.lt os.length = true ∧ t p.1 = p.2) : Sub os.length ⟨t, ⟨os⟩⟩ ⟨tl l, ⟨os⟩⟩ := Sub.keep (Nat.le_refl _) (hsub_all ho) ht
noncomputable def yesI (sp : List AV → AHeap → Option (AV × AHeap)) (caps : List AV) (A : AHeap) (x : Int) : Bool := yesOf sp ([.int .i64 x] ++ caps) A
open Classical in
noncomputable def spIdxI (g : FuncId) (sp : List AV → AHeap → Option (AV × AHeap)) : List AV → AHeap → Option (AV × AHeap)
  | [.sl xs false, .fn g' caps], A => if h : g' = g ∧ ∃ l : List Int, xs = insA l ∧ l.length ≤ maxLen ∧ ∀ x ∈ l, sp ([.int .i64 x] ++ caps) A = some (.bool (yesI sp caps A x), A)
      then some (.int .i64 (idxF (yesI sp caps A) h.2.choose 0), A) else none
  | _, _ => none
theorem spIdxI_eq {g : FuncId} {sp : List AV → AHeap → Option (AV × AHeap)} (f : Int → Bool) {l : List Int} {caps : List AV} {A : AHeap} (hl : l.length ≤ maxLen) (h : ∀ x ∈ l, sp ([.int .i64 x] ++ caps) A = some (.bool (f x), A)) :
    spIdxI g sp [.sl (insA l) false, .fn g caps] A = some (.int .i64 (idxF f l 0), A) := by
  have hy : ∀ x ∈ l, yesI sp caps A x = f x := by
    intro x hx
    unfold yesI yesOf
    rw [h x hx]
  have hc : g = g ∧ ∃ k : List Int, insA l = insA k ∧ k.length ≤ maxLen ∧ ∀ x ∈ k, sp ([.int .i64 x] ++ caps) A = some (.bool (yesI sp caps A x), A) := ⟨rfl, l, rfl, hl, fun x hx => by rw [hy x hx]; exact h x hx⟩
  unfold spIdxI
  dsimp only
  rw [dif_pos hc]
  have e : hc.2.choose = l := (insA_inj.1 hc.2.choose_spec.1).symm
  rw [e]
  have : ∀ (l : List Int) (i : Nat), (∀ x ∈ l, yesI sp caps A x = f x) → idxF (yesI sp caps A) l i = idxF f l i := by
    intro l
    induction l with
    | nil => intro _ _; rfl
    | cons x l ih => intro i h; rw [idxF, idxF, h x (List.mem_cons_self ..), ih _ fun y hy => h y (List.mem_cons_of_mem _ hy)]
  rw [this l 0 hy]
open Classical in
noncomputable def spAnyI (g : FuncId) (sp : List AV → AHeap → Option (AV × AHeap)) : List AV → AHeap → Option (AV × AHeap)
  | [.sl xs false, .fn g' caps], A => if h : g' = g ∧ looseL caps = caps ∧ ∃ l : List Int, xs = insA l ∧ l.length ≤ maxLen ∧ ∀ x ∈ l, sp ([.int .i64 x] ++ caps) A = some (.bool (yesI sp caps A x), A)
      then some (.bool (h.2.2.choose.any (yesI sp caps A)), A) else none
  | _, _ => none
theorem spAnyI_eq {g : FuncId} {sp : List AV → AHeap → Option (AV × AHeap)} (f : Int → Bool) {l : List Int} {caps : List AV} {A : AHeap} (hl : l.length ≤ maxLen) (hcl : looseL caps = caps) (h : ∀ x ∈ l, sp ([.int .i64 x] ++ caps) A = some (.bool (f x), A)) :
    spAnyI g sp [.sl (insA l) false, .fn g caps] A = some (.bool (l.any f), A) := by
  have hy : ∀ x ∈ l, yesI sp caps A x = f x := by
    intro x hx
    unfold yesI yesOf
    rw [h x hx]
  have hc : g = g ∧ looseL caps = caps ∧ ∃ k : List Int, insA l = insA k ∧ k.length ≤ maxLen ∧ ∀ x ∈ k, sp ([.int .i64 x] ++ caps) A = some (.bool (yesI sp caps A x), A) := ⟨rfl, hcl, l, rfl, hl, fun x hx => by rw [hy x hx]; exact h x hx⟩
  unfold spAnyI
  dsimp only
  rw [dif_pos hc]
  have e : hc.2.2.choose = l := (insA_inj.1 hc.2.2.choose_spec.1).symm
  rw [e]
  have : l.any (yesI sp caps A) = l.any f := by
    clear e hc h hl
    induction l with
    | nil => rfl
    | cons x l ih => rw [List.any_cons, List.any_cons, hy x (List.mem_cons_self ..), ih fun y hm => hy y (List.mem_cons_of_mem _ hm)]
  rw [this]
end Go.Proofs.YtgophedkejgedaaDoorAi
end

section
/- MADE BY PROGRAM (wip/tools/gen.py): the abstract code of functions. -/
namespace Go.Proofs.YtgophedkejgedaaDoorAi
open Go AC AOp Opd
set_option linter.unusedVariables false
set_option maxRecDepth 100000

end Go.Proofs.YtgophedkejgedaaDoorAi
end

section
/- Contracts: searching in lists of fractions and of rows; valid lists; valid matrices. -/
namespace Go.Proofs.YtgophedkejgedaaDoorAi
open Go Go.RowKit
set_option linter.unusedVariables false
set_option linter.unusedSimpArgs false
set_option maxRecDepth 20000

@[simp] def rowA (r : List Fr) : AV := .sl (frsA r) false
theorem rowA_inj0 : ∀ x y, rowA x = rowA y → x = y := by
  intro x y h
  simp only [rowA] at h
  injection h with h _
  exact frsA_inj.1 h
abbrev rowsA (M : List (List Fr)) : List AV := mapA rowA M
@[simp] theorem rowsA_inj {l k : List (List Fr)} : mapA rowA l = mapA rowA k ↔ l = k := ⟨mapA_inj rowA_inj0, fun h => by rw [h]⟩

noncomputable def yesF (sp : List AV → AHeap → Option (AV × AHeap)) (caps : List AV) (A : AHeap) (x : Fr) : Bool := yesOf sp ([.agg [.int .i64 x.p, .int .i64 x.q]] ++ caps) A
open Classical in
noncomputable def spIdxF (g : FuncId) (sp : List AV → AHeap → Option (AV × AHeap)) : List AV → AHeap → Option (AV × AHeap)
  | [.sl xs false, .fn g' caps], A => if h : g' = g ∧ ∃ l : List Fr, xs = frsA l ∧ l.length ≤ maxLen ∧ ∀ x ∈ l, sp ([.agg [.int .i64 x.p, .int .i64 x.q]] ++ caps) A = some (.bool (yesF sp caps A x), A)
      then some (.int .i64 (idxF (yesF sp caps A) h.2.choose 0), A) else none
  | _, _ => none
theorem spIdxF_eq {g : FuncId} {sp : List AV → AHeap → Option (AV × AHeap)} (f : Fr → Bool) {l : List Fr} {caps : List AV} {A : AHeap} (hl : l.length ≤ maxLen) (h : ∀ x ∈ l, sp ([.agg [.int .i64 x.p, .int .i64 x.q]] ++ caps) A = some (.bool (f x), A)) :
    spIdxF g sp [.sl (frsA l) false, .fn g caps] A = some (.int .i64 (idxF f l 0), A) := by
  have hy : ∀ x ∈ l, yesF sp caps A x = f x := by
    intro x hx
    unfold yesF yesOf
    rw [h x hx]
  have hc : g = g ∧ ∃ k : List Fr, frsA l = frsA k ∧ k.length ≤ maxLen ∧ ∀ x ∈ k, sp ([.agg [.int .i64 x.p, .int .i64 x.q]] ++ caps) A = some (.bool (yesF sp caps A x), A) := ⟨rfl, l, rfl, hl, fun x hx => by rw [hy x hx]; exact h x hx⟩
  unfold spIdxF
  dsimp only
  rw [dif_pos hc]
  have e : hc.2.choose = l := (frsA_inj.1 hc.2.choose_spec.1).symm
  rw [e]
  have : ∀ (l : List Fr) (i : Nat), (∀ x ∈ l, yesF sp caps A x = f x) → idxF (yesF sp caps A) l i = idxF f l i := by
    intro l
    induction l with
    | nil => intro _ _; rfl
    | cons x l ih => intro i h; rw [idxF, idxF, h x (List.mem_cons_self ..), ih _ fun y hy => h y (List.mem_cons_of_mem _ hy)]
  rw [this l 0 hy]
open Classical in
noncomputable def spAnyF (g : FuncId) (sp : List AV → AHeap → Option (AV × AHeap)) : List AV → AHeap → Option (AV × AHeap)
  | [.sl xs false, .fn g' caps], A => if h : g' = g ∧ looseL caps = caps ∧ ∃ l : List Fr, xs = frsA l ∧ l.length ≤ maxLen ∧ ∀ x ∈ l, sp ([.agg [.int .i64 x.p, .int .i64 x.q]] ++ caps) A = some (.bool (yesF sp caps A x), A)
      then some (.bool (h.2.2.choose.any (yesF sp caps A)), A) else none
  | _, _ => none
theorem spAnyF_eq {g : FuncId} {sp : List AV → AHeap → Option (AV × AHeap)} (f : Fr → Bool) {l : List Fr} {caps : List AV} {A : AHeap} (hl : l.length ≤ maxLen) (hcl : looseL caps = caps) (h : ∀ x ∈ l, sp ([.agg [.int .i64 x.p, .int .i64 x.q]] ++ caps) A = some (.bool (f x), A)) :
    spAnyF g sp [.sl (frsA l) false, .fn g caps] A = some (.bool (l.any f), A) := by
  have hy : ∀ x ∈ l, yesF sp caps A x = f x := by
    intro x hx
    unfold yesF yesOf
    rw [h x hx]
  have hc : g = g ∧ looseL caps = caps ∧ ∃ k : List Fr, frsA l = frsA k ∧ k.length ≤ maxLen ∧ ∀ x ∈ k, sp ([.agg [.int .i64 x.p, .int .i64 x.q]] ++ caps) A = some (.bool (yesF sp caps A x), A) := ⟨rfl, hcl, l, rfl, hl, fun x hx => by rw [hy x hx]; exact h x hx⟩
  unfold spAnyF
  dsimp only
  rw [dif_pos hc]
  have e : hc.2.2.choose = l := (frsA_inj.1 hc.2.2.choose_spec.1).symm
  rw [e]
  have : l.any (yesF sp caps A) = l.any f := by
    clear e hc h hl
    induction l with
    | nil => rfl
    | cons x l ih => rw [List.any_cons, List.any_cons, hy x (List.mem_cons_self ..), ih fun y hm => hy y (List.mem_cons_of_mem _ hm)]
  rw [this]
noncomputable def yesM (sp : List AV → AHeap → Option (AV × AHeap)) (caps : List AV) (A : AHeap) (x : (List Fr)) : Bool := yesOf sp ([.sl (frsA x) false] ++ caps) A
open Classical in
noncomputable def spIdxM (g : FuncId) (sp : List AV → AHeap → Option (AV × AHeap)) : List AV → AHeap → Option (AV × AHeap)
  | [.sl xs false, .fn g' caps], A => if h : g' = g ∧ ∃ l : List (List Fr), xs = rowsA l ∧ l.length ≤ maxLen ∧ ∀ x ∈ l, sp ([.sl (frsA x) false] ++ caps) A = some (.bool (yesM sp caps A x), A)
      then some (.int .i64 (idxF (yesM sp caps A) h.2.choose 0), A) else none
  | _, _ => none
theorem spIdxM_eq {g : FuncId} {sp : List AV → AHeap → Option (AV × AHeap)} (f : (List Fr) → Bool) {l : List (List Fr)} {caps : List AV} {A : AHeap} (hl : l.length ≤ maxLen) (h : ∀ x ∈ l, sp ([.sl (frsA x) false] ++ caps) A = some (.bool (f x), A)) :
    spIdxM g sp [.sl (rowsA l) false, .fn g caps] A = some (.int .i64 (idxF f l 0), A) := by
  have hy : ∀ x ∈ l, yesM sp caps A x = f x := by
    intro x hx
    unfold yesM yesOf
    rw [h x hx]
  have hc : g = g ∧ ∃ k : List (List Fr), rowsA l = rowsA k ∧ k.length ≤ maxLen ∧ ∀ x ∈ k, sp ([.sl (frsA x) false] ++ caps) A = some (.bool (yesM sp caps A x), A) := ⟨rfl, l, rfl, hl, fun x hx => by rw [hy x hx]; exact h x hx⟩
  unfold spIdxM
  dsimp only
  rw [dif_pos hc]
  have e : hc.2.choose = l := (rowsA_inj.1 hc.2.choose_spec.1).symm
  rw [e]
  have : ∀ (l : List (List Fr)) (i : Nat), (∀ x ∈ l, yesM sp caps A x = f x) → idxF (yesM sp caps A) l i = idxF f l i := by
    intro l
    induction l with
    | nil => intro _ _; rfl
    | cons x l ih => intro i h; rw [idxF, idxF, h x (List.mem_cons_self ..), ih _ fun y hy => h y (List.mem_cons_of_mem _ hy)]
  rw [this l 0 hy]
open Classical in
noncomputable def spAnyM (g : FuncId) (sp : List AV → AHeap → Option (AV × AHeap)) : List AV → AHeap → Option (AV × AHeap)
  | [.sl xs false, .fn g' caps], A => if h : g' = g ∧ looseL caps = caps ∧ ∃ l : List (List Fr), xs = rowsA l ∧ l.length ≤ maxLen ∧ ∀ x ∈ l, sp ([.sl (frsA x) false] ++ caps) A = some (.bool (yesM sp caps A x), A)
      then some (.bool (h.2.2.choose.any (yesM sp caps A)), A) else none
  | _, _ => none
theorem spAnyM_eq {g : FuncId} {sp : List AV → AHeap → Option (AV × AHeap)} (f : (List Fr) → Bool) {l : List (List Fr)} {caps : List AV} {A : AHeap} (hl : l.length ≤ maxLen) (hcl : looseL caps = caps) (h : ∀ x ∈ l, sp ([.sl (frsA x) false] ++ caps) A = some (.bool (f x), A)) :
    spAnyM g sp [.sl (rowsA l) false, .fn g caps] A = some (.bool (l.any f), A) := by
  have hy : ∀ x ∈ l, yesM sp caps A x = f x := by
    intro x hx
    unfold yesM yesOf
    rw [h x hx]
  have hc : g = g ∧ looseL caps = caps ∧ ∃ k : List (List Fr), rowsA l = rowsA k ∧ k.length ≤ maxLen ∧ ∀ x ∈ k, sp ([.sl (frsA x) false] ++ caps) A = some (.bool (yesM sp caps A x), A) := ⟨rfl, hcl, l, rfl, hl, fun x hx => by rw [hy x hx]; exact h x hx⟩
  unfold spAnyM
  dsimp only
  rw [dif_pos hc]
  have e : hc.2.2.choose = l := (rowsA_inj.1 hc.2.2.choose_spec.1).symm
  rw [e]
  have : l.any (yesM sp caps A) = l.any f := by
    clear e hc h hl
    induction l with
    | nil => rfl
    | cons x l ih => rw [List.any_cons, List.any_cons, hy x (List.mem_cons_self ..), ih fun y hm => hy y (List.mem_cons_of_mem _ hm)]
  rw [this]
/-! ### valid lists -/
theorem any_badF (l : List Fr) : (l.any fun x => !frOk x.p x.q) = !allOk l := by
  unfold allOk
  rw [List.not_all_eq_any_not]
noncomputable def sp_validL : List AV → Option (AV) := pf (ι := (List Fr)) (α := AV) (fun l => l.length ≤ maxLen) (fun l => [.sl (frsA l) false]) (fun l => .bool (decide (l.length ≤ 256) && allOk l))
theorem sp_validL_eq (l : List Fr) (h : l.length ≤ maxLen) : sp_validL [.sl (frsA l) false] = some (.bool (decide (l.length ≤ 256) && allOk l)) := by
  unfold sp_validL
  exact pf_eq (ι := (List Fr)) (α := AV) l h (by rintro l' _ e; simp_all [Int.natCast_inj])
end Go.Proofs.YtgophedkejgedaaDoorAi
end

section
/- Contracts: strings.Join. -/
namespace Go.Proofs.YtgophedkejgedaaDoorAi
open Go Go.RowKit
set_option linter.unusedVariables false
set_option linter.unusedSimpArgs false
set_option maxRecDepth 20000

/-- A library's function of which the result is known, that reads what its arguments reach and leaves memory as it is but for new blocks. -/
theorem T.libS {P : Program} {f : FuncId} {args : List AV} {r : AV} (he : Enters P f) (h : ∀ (σ : Sg) (w : World) (vs : List Value), RepL σ args vs → (∀ b off v, σ.cell b off = some v → w.cell? ⟨b, off, none⟩ = some v) → GoodW P w → Calls P f vs.toArray w fun e w' => ∃ v, e = .returned v ∧ Below w.heap.size w w' ∧ Rep σ r v) (A : AHeap) :
    T P f args A fun r' A' => r' = r ∧ A' = A := by
  refine ⟨he, fun B w0 σ w vs hG hb hs ha => (h σ w vs ha (fun b off v e => hs.cell e) (hG w hb)).mono fun e w' ⟨v, e1, e2, e3⟩ => ?_⟩
  refine ⟨r, A, v, σ, e1, ⟨rfl, rfl⟩, ⟨fun _ _ h => h, fun _ _ h => h, rfl⟩, hs.under e2, e3, hb.trans ⟨e2.os, e2.tape, e2.output, e2.size, fun k hk => e2.block k (hs.base k hk)⟩⟩

theorem rep_sl_inv {σ : Sg} {xs : List AV} {t : Bool} {v : Value} (h : Rep σ (.sl xs t) v) : (xs = [] ∧ ∃ a c, v = .slice a 0 c) ∨ ∃ b off c s, v = .slice (some ⟨b, off, none⟩) xs.length c ∧ xs.length ≤ c ∧
    ∀ (i : Nat) (x : AV), xs[i]? = some x → x.cells.length = s ∧ ∀ (j : Nat) (c : AV), x.cells[j]? = some c → ∃ u, σ.cell b (off + i * s + j) = some u ∧ Rep σ c u := by
  cases h with
  | slnil t a cap => exact .inl ⟨rfl, _, _, rfl⟩
  | sl xs t b off s cap val hlen hcap ht hs hm hr h1 hp =>
    exact .inr ⟨b, off, cap, s, rfl, hlen, fun i x hx => ⟨hs i x hx, fun j c hj => ⟨_, hm i x hx j c hj, hr i x hx j c hj⟩⟩⟩
@[simp] def strA (s : ByteArray) : AV := .str s
theorem strA_inj0 : ∀ x y, strA x = strA y → x = y := by
  intro x y h
  simp only [strA] at h
  injection h
abbrev strsA (l : List ByteArray) : List AV := mapA strA l
@[simp] theorem strsA_inj {l k : List ByteArray} : mapA strA l = mapA strA k ↔ l = k := ⟨mapA_inj strA_inj0, fun h => by rw [h]⟩
instance : Plain strA 1 := ⟨fun _ => rfl, by omega, fun _ => rfl, fun _ => rfl, fun _ => rfl, fun _ _ => rfl⟩
def joinT (l : List ByteArray) (sep : ByteArray) : ByteArray := ⟨(Go.Lib.join (l.map (·.data.toList)) sep.data.toList).toArray⟩
noncomputable def sp_joinS : List AV → Option (AV) := pf (ι := (List ByteArray) × (ByteArray)) (α := AV) (fun ⟨l, sep⟩ => l.length ≤ 1048576 ∧ (joinT l sep).size ≤ 140737488355328) (fun ⟨l, sep⟩ => [.sl (strsA l) false, .str sep]) (fun ⟨l, sep⟩ => .str (joinT l sep))
theorem sp_joinS_eq (l : List ByteArray) (sep : ByteArray) (h : l.length ≤ 1048576 ∧ (joinT l sep).size ≤ 140737488355328) : sp_joinS [.sl (strsA l) false, .str sep] = some (.str (joinT l sep)) := by
  unfold sp_joinS
  exact pf_eq (ι := (List ByteArray) × (ByteArray)) (α := AV) (l, sep) h (by rintro ⟨l', sep'⟩ _ e; simp_all [Int.natCast_inj])
end Go.Proofs.YtgophedkejgedaaDoorAi
end

section
/- Contracts: texts of lists of fractions and of matrices. -/
namespace Go.Proofs.YtgophedkejgedaaDoorAi
open Go Go.RowKit
set_option linter.unusedVariables false
set_option linter.unusedSimpArgs false
set_option maxRecDepth 20000

theorem ljoin_cons2 (x y : List UInt8) (r : List (List UInt8)) (sep : List UInt8) : Go.Lib.join (x :: y :: r) sep = x ++ (sep ++ Go.Lib.join (y :: r) sep) := by
  simp [Go.Lib.join, List.intercalate, List.intersperse]
theorem ljoin_snoc (sep x : List UInt8) : ∀ (l : List (List UInt8)), l ≠ [] → Go.Lib.join (l ++ [x]) sep = Go.Lib.join l sep ++ (sep ++ x)
  | [], h => absurd rfl h
  | [y], _ => by
    show Go.Lib.join [y, x] sep = _
    rw [ljoin_cons2, Go.Lib.join_one, Go.Lib.join_one]
  | y :: z :: r, _ => by
    show Go.Lib.join (y :: z :: (r ++ [x])) sep = _
    have ih := ljoin_snoc sep x (z :: r) (by simp)
    rw [ljoin_cons2, ljoin_cons2]
    rw [List.cons_append] at ih
    rw [ih]
    simp only [List.append_assoc]
theorem joinT_nil (sep : ByteArray) : joinT [] sep = ⟨#[]⟩ := rfl
theorem joinT_one (x sep : ByteArray) : joinT [x] sep = x := by
  unfold joinT; rw [List.map_cons, List.map_nil, Go.Lib.join_one]
theorem joinT_snoc (sep x : ByteArray) (l : List ByteArray) (h : l ≠ []) : joinT (l ++ [x]) sep = joinT l sep ++ (sep ++ x) := by
  unfold joinT
  rw [List.map_append, List.map_cons, List.map_nil, ljoin_snoc _ _ _ (by simpa using h)]
  apply ByteArray.ext
  simp
theorem joinT_size (sep : ByteArray) (m : Nat) : ∀ (l : List ByteArray), (∀ x ∈ l, x.size ≤ m) → (joinT l sep).size ≤ l.length * (m + sep.size)
  | [], _ => by simp [joinT_nil]
  | [y], h => by
    have := h y (List.mem_cons_self ..)
    rw [joinT_one, List.length_singleton]; omega
  | y :: z :: r, h => by
    have h1 := joinT_size sep m (z :: r) fun x hx => h x (List.mem_cons_of_mem _ hx)
    have h2 := h y (List.mem_cons_self ..)
    have e : (joinT (y :: z :: r) sep).size = y.size + (sep.size + (joinT (z :: r) sep).size) := by
      unfold joinT
      rw [List.map_cons, List.map_cons, ljoin_cons2]
      simp only [ba_size, List.size_toArray, List.length_append, Array.length_toList]
      rfl
    rw [e, List.length_cons, Nat.add_mul]
    rw [List.length_cons] at h1 ⊢
    omega
def oneB : ByteArray := ⟨#[32]⟩
def frS (x : Fr) : ByteArray := frT x.p x.q
def fracsT (l : List Fr) : ByteArray := joinT (l.map frS) oneB
theorem frS_size {x : Fr} (h : frOk x.p x.q = true) : (frS x).size ≤ 43 := by
  have hb := frOk_bd h
  have s1 := decB_size x.p (by omega) (by omega)
  have s2 := decB_size x.q (by omega) (by omega)
  unfold frS frT
  split
  · omega
  · have : slashB.size = 1 := rfl
    simp only [ByteArray.size_append]; omega
theorem allOk_get {l : List Fr} (h : allOk l = true) : ∀ x ∈ l, frOk x.p x.q = true := by
  unfold allOk at h
  exact fun x hx => List.all_eq_true.1 h x hx
theorem fracsT_size {l : List Fr} (h : allOk l = true) : (fracsT l).size ≤ l.length * 44 := by
  have := joinT_size oneB 43 (l.map frS) (by
    intro x hx
    obtain ⟨y, hy, rfl⟩ := List.mem_map.1 hx
    exact frS_size (allOk_get h y hy))
  have e : oneB.size = 1 := rfl
  rw [e, List.length_map] at this
  exact this
def lvS (N : Nat) (L : List ByteArray) : AV := if L = [] then .sl [] true else .ref N 1 0 L.length .full
def obS (L : List ByteArray) : List (Option (List AV)) := if L = [] then [] else [some (flatA (strsA L))]
theorem lvS_nil (N : Nat) : lvS N [] = .sl [] true := rfl
theorem obS_nil : obS [] = [] := rfl
theorem lvS_cons {N : Nat} {L : List ByteArray} (h : L ≠ []) : lvS N L = .ref N 1 0 L.length .full := if_neg h
theorem obS_cons {L : List ByteArray} (h : L ≠ []) : obS L = [some (flatA (strsA L))] := if_neg h
theorem lvS_lt (L : List ByteArray) : AV.lt (obS L).length (lvS 0 L) = true := by
  by_cases hL : L = []
  · rw [hL, lvS_nil]; rfl
  · rw [obS_cons hL, lvS_cons hL]; simp
theorem strS_snoc (L : List ByteArray) (s : ByteArray) : flatA (strsA L) ++ [.str s] = flatA (strsA (L ++ [s])) := by
  rw [flatA_append]; rfl
@[simp] theorem gath_str (l : List ByteArray) (n : Nat) (h : n = l.length) : gath 1 n (flatA (mapA strA l)) = mapA strA l := flatA_gath l n h
def ftSt (l : List Fr) (i : Nat) : St := ⟨tl [(3, lvS 0 ((l.map frS).take i)), (7, .sl (frsA l) false), (8, .int .i64 l.length), (9, .int .i64 i)], ⟨obS ((l.map frS).take i)⟩⟩
noncomputable def sp_fracsText : List AV → Option (AV) := pf (ι := (List Fr)) (α := AV) (fun l => allOk l = true ∧ l.length ≤ 256) (fun l => [.sl (frsA l) false]) (fun l => .str (fracsT l))
theorem sp_fracsText_eq (l : List Fr) (h : allOk l = true ∧ l.length ≤ 256) : sp_fracsText [.sl (frsA l) false] = some (.str (fracsT l)) := by
  unfold sp_fracsText
  exact pf_eq (ι := (List Fr)) (α := AV) l h (by rintro l' _ e; simp_all [Int.natCast_inj])
end Go.Proofs.YtgophedkejgedaaDoorAi
end

section
/- Contracts: whole numbers and pieces of texts of the reference. -/
namespace Go.Proofs.YtgophedkejgedaaDoorAi
open Go Go.RowKit
set_option linter.unusedVariables false
set_option linter.unusedSimpArgs false
set_option maxRecDepth 20000

def billB : ByteArray := ⟨#[49, 48, 48, 48, 48, 48, 48, 48, 48, 48]⟩
def whB (s : ByteArray) : Bool := (s == billB) || l01B s
def whV (s : ByteArray) : Int := if (s == billB) = true then 1000000000 else l01V s
noncomputable def sp_whole2 : List AV → Option (AV) := pf (ι := (ByteArray)) (α := AV) (fun s => s.size ≤ 1048576) (fun s => [.str s]) (fun s => .tup [.int .i64 (whV s), .bool (whB s)])
theorem sp_whole2_eq (s : ByteArray) (h : s.size ≤ 1048576) : sp_whole2 [.str s] = some (.tup [.int .i64 (whV s), .bool (whB s)]) := by
  unfold sp_whole2
  exact pf_eq (ι := (ByteArray)) (α := AV) s h (by rintro s' _ e; simp_all [Int.natCast_inj])
def splF (s : ByteArray) (c : Int) : Nat → Nat → Nat → List ByteArray → List ByteArray
  | 0, _, f, out => out ++ [s.extract f s.size]
  | k + 1, i, f, out => if bAt s i = c then splF s c k (i + 1) (i + 1) (out ++ [s.extract f i]) else splF s c k (i + 1) f out
def splitL (s : ByteArray) (c : Int) : List ByteArray := splF s c s.size 0 0 []
theorem splF_len (s : ByteArray) (c : Int) : ∀ k i f out, (splF s c k i f out).length ≤ out.length + k + 1 ∧ splF s c k i f out ≠ []
  | 0, i, f, out => by simp [splF]
  | k + 1, i, f, out => by
    rw [splF]
    split
    · have := splF_len s c k (i + 1) (i + 1) (out ++ [s.extract f i])
      refine ⟨?_, this.2⟩
      have h1 := this.1
      simp at h1
      omega
    · have := splF_len s c k (i + 1) f out
      exact ⟨by omega, this.2⟩
def spSt (s : ByteArray) (c : Int) (q : Nat × Nat × List ByteArray) : St := ⟨tl [(0, .str s), (1, .int .u8 c), (5, lvS 0 q.2.2), (6, .int .i64 q.2.1), (7, .int .i64 q.1)], ⟨[some (flatA (strsA q.2.2))]⟩⟩
theorem lvS_lt1 (L : List ByteArray) : AV.lt 1 (lvS 0 L) = true := by
  by_cases hL : L = []
  · rw [hL, lvS_nil]; rfl
  · rw [lvS_cons hL]; simp
noncomputable def sp_split : List AV → Option (AV × List (Option (List AV))) := pf (ι := (ByteArray) × (Int)) (α := AV × List (Option (List AV))) (fun ⟨s, c⟩ => s.size ≤ 1048576 ∧ 0 ≤ c ∧ c ≤ 255) (fun ⟨s, c⟩ => [.str s, .int .u8 c]) (fun ⟨s, c⟩ => (.ref 0 1 0 (splitL s c).length .full, [some (flatA (strsA (splitL s c)))]))
theorem sp_split_eq (s : ByteArray) (c : Int) (h : s.size ≤ 1048576 ∧ 0 ≤ c ∧ c ≤ 255) : sp_split [.str s, .int .u8 c] = some ((.ref 0 1 0 (splitL s c).length .full, [some (flatA (strsA (splitL s c)))])) := by
  unfold sp_split
  exact pf_eq (ι := (ByteArray) × (Int)) (α := AV × List (Option (List AV))) (s, c) h (by rintro ⟨s', c'⟩ _ e; simp_all [Int.natCast_inj])
theorem n_spec_l01Split : QN PP 48 sp_split := by
  refine QN_pf (fun i h => ?_) fun i h => ?_
  · obtain ⟨s, c⟩ := i; first | rfl | simp
  obtain ⟨s, c⟩ := i
  replace h : s.size ≤ 1048576 ∧ 0 ≤ c ∧ c ≤ 255 := h
  show T PP 48 [.str s, .int .u8 c] .nil fun r' A' => r' = (((.ref 0 1 0 (splitL s c).length .full, [some (flatA (strsA (splitL s c)))]) : AV × List (Option (List AV)))).1 ∧ A' = ⟨(((.ref 0 1 0 (splitL s c).length .full, [some (flatA (strsA (splitL s c)))]) : AV × List (Option (List AV)))).2⟩
  obtain ⟨hl, hc0, hc1⟩ := h
  refine H_code Quiet.nil hmix k_spec_l01Split rfl (fun _ => 2) (by simp [AHeap.n, AHeap.nil]) (by intro b hb; simp [AHeap.n, AHeap.nil] at hb <;> subst hb <;> rfl) (by rfl) (by first | rfl | simp) ?_
  simp -dsimp -implicitDefEqProofs [c_spec_l01Split, r_spec_l01Split]
  refine wpLoop_st (spSt s c) (fun q => q.1 ≤ s.size ∧ q.2.1 ≤ q.1 ∧ q.2.2.length ≤ q.1 ∧ splF s c (s.size - q.1) q.1 q.2.1 q.2.2 = splitL s c) (fun q => s.size - q.1) (0, 0, []) ⟨by simp, by simp, by simp, rfl⟩ (Sub.keep (by simp [spSt]) (by simp [hsub, spSt]) (by simp [spSt, lvS_nil])) ?_
  rintro ⟨i, f, out⟩ ⟨hi, hf, ho, hs⟩
  simp only at hi hf ho hs
  simp -dsimp -implicitDefEqProofs [spSt]
  refine brW_of (fun h => ?_) (fun h => ?_) <;> simp only [decide_eq_true_eq, decide_eq_false_iff_not] at h
  · have hx : i < s.size := by omega
    have hw := wrapNat (i := i) (by omega)
    have hg := idx_at s i hx
    have hk : s.size - i = (s.size - (i + 1)) + 1 := by omega
    rw [hk, splF] at hs
    by_cases hb : bAt s i = c
    · rw [if_pos hb] at hs
      have hb' : (bAt s i == c) = true := by simpa using hb
      have c1 : f ≤ i ∧ i ≤ s.size := ⟨by omega, by omega⟩
      have c3 : i ≤ s.size := by omega
      have e2 := strS_snoc out (s.extract f i)
      by_cases hL : out = []
      · subst hL
        have l1 : 1 * 17 ≤ mostBytes := by decide
        simp -dsimp -implicitDefEqProofs [hx, hw, hg, hb, hb', lvS_nil, l1, hf, c3]
        refine .mk (i + 1, i + 1, [s.extract f i]) ⟨by simp only; omega, by simp only; omega, by simp, hs⟩ (by simp only; omega) (Sub.mk' (fun b => if b = 0 then 2 else b) (by simp [spSt]) (by intro b hb; simp [spSt] at hb <;> omega) (by rfl) (by simp [hsub, spSt, flatA_cons]) (by simp [spSt, lvS, hw]))
      · have l1 : (out.length + 1) * 17 ≤ mostBytes := by simp only [mostBytes]; omega
        have l2 : ¬ (out.length + 1 ≤ out.length) := by omega
        have l3 : (flatA (strsA out)).take out.length = flatA (strsA out) := List.take_of_length_le (by simp)
        have e5 : out ++ [s.extract f i] ≠ [] := by simp
        simp -dsimp -implicitDefEqProofs [hx, hw, hg, hb, hb', lvS_cons hL, l1, l2, l3, e2, hf, c3]
        refine .mk (i + 1, i + 1, out ++ [s.extract f i]) ⟨by simp only; omega, by simp only; omega, by simp; omega, hs⟩ (by simp only; omega) (Sub.mk' (fun b => if b = 0 then 2 else b) (by simp [spSt]) (by intro b hb; simp [spSt] at hb <;> omega) (by rfl) (by simp [hsub, spSt]) (by simp [spSt, lvS_cons e5, hw]))
    · rw [if_neg hb] at hs
      have hb' : (bAt s i == c) = false := by simpa using hb
      simp -dsimp -implicitDefEqProofs [hx, hw, hg, hb, hb']
      refine .mk (i + 1, f, out) ⟨by simp only; omega, by simp only; omega, by simp only; omega, hs⟩ (by simp only; omega) (Sub.keep (by simp [spSt]) (by simp [hsub, spSt]) (by simp [spSt, hw, lvS_lt1]))
  · have hi' : i = s.size := by omega
    subst hi'
    rw [Nat.sub_self, splF] at hs
    have e2 := strS_snoc out (s.extract f s.size)
    by_cases hL : out = []
    · subst hL
      have l1 : 1 * 17 ≤ mostBytes := by decide
      simp -dsimp -implicitDefEqProofs [lvS_nil, l1, hf, hsub, ← hs, flatA_cons]
    · have l1 : (out.length + 1) * 17 ≤ mostBytes := by simp only [mostBytes]; omega
      have l2 : ¬ (out.length + 1 ≤ out.length) := by omega
      have l3 : (flatA (strsA out)).take out.length = flatA (strsA out) := List.take_of_length_le (by simp)
      simp -dsimp -implicitDefEqProofs [lvS_cons hL, l1, l2, l3, e2, hf, hsub, ← hs]
end Go.Proofs.YtgophedkejgedaaDoorAi
end

section
/- Contracts: ReadFraction of the reference. -/
namespace Go.Proofs.YtgophedkejgedaaDoorAi
open Go Go.RowKit
set_option linter.unusedVariables false
set_option linter.unusedSimpArgs false
set_option maxRecDepth 20000

theorem flat_strs : ∀ (L : List ByteArray), flatA (strsA L) = strsA L
  | [] => rfl
  | x :: L => by
    rw [flatA_cons, flat_strs L]; rfl
theorem splF_size (s : ByteArray) (c : Int) : ∀ k i f out, (∀ x ∈ out, x.size ≤ s.size) → ∀ x ∈ splF s c k i f out, x.size ≤ s.size
  | 0, i, f, out, h => by
    intro x hx
    rw [splF] at hx
    rcases List.mem_append.1 hx with hx | hx
    · exact h x hx
    · obtain rfl := List.mem_singleton.1 hx
      rw [ByteArray.size_extract]; omega
  | k + 1, i, f, out, h => by
    intro x hx
    rw [splF] at hx
    split at hx
    · refine splF_size s c k _ _ _ (fun y hy => ?_) x hx
      rcases List.mem_append.1 hy with hy | hy
      · exact h y hy
      · obtain rfl := List.mem_singleton.1 hy
        rw [ByteArray.size_extract]; omega
    · exact splF_size s c k _ _ _ h x hx
theorem splitL_size (s : ByteArray) (c : Int) : ∀ x ∈ splitL s c, x.size ≤ s.size := splF_size s c _ _ _ _ (fun x hx => by cases hx)
theorem l01V_in (s : ByteArray) : 0 ≤ l01V s ∧ l01V s ≤ 1000000000 := by
  unfold l01V
  split
  · rename_i h
    unfold l01B at h
    simp only [Bool.and_eq_true, Bool.not_eq_true', Bool.or_eq_false_iff, decide_eq_false_iff_not] at h
    have hn := nV_in s s.size h.2
    have : (10 : Int) ^ s.size ≤ 10 ^ 9 := by
      have : s.size ≤ 9 := by omega
      exact_mod_cast Nat.pow_le_pow_right (by decide) this
    omega
  · omega
theorem whV_in (s : ByteArray) : 0 ≤ whV s ∧ whV s ≤ 1000000000 := by
  unfold whV
  split
  · omega
  · exact l01V_in s
def w0S (s : ByteArray) : ByteArray := (splitL s 47)[0]?.getD noB
def w1S (s : ByteArray) : ByteArray := (splitL s 47)[1]?.getD noB
def negS (s : ByteArray) : Bool := decide (0 < (w0S s).size) && (bAt (w0S s) 0 == 45)
def tpS (s : ByteArray) : ByteArray := if negS s = true then (w0S s).extract 1 (w0S s).size else w0S s
def rdP (s : ByteArray) : Int := if negS s = true then -whV (tpS s) else whV (tpS s)
def rdQ (s : ByteArray) : Int := if (splitL s 47).length = 2 then whV (w1S s) else 1
def rd2 (s : ByteArray) : Bool := if (splitL s 47).length = 2 then whB (w1S s) else decide ((splitL s 47).length = 1)
def rdOk (s : ByteArray) : Bool := (whB (tpS s) && rd2 s) && frOk (rdP s) (rdQ s) && (fracT (rdP s) (rdQ s) == s)
noncomputable def sp_l02Read : List AV → Option (AV) := pf (ι := (ByteArray)) (α := AV) (fun s => s.size ≤ 1048576) (fun s => [.str s]) (fun s => .tup [.agg [.int .i64 (rdP s), .int .i64 (rdQ s)], .bool (rdOk s)])
theorem sp_l02Read_eq (s : ByteArray) (h : s.size ≤ 1048576) : sp_l02Read [.str s] = some (.tup [.agg [.int .i64 (rdP s), .int .i64 (rdQ s)], .bool (rdOk s)]) := by
  unfold sp_l02Read
  exact pf_eq (ι := (ByteArray)) (α := AV) s h (by rintro s' _ e; simp_all [Int.natCast_inj])
end Go.Proofs.YtgophedkejgedaaDoorAi
end

section
/- Plain law: both readings of fractions agree. -/
namespace Go.Proofs.YtgophedkejgedaaDoorAi
open Go Go.RowKit
set_option linter.unusedVariables false
set_option linter.unusedSimpArgs false
set_option maxRecDepth 20000

/-! ### bytes of joined texts -/
theorem bAt_left (a b : ByteArray) (i : Nat) (h : i < a.size) : bAt (a ++ b) i = bAt a i := by
  have h' : i < a.data.toList.length := by rw [Array.length_toList]; exact h
  unfold bAt
  rw [ByteArray.data_append, Array.toList_append, List.getElem?_append_left h']
theorem bAt_right (a b : ByteArray) (i : Nat) : bAt (a ++ b) (a.size + i) = bAt b i := by
  have h' : a.data.toList.length = a.size := by rw [Array.length_toList]; rfl
  unfold bAt
  rw [ByteArray.data_append, Array.toList_append, List.getElem?_append_right (by omega), h', Nat.add_sub_cancel_left]
theorem nV_left (a b : ByteArray) : ∀ i, i ≤ a.size → nV (a ++ b) i = nV a i
  | 0, _ => rfl
  | i + 1, h => by rw [nV, nV, nV_left a b i (by omega), bAt_left a b i (by omega)]
theorem nOk_left (a b : ByteArray) : ∀ i, i ≤ a.size → nOk (a ++ b) i = nOk a i
  | 0, _ => rfl
  | i + 1, h => by rw [nOk, nOk, nOk_left a b i (by omega), bAt_left a b i (by omega)]
theorem ext_left (a b : ByteArray) : (a ++ b).extract 0 a.size = a := by
  apply ByteArray.ext
  apply Array.ext'
  have h' : a.data.toList.length = a.size := by rw [Array.length_toList]; rfl
  rw [ByteArray.data_extract, Array.toList_extract, ByteArray.data_append, Array.toList_append, ← h']
  simp [List.extract]
theorem ext_right (a b : ByteArray) : (a ++ b).extract a.size (a ++ b).size = b := by
  apply ByteArray.ext
  apply Array.ext'
  have h' : a.data.toList.length = a.size := by rw [Array.length_toList]; rfl
  have h2 : b.data.toList.length = b.size := by rw [Array.length_toList]; rfl
  rw [ByteArray.data_extract, Array.toList_extract, ByteArray.data_append, Array.toList_append, ByteArray.size_append, ← h', ← h2]
  simp [List.extract]
  exact List.take_of_length_le (by omega)
theorem ext_all (a : ByteArray) : a.extract 0 a.size = a := by
  have := ext_left a noB
  have e : a ++ noB = a := by apply ByteArray.ext; simp [noB]
  rw [e] at this
  exact this
/-! ### bytes of numerals -/
theorem bAt_one (d : Nat) (h : d < 10) : bAt ⟨[UInt8.ofNat (48 + d)].toArray⟩ 0 = 48 + d := by
  unfold bAt
  show ((UInt8.ofNat (48 + d)).toNat : Int) = _
  rw [dig_toNat h]; omega
theorem decB_facts (u : Nat) (hu : u < 4611686018427387904) : nV (decB u) (decB u).size = u ∧ nOk (decB u) (decB u).size = true ∧ 0 < (decB u).size ∧ (1 ≤ u → bAt (decB u) 0 ≠ 48) ∧ (10 ≤ u → 1 < (decB u).size) := by
  induction u using Nat.strongRecOn with
  | ind u ih =>
    by_cases h : u < 10
    · rw [decB_small (by omega) (by omega)]
      have hb := bAt_one u h
      have e : ((u : Int)).toNat = u := by omega
      rw [e]
      refine ⟨?_, ?_, ?_, ?_, by omega⟩
      · show 0 * 10 + (bAt _ 0 - 48) = _
        rw [hb]; omega
      · show (true && isDig (bAt _ 0)) = true
        rw [hb]; unfold isDig; simp; omega
      · show 0 < 1; omega
      · intro h1; rw [hb]; omega
    · obtain ⟨i1, i2, i3, i4, i5⟩ := ih (u / 10) (by omega) (by omega)
      have e1 : (u : Int).tdiv 10 = ((u / 10 : Nat) : Int) := by rw [Int.tdiv_eq_ediv_of_nonneg (by omega)]; omega
      have e2 : ((u : Int).tmod 10).toNat = u % 10 := by rw [Int.tmod_eq_emod_of_nonneg (by omega)]; omega
      rw [decB_step (by omega), e1, e2]
      generalize decB ((u / 10 : Nat) : Int) = A at *
      have hb := bAt_one (u % 10) (by omega)
      generalize hD : (⟨[UInt8.ofNat (48 + u % 10)].toArray⟩ : ByteArray) = D at *
      have hs : D.size = 1 := by rw [← hD]; rfl
      have hr := bAt_right A D 0
      rw [Nat.add_zero] at hr
      rw [ByteArray.size_append, hs]
      refine ⟨?_, ?_, by omega, ?_, by omega⟩
      · rw [nV, nV_left A D _ (Nat.le_refl _), i1, hr, hb]; omega
      · rw [nOk, nOk_left A D _ (Nat.le_refl _), i2, hr, hb]; unfold isDig; simp; omega
      · intro _
        rw [bAt_left A D 0 i3]
        exact i4 (by omega)
theorem decB_bill : decB 1000000000 = billB := by
  unfold decB Go.Lib.itoa billB
  simp [Go.Lib.decDigits]
theorem wh_dec (n : Int) (h0 : 0 ≤ n) (h1 : n ≤ 1000000000) : whV (decB n) = n ∧ whB (decB n) = true := by
  unfold whV whB
  by_cases hb : n = 1000000000
  · subst hb
    rw [decB_bill, beq_ba]; exact ⟨rfl, rfl⟩
  · have hf : (decB n == billB) = false := by
      rw [ba_eq]
      refine decide_eq_false fun e => hb ?_
      have h2 := (num_dec n (by omega) (by omega)).1
      have h3 := (num_dec 1000000000 (by omega) (by omega)).1
      rw [decB_bill] at h3
      rw [e, h3] at h2
      exact h2.symm
    rw [hf]
    obtain ⟨u, rfl⟩ := Int.eq_ofNat_of_zero_le h0
    obtain ⟨f1, f2, f3, f4, f5⟩ := decB_facts u (by omega)
    have hsz : (decB u).size ≤ 9 := by
      have h2 := nDig_le 8 u (by omega)
      have : (decB (u : Int)).size = Go.Lib.nDigits u := by
        unfold decB Go.Lib.itoa
        rw [if_neg (by omega), ba_size, List.size_toArray, Go.Lib.decDigits_length, Int.toNat_natCast]
      omega
    have hB : l01B (decB u) = true := by
      have a1 : decide ((decB (u : Int)).size < 1) = false := decide_eq_false (by omega)
      have a2 : decide (9 < (decB (u : Int)).size) = false := decide_eq_false (by omega)
      unfold l01B
      rw [f2, a1, a2]
      by_cases hu : 1 ≤ u
      · have := f4 hu
        have e : (bAt (decB u) 0 == 48) = false := by simpa using this
        rw [e]; rfl
      · have : u = 0 := by omega
        subst this
        have : (decB ((0 : Nat) : Int)).size = 1 := by rw [decB_small (by omega) (by omega)]; rfl
        rw [this]; simp
    refine ⟨?_, by rw [hB]; rfl⟩
    simp only [Bool.false_eq_true, if_false]
    unfold l01V
    rw [if_pos hB, f1]
theorem itoa_ne (n : Int) : ∀ c ∈ Go.Lib.itoa n, c ≠ 47 := by
  intro c hc e
  subst e
  unfold Go.Lib.itoa at hc
  split at hc
  · rcases List.mem_cons.1 hc with hc | hc
    · exact absurd hc (by decide)
    · have := (decD_dig _ _ hc).1
      exact absurd this (by decide)
  · have := (decD_dig _ _ hc).1
    exact absurd this (by decide)
theorem bAt_dec (n : Int) (i : Nat) (h : i < (decB n).size) : bAt (decB n) i ≠ 47 := by
  have h' : i < (Go.Lib.itoa n).length := by
    have : (decB n).size = (Go.Lib.itoa n).length := by unfold decB; rw [ba_size, List.size_toArray]
    omega
  unfold bAt decB
  simp only [List.getElem?_eq_getElem h', Option.getD_some]
  have hm := itoa_ne n _ (List.getElem_mem h')
  intro e
  apply hm
  apply UInt8.toNat_inj.1
  have : (Go.Lib.itoa n)[i].toNat = 47 := by omega
  rw [this]; rfl
end Go.Proofs.YtgophedkejgedaaDoorAi
end

section
/- Plain law and law: ReadFraction. -/
namespace Go.Proofs.YtgophedkejgedaaDoorAi
open Go Go.RowKit
set_option linter.unusedVariables false
set_option linter.unusedSimpArgs false
set_option maxRecDepth 20000

/-! ### the program's reading of a fraction's text -/
theorem index_none' : ∀ (a : List UInt8), (∀ c ∈ a, c ≠ 47) → Go.Lib.index a [47] = -1
  | [], _ => rfl
  | c :: a, h => by
    rw [Go.Lib.index, index_none' a fun d hd => h d (List.mem_cons_of_mem _ hd)]
    have hc := h c (List.mem_cons_self ..)
    have : List.isPrefixOf [47] (c :: a) = false := by
      simp [List.isPrefixOf]; exact fun e => hc e.symm
    rw [this]; rfl
theorem index_at' (b : List UInt8) : ∀ (a : List UInt8), (∀ c ∈ a, c ≠ 47) → Go.Lib.index (a ++ 47 :: b) [47] = a.length
  | [], _ => by
    rw [List.nil_append, Go.Lib.index]
    have : List.isPrefixOf [47] ((47 : UInt8) :: b) = true := by simp [List.isPrefixOf]
    rw [if_pos this]; rfl
  | c :: a, h => by
    rw [List.cons_append, Go.Lib.index, index_at' b a fun d hd => h d (List.mem_cons_of_mem _ hd)]
    have hc := h c (List.mem_cons_self ..)
    have : List.isPrefixOf [47] (c :: (a ++ 47 :: b)) = false := by
      simp [List.isPrefixOf]; exact fun e => hc e.symm
    rw [this]
    have h2 : ((a.length : Int) == -1) = false := by rw [beq_eq_false_iff_ne]; omega
    rw [h2]; simp
theorem ba_back (a : ByteArray) : (⟨a.data.toList.toArray⟩ : ByteArray) = a := by apply ByteArray.ext; simp
theorem ones_dec : decB 1 = onesB := by rw [decB_small (by omega) (by omega)]; rfl
theorem impl_reads {p q : Int} (h : frOk p q = true) : numV (topS (frT p q)) = p ∧ numV (botS (frT p q)) = q ∧ numB (topS (frT p q)) = true ∧ numB (botS (frT p q)) = true := by
  have hb := frOk_bd h
  have hp := num_dec p (by omega) (by omega)
  have hq := num_dec q (by omega) (by omega)
  have hl : ∀ n, (decB n).data.toList = Go.Lib.itoa n := fun n => by simp [decB]
  by_cases h1 : q = 1
  · subst h1
    have e : frT p 1 = decB p := by unfold frT; rw [if_pos rfl]
    have hc : Go.Lib.cut (decB p).data.toList slashB.data.toList = ((decB p).data.toList, [], false) := by
      unfold Go.Lib.cut
      rw [if_neg]
      rw [hl]
      show ¬ 0 ≤ Go.Lib.index (Go.Lib.itoa p) [47]
      rw [index_none' _ (itoa_ne p)]; omega
    have eA : topS (frT p 1) = decB p := by unfold topS cutA; rw [e, hc]
    have eI : cutI (frT p 1) slashB = false := by unfold cutI; rw [e, hc]
    have eB : botS (frT p 1) = decB 1 := by unfold botS; rw [eI, ones_dec]; rfl
    rw [eA, eB]
    exact ⟨hp.1, hq.1, hp.2, hq.2⟩
  · have e : frT p q = decB p ++ slashB ++ decB q := by unfold frT; rw [if_neg h1]
    have el : (frT p q).data.toList = Go.Lib.itoa p ++ 47 :: Go.Lib.itoa q := by
      rw [e, ByteArray.data_append, ByteArray.data_append, Array.toList_append, Array.toList_append, hl, hl]
      simp [slashB]
    have hc : Go.Lib.cut (frT p q).data.toList slashB.data.toList = (Go.Lib.itoa p, Go.Lib.itoa q, true) := by
      unfold Go.Lib.cut
      have hi : Go.Lib.index (frT p q).data.toList slashB.data.toList = (Go.Lib.itoa p).length := by
        rw [el]; exact index_at' _ _ (itoa_ne p)
      rw [hi, if_pos (by omega), el]
      have hs : slashB.data.toList.length = 1 := rfl
      rw [hs, Int.toNat_natCast]
      simp
    have eA : topS (frT p q) = decB p := by unfold topS cutA; rw [hc]; rfl
    have eI : cutI (frT p q) slashB = true := by unfold cutI; rw [hc]
    have eB : botS (frT p q) = decB q := by unfold botS; rw [if_pos eI]; unfold cutB; rw [hc]; rfl
    rw [eA, eB]
    exact ⟨hp.1, hq.1, hp.2, hq.2⟩

/-! ### the reference's reading -/
theorem splF_skip (s : ByteArray) (c : Int) (k f : Nat) (out : List ByteArray) : ∀ (m i : Nat), (∀ j, i ≤ j → j < i + m → bAt s j ≠ c) → splF s c (m + k) i f out = splF s c k (i + m) f out
  | 0, i, _ => by rw [Nat.zero_add, Nat.add_zero]
  | m + 1, i, h => by
    rw [show m + 1 + k = (m + k) + 1 by omega, splF, if_neg (h i (by omega) (by omega)), splF_skip s c k f out m (i + 1) (fun j h1 h2 => h j (by omega) (by omega)), show i + 1 + m = i + (m + 1) by omega]
theorem split_one (n : Int) : splitL (decB n) 47 = [decB n] := by
  unfold splitL
  have := splF_skip (decB n) 47 0 0 [] (decB n).size 0 (fun j _ h => bAt_dec n j (by omega))
  rw [Nat.add_zero, Nat.zero_add] at this
  rw [this, splF, ext_all]; rfl
theorem split_two (p q : Int) : splitL (decB p ++ slashB ++ decB q) 47 = [decB p, decB q] := by
  unfold splitL
  have hs : slashB.size = 1 := rfl
  have e1 : decB p ++ slashB ++ decB q = decB p ++ (slashB ++ decB q) := ByteArray.append_assoc ..
  have hsz : (decB p ++ slashB ++ decB q).size = (decB p).size + (1 + (decB q).size) := by rw [e1, ByteArray.size_append, ByteArray.size_append, hs]
  have hA : ∀ j, j < (decB p).size → bAt (decB p ++ slashB ++ decB q) j = bAt (decB p) j := fun j hj => by rw [e1, bAt_left _ _ _ hj]
  have hM : bAt (decB p ++ slashB ++ decB q) (decB p).size = 47 := by
    have := bAt_right (decB p) (slashB ++ decB q) 0
    rw [Nat.add_zero] at this
    rw [e1, this, bAt_left slashB (decB q) 0 (by rw [hs]; omega)]; rfl
  have hB : ∀ j, bAt (decB p ++ slashB ++ decB q) ((decB p).size + 1 + j) = bAt (decB q) j := fun j => by
    have := bAt_right (decB p ++ slashB) (decB q) j
    rw [ByteArray.size_append, hs] at this
    exact this
  have eL : (decB p ++ slashB ++ decB q).extract 0 (decB p).size = decB p := by rw [e1]; exact ext_left _ _
  have eR : (decB p ++ slashB ++ decB q).extract ((decB p).size + 1) (decB p ++ slashB ++ decB q).size = decB q := by
    have := ext_right (decB p ++ slashB) (decB q)
    rw [ByteArray.size_append (a := decB p), hs] at this
    exact this
  generalize decB p ++ slashB ++ decB q = s at *
  have s1 := splF_skip s 47 (1 + (decB q).size) 0 [] (decB p).size 0 (fun j _ h => by rw [hA j (by omega)]; exact bAt_dec p j (by omega))
  rw [Nat.zero_add] at s1
  rw [hsz, s1, show 1 + (decB q).size = (decB q).size + 1 by omega, splF, if_pos hM, eL]
  have s2 := splF_skip s 47 0 ((decB p).size + 1) ([] ++ [decB p]) (decB q).size ((decB p).size + 1) (fun j h1 h2 => by
    have := hB (j - ((decB p).size + 1))
    rw [show (decB p).size + 1 + (j - ((decB p).size + 1)) = j by omega] at this
    rw [this]; exact bAt_dec q _ (by omega))
  rw [Nat.add_zero] at s2
  rw [s2, splF, eR]; rfl
theorem neg_dec (n : Int) (hn : -1000000000 ≤ n ∧ n ≤ 1000000000) : (decide (0 < (decB n).size) && (bAt (decB n) 0 == 45)) = decide (n < 0) := by
  by_cases h : n < 0
  · rw [decide_eq_true h, decB_neg h]
    have h1 : bAt ((⟨[45].toArray⟩ : ByteArray) ++ decB (n.natAbs : Int)) 0 = 45 := by rw [bAt_left _ _ _ (by show 0 < 1; omega)]; rfl
    have h2 : 0 < ((⟨[45].toArray⟩ : ByteArray) ++ decB (n.natAbs : Int)).size := by rw [ByteArray.size_append, ba_size]; show 0 < 1 + _; omega
    rw [h1, decide_eq_true h2]; rfl
  · obtain ⟨u, rfl⟩ := Int.eq_ofNat_of_zero_le (show 0 ≤ n by omega)
    obtain ⟨_, f2, f3, _, _⟩ := decB_facts u (by omega)
    have h3 : isDig (bAt (decB (u : Int)) 0) = true := by
      cases hd : isDig (bAt (decB (u : Int)) 0) with
      | true => rfl
      | false => rw [nOk_false hd _ f3] at f2; cases f2
    unfold isDig at h3
    simp only [Bool.and_eq_true, decide_eq_true_eq] at h3
    have h4 : (bAt (decB (u : Int)) 0 == 45) = false := by rw [beq_eq_false_iff_ne]; omega
    rw [h4, decide_eq_false h]; simp
theorem spec_reads {p q : Int} (h : frOk p q = true) : rdP (frT p q) = p ∧ rdQ (frT p q) = q ∧ whB (tpS (frT p q)) = true ∧ rd2 (frT p q) = true := by
  have hb := frOk_bd h
  have hw0 : w0S (frT p q) = decB p := by
    unfold w0S frT
    split
    · rw [split_one]; rfl
    · rw [split_two]; rfl
  have hneg : negS (frT p q) = decide (p < 0) := by unfold negS; rw [hw0]; exact neg_dec p hb.1
  have htop : tpS (frT p q) = decB (p.natAbs : Int) := by
    unfold tpS
    rw [hneg, hw0]
    by_cases hp : p < 0
    · rw [if_pos (decide_eq_true hp), decB_neg hp]
      exact ext_right ⟨[45].toArray⟩ _
    · rw [if_neg (by simpa using hp), show ((p.natAbs : Nat) : Int) = p by omega]
  have hwt := wh_dec (p.natAbs : Int) (by omega) (by omega)
  have hP : rdP (frT p q) = p := by
    unfold rdP
    rw [hneg, htop, hwt.1]
    by_cases hp : p < 0
    · rw [if_pos (decide_eq_true hp)]; omega
    · rw [if_neg (by simpa using hp)]; omega
  have hwq := wh_dec q (by omega) (by omega)
  refine ⟨hP, ?_, by rw [htop]; exact hwt.2, ?_⟩
  · unfold rdQ w1S
    by_cases h1 : q = 1
    · subst h1
      have e : frT p 1 = decB p := by unfold frT; rw [if_pos rfl]
      rw [e, split_one]; rfl
    · have e : frT p q = decB p ++ slashB ++ decB q := by unfold frT; rw [if_neg h1]
      rw [e, split_two]
      exact hwq.1
  · unfold rd2 w1S
    by_cases h1 : q = 1
    · subst h1
      have e : frT p 1 = decB p := by unfold frT; rw [if_pos rfl]
      rw [e, split_one]; rfl
    · have e : frT p q = decB p ++ slashB ++ decB q := by unfold frT; rw [if_neg h1]
      rw [e, split_two]
      exact hwq.2
theorem read_same (s : ByteArray) : readOk s = rdOk s ∧ (readOk s = true → numV (topS s) = rdP s ∧ numV (botS s) = rdQ s) := by
  have key : ∀ p q, frOk p q = true → frT p q = s → readOk s = true ∧ rdOk s = true ∧ numV (topS s) = rdP s ∧ numV (botS s) = rdQ s := by
    intro p q h e
    subst e
    obtain ⟨a1, a2, a3, a4⟩ := impl_reads h
    obtain ⟨b1, b2, b3, b4⟩ := spec_reads h
    have ef : fracT p q = frT p q := by unfold fracT; rw [if_pos h]
    refine ⟨?_, ?_, by rw [a1, b1], by rw [a2, b2]⟩
    · unfold readOk; rw [a1, a2, a3, a4, h, beq_ba]; rfl
    · unfold rdOk; rw [b1, b2, b3, b4, h, ef, beq_ba]; rfl
  cases h1 : readOk s with
  | true =>
    have h1' := h1
    unfold readOk at h1
    simp only [Bool.and_eq_true, ba_eq, decide_eq_true_eq] at h1
    obtain ⟨_, k2, k3, k4⟩ := key _ _ h1.1.2 h1.2
    exact ⟨k2.symm, fun _ => ⟨k3, k4⟩⟩
  | false =>
    refine ⟨?_, fun h => by cases h⟩
    cases h2 : rdOk s with
    | false => rfl
    | true =>
      unfold rdOk at h2
      simp only [Bool.and_eq_true, ba_eq, decide_eq_true_eq] at h2
      have ef : fracT (rdP s) (rdQ s) = frT (rdP s) (rdQ s) := by unfold fracT; rw [if_pos h2.1.2]
      have := (key _ _ h2.1.2 (by rw [← ef]; exact h2.2)).1
      rw [h1] at this; cases this
end Go.Proofs.YtgophedkejgedaaDoorAi
end

section
/- Plain law: fractions in lowest terms; sums, products and their opposites undo each other; order goes with differences. -/
namespace Go.Proofs.YtgophedkejgedaaDoorAi
open Go Go.RowKit
set_option linter.unusedVariables false
set_option linter.unusedSimpArgs false
set_option maxRecDepth 20000

theorem frOk_iff {p q : Int} (h : frOk p q = true) : (-1000000000 ≤ p ∧ p ≤ 1000000000) ∧ (1 ≤ q ∧ q ≤ 1000000000) ∧ Int.gcd p q = 1 := by
  unfold frOk at h
  exact of_decide_eq_true h
theorem low_mul {p q k : Int} (hq : 1 ≤ q) (hg : Int.gcd p q = 1) (hk : k ≠ 0) : lowP (p * k) (q * k) = p ∧ lowQ (p * k) (q * k) = q := by
  have e : Int.gcd (p * k) (q * k) = k.natAbs := by rw [Int.gcd_mul_right, hg, Nat.one_mul]
  unfold lowP lowQ
  rw [e]
  rcases Int.lt_or_gt_of_ne hk with h | h
  · have hn : q * k < 0 := Int.mul_neg_of_pos_of_neg (by omega) h
    rw [if_pos hn, if_pos hn, ← Int.mul_neg, ← Int.mul_neg, show ((k.natAbs : Nat) : Int) = -k by omega]
    exact ⟨Int.mul_tdiv_cancel _ (by omega), Int.mul_tdiv_cancel _ (by omega)⟩
  · have hn : ¬ q * k < 0 := by
      have := Int.mul_pos (a := q) (b := k) (by omega) h
      omega
    rw [if_neg hn, if_neg hn, show ((k.natAbs : Nat) : Int) = k by omega]
    exact ⟨Int.mul_tdiv_cancel _ (by omega), Int.mul_tdiv_cancel _ (by omega)⟩
theorem low_is {p q x y : Int} (h : frOk p q = true) (hy : y ≠ 0) (e : x * q = p * y) : lowO x y = some ⟨p, q⟩ := by
  obtain ⟨hp, hq, hg⟩ := frOk_iff h
  have hd : q ∣ y := by
    rw [← Int.natAbs_dvd_natAbs]
    refine Nat.Coprime.dvd_of_dvd_mul_left (m := p.natAbs) ?_ ?_
    · show Nat.gcd q.natAbs p.natAbs = 1
      rw [Nat.gcd_comm]; exact hg
    · rw [← Int.natAbs_mul, Int.natAbs_dvd_natAbs]
      exact ⟨x, by rw [← e, Int.mul_comm]⟩
  obtain ⟨k, rfl⟩ := hd
  have hk : k ≠ 0 := fun hk => hy (by rw [hk, Int.mul_zero])
  have hx : x = p * k := by
    have : q * x = q * (p * k) := by rw [Int.mul_comm q x, e, Int.mul_left_comm]
    exact Int.eq_of_mul_eq_mul_left (by omega) this
  subst hx
  obtain ⟨e1, e2⟩ := low_mul (by omega) hg hk
  unfold lowO
  rw [e1, e2, if_pos]
  unfold smallB
  simp only [Bool.and_eq_true, decide_eq_true_eq]
  omega
theorem low_val {x y : Int} (hy : y ≠ 0) : lowP x y * y = lowQ x y * x ∧ Int.gcd (lowP x y) (lowQ x y) = 1 := by
  have hg : 0 < Int.gcd x y := Int.gcd_pos_of_ne_zero_right _ hy
  have hgi : (Int.gcd x y : Int) ≠ 0 := by omega
  obtain ⟨a, ha⟩ : (Int.gcd x y : Int) ∣ x := Int.gcd_dvd_left ..
  obtain ⟨b, hb⟩ : (Int.gcd x y : Int) ∣ y := Int.gcd_dvd_right ..
  have hab : Int.gcd a b = 1 := by
    have : Int.gcd x y = Int.gcd (Int.gcd x y * a) (Int.gcd x y * b) := by rw [← ha, ← hb]
    rw [Int.gcd_mul_left, Int.natAbs_natCast] at this
    exact Nat.eq_of_mul_eq_mul_left hg (by rw [← this, Nat.mul_one])
  generalize hG : (Int.gcd x y : Int) = g at *
  have hc : ∀ c : Int, (g * c).tdiv g = c := fun c => by rw [Int.mul_comm]; exact Int.mul_tdiv_cancel _ hgi
  unfold lowP lowQ
  rw [hG]
  by_cases c : y < 0
  · rw [if_pos c, if_pos c]
    have e1 : (-x).tdiv g = -a := by rw [ha, ← Int.mul_neg, hc]
    have e2 : (-y).tdiv g = -b := by rw [hb, ← Int.mul_neg, hc]
    rw [e1, e2]
    refine ⟨?_, by rw [Int.gcd_neg, Int.neg_gcd]; exact hab⟩
    rw [ha, hb, Int.neg_mul, Int.neg_mul, Int.mul_left_comm, Int.mul_left_comm b, Int.mul_comm a b]
  · rw [if_neg c, if_neg c]
    have e1 : x.tdiv g = a := by rw [ha, hc]
    have e2 : y.tdiv g = b := by rw [hb, hc]
    rw [e1, e2]
    refine ⟨?_, hab⟩
    rw [ha, hb, Int.mul_left_comm, Int.mul_left_comm b, Int.mul_comm a b]
theorem low_ok {x y : Int} (hy : y ≠ 0) {s : Fr} (h : lowO x y = some s) : frOk s.p s.q = true ∧ s.p * y = s.q * x := by
  have hin := lowO_in hy h
  obtain ⟨h1, h2⟩ := low_val (x := x) hy
  have e : s = ⟨lowP x y, lowQ x y⟩ := by
    unfold lowO at h
    split at h
    · exact (Option.some.inj h).symm
    · cases h
  subst e
  refine ⟨?_, h1⟩
  unfold frOk
  exact decide_eq_true ⟨hin.1, hin.2, h2⟩
theorem drawn_ok {l : List Int} (h : inB8 l) : frOk (lowP (drP l (0, 0)) (drD l (0, 0))) (lowQ (drP l (0, 0)) (drD l (0, 0))) = true := by
  have hq : okQ l (0, 0) 0 := ⟨h, by decide, by decide, by decide⟩
  have hin := dr_in hq
  exact (low_ok (by omega) (low_some hin.1 hin.2)).1
section two
variable {p q p' q' : Int} (ha : frOk p q = true) (hb : frOk p' q' = true)
include ha in
theorem fr_three : lowO (p * 3) (q * 3) = some ⟨p, q⟩ := low_is ha (by have := frOk_iff ha; omega) (by rw [Int.mul_assoc, Int.mul_comm 3 q])
include ha in
theorem fr_neg : lowO (-p) (-q) = some ⟨p, q⟩ := low_is ha (by have := frOk_iff ha; omega) (by rw [Int.neg_mul, Int.mul_neg])
include ha hb in
theorem qq_ne : q * q' ≠ 0 := by
  have h1 := frOk_iff ha
  have h2 := frOk_iff hb
  have := Int.mul_pos (a := q) (b := q') (by omega) (by omega)
  omega
include ha hb in
theorem add_back {s : Fr} (h : addO p q p' q' = some s) : subO s.p s.q p' q' = some ⟨p, q⟩ ∧ frOk s.p s.q = true := by
  unfold addO at h
  obtain ⟨h1, h2⟩ := low_ok (qq_ne ha hb) h
  refine ⟨?_, h1⟩
  unfold subO addO
  refine low_is ha (qq_ne h1 hb) ?_
  have e1 : (s.p * q' + -p' * s.q) * q = s.p * (q * q') - s.q * (p' * q) := by grind
  rw [e1, h2]
  grind
theorem add_comm2 : addO p' q' p q = addO p q p' q' := by
  unfold addO
  rw [Int.mul_comm q' q, Int.add_comm]
include ha hb in
theorem mul_back {m : Fr} (h : mulO p q p' q' = some m) (h0 : p' ≠ 0) : divO m.p m.q p' q' = some ⟨p, q⟩ ∧ frOk m.p m.q = true := by
  unfold mulO at h
  obtain ⟨h1, h2⟩ := low_ok (qq_ne ha hb) h
  refine ⟨?_, h1⟩
  unfold divO
  have hm := frOk_iff h1
  refine low_is ha (Int.mul_ne_zero (by omega) h0) ?_
  have e1 : m.p * q' * q = m.p * (q * q') := by grind
  rw [e1, h2]
  grind
include ha hb in
theorem comp_is : compF p q p' q' = signI (p * q') (p' * q) := by
  have h1 := frOk_iff ha
  have h2 := frOk_iff hb
  unfold compF
  rw [(mul_62 (a := p) (b := q') (by omega) (by omega)).2, (mul_62 (a := p') (b := q) (by omega) (by omega)).2]
include ha hb in
theorem comp_neg : compF p q p' q' = -compF p' q' p q := by
  rw [comp_is ha hb, comp_is hb ha]
  unfold signI
  repeat' split
  all_goals omega
include ha hb in
theorem comp_zero : (compF p q p' q' == 0) = ((p == p') && (q == q')) := by
  rw [comp_is ha hb]
  have key : p * q' = p' * q → p = p' ∧ q = q' := by
    intro e
    have h2 := frOk_iff hb
    have e1 := low_is (x := p') (y := q') ha (by omega) e.symm
    have e2 := low_is (x := p') (y := q') hb (by omega) rfl
    rw [e1] at e2
    injection e2 with e2
    injection e2 with e3 e4
    exact ⟨e3, e4⟩
  rw [Bool.eq_iff_iff, Bool.and_eq_true, beq_iff_eq, beq_iff_eq, beq_iff_eq]
  constructor
  · intro h
    apply key
    unfold signI at h
    split at h
    · omega
    · split at h
      · omega
      · omega
  · rintro ⟨rfl, rfl⟩
    unfold signI
    rw [if_neg (Int.lt_irrefl _), if_neg (Int.lt_irrefl _)]
include ha hb in
theorem sub_sign {d : Fr} (h : subO p q p' q' = some d) : decide (0 < d.p) = decide (0 < compF p q p' q') ∧ decide (d.p < 0) = decide (compF p q p' q' < 0) := by
  unfold subO addO at h
  obtain ⟨h1, h2⟩ := low_ok (qq_ne ha hb) h
  have hd := frOk_iff h1
  have hq1 := frOk_iff ha
  have hq2 := frOk_iff hb
  have hQ := Int.mul_pos (a := q) (b := q') (by omega) (by omega)
  rw [comp_is ha hb]
  have e : p * q' + -p' * q = p * q' - p' * q := by grind
  rw [e] at h2
  generalize p * q' = x at *
  generalize p' * q = y at *
  generalize q * q' = z at *
  have pos : 0 < d.p ↔ y < x := by
    constructor
    · intro hp
      have h3 := Int.mul_pos hp hQ
      rw [h2] at h3
      by_cases c : y < x
      · exact c
      · have h4 := Int.mul_nonneg (a := d.q) (b := y - x) (by omega) (by omega)
        have h5 : d.q * (y - x) = -(d.q * (x - y)) := by grind
        omega
    · intro hp
      have h3 := Int.mul_pos (a := d.q) (b := x - y) (by omega) (by omega)
      rw [← h2] at h3
      by_cases c : 0 < d.p
      · exact c
      · have h4 := Int.mul_nonneg (a := -d.p) (b := z) (by omega) (by omega)
        rw [Int.neg_mul] at h4
        omega
  have neg : d.p < 0 ↔ x < y := by
    constructor
    · intro hp
      have h3 := Int.mul_neg_of_neg_of_pos hp hQ
      rw [h2] at h3
      by_cases c : x < y
      · exact c
      · have := Int.mul_nonneg (a := d.q) (b := x - y) (by omega) (by omega)
        omega
    · intro hp
      have h3 := Int.mul_neg_of_pos_of_neg (a := d.q) (b := x - y) (by omega) (by omega)
      rw [← h2] at h3
      by_cases c : d.p < 0
      · exact c
      · have := Int.mul_nonneg (a := d.p) (b := z) (by omega) (by omega)
        omega
  unfold signI
  constructor
  · rw [decide_eq_decide, pos]
    split
    · omega
    · split <;> omega
  · rw [decide_eq_decide, neg]
    split
    · omega
    · split <;> omega
end two
theorem reads_back {p q : Int} (h : frOk p q = true) : readR (frT p q) = .tup [.agg [.int .i64 p, .int .i64 q], .int .i64 0] := by
  obtain ⟨h1, h2, h3, h4⟩ := impl_reads h
  have hok : readOk (frT p q) = true := by
    unfold readOk
    rw [h1, h2, h3, h4, h, beq_ba]; rfl
  unfold readR
  rw [if_pos hok, h1, h2]
end Go.Proofs.YtgophedkejgedaaDoorAi
end

section
/- Law: FnFractions. -/
namespace Go.Proofs.YtgophedkejgedaaDoorAi
open Go Go.RowKit
set_option linter.unusedVariables false
set_option linter.unusedSimpArgs false
set_option maxRecDepth 20000

noncomputable def sp_long2 : List AV → Option (AV) := pf (ι := (List Int) × (List Int)) (α := AV) (fun ⟨l, k⟩ => l.length ≤ maxLen ∧ k.length ≤ maxLen) (fun ⟨l, k⟩ => [.sl (bysA l) false, .sl (bysA k) false]) (fun ⟨l, k⟩ => .bool (decide (3000 < l.length) || decide (3000 < k.length)))
theorem sp_long2_eq (l k : List Int) (h : l.length ≤ maxLen ∧ k.length ≤ maxLen) : sp_long2 [.sl (bysA l) false, .sl (bysA k) false] = some (.bool (decide (3000 < l.length) || decide (3000 < k.length))) := by
  unfold sp_long2
  exact pf_eq (ι := (List Int) × (List Int)) (α := AV) (l, k) h (by rintro ⟨l', k'⟩ _ e; simp_all [Int.natCast_inj])
theorem q_laws_a2Long : QP PP 15 sp_long2 := by
  refine QP_pf (fun i h => ?_) fun i h => ?_
  · obtain ⟨l, k⟩ := i; exact ⟨by first | rfl | simp, by first | rfl | simp⟩
  obtain ⟨l, k⟩ := i
  replace h : l.length ≤ maxLen ∧ k.length ≤ maxLen := h
  refine P_code Quiet.nil hmix k_laws_a2Long rfl ?_ ?_
  · first | rfl | simp
  show wpc 0 PP _ c_laws_a2Long (initSt [.sl (bysA l) false, .sl (bysA k) false] .nil) (endP r_laws_a2Long (.bool (decide (3000 < l.length) || decide (3000 < k.length))))
  by_cases h1 : 3000 < l.length
  · have h1' : (3000 : Int) < l.length := by omega
    simp -dsimp -implicitDefEqProofs [c_laws_a2Long, r_laws_a2Long, h1, h1']
  · have h1' : ¬ (3000 : Int) < l.length := by omega
    by_cases h2 : 3000 < k.length
    · have h2' : (3000 : Int) < k.length := by omega
      simp -dsimp -implicitDefEqProofs [c_laws_a2Long, r_laws_a2Long, h1, h1', h2, h2']
    · have h2' : ¬ (3000 : Int) < k.length := by omega
      simp -dsimp -implicitDefEqProofs [c_laws_a2Long, r_laws_a2Long, h1, h1', h2, h2']
abbrev tyBytes : Ty := .sl (.int .u8)
theorem wt_bytes {x : AV} (h : WtV tyBytes x) : ∃ l : List Int, x = .sl (bysA l) false ∧ (∀ y ∈ l, 0 ≤ y ∧ y ≤ 255) ∧ l.length ≤ maxLen := by
  rw [tyBytes, WtV_sl] at h
  obtain ⟨xs, rfl, hlen, hx⟩ := h
  have : ∃ l, xs = bysA l ∧ ∀ y ∈ l, 0 ≤ y ∧ y ≤ 255 := by
    clear hlen
    induction xs with
    | nil => exact ⟨[], rfl, fun y hy => (by cases hy)⟩
    | cons x xs ih =>
      obtain ⟨l, rfl, hl⟩ := ih fun y hy => hx y (List.mem_cons_of_mem _ hy)
      have h1 := hx x (List.mem_cons_self ..)
      rw [WtV_int] at h1
      obtain ⟨n, rfl, hn⟩ := h1
      refine ⟨n :: l, rfl, fun y hy => ?_⟩
      rcases List.mem_cons.1 hy with rfl | hy
      · exact ⟨by simpa [IntKind.min, IntKind.signed] using hn.1, by simpa [IntKind.max, IntKind.signed, IntKind.bits] using hn.2⟩
      · exact hl y hy
  obtain ⟨l, rfl, hl⟩ := this
  exact ⟨l, rfl, hl, by simpa using hlen⟩
set_option maxHeartbeats 4000000 in
theorem law_fractions (xs : List AV) (h : WtA [tyBytes, tyBytes] xs) : T PP 5 xs .nil fun r _ => r = .bool true := by
  simp only [WtA_cons, WtA_nil] at h
  obtain ⟨x, _, rfl, hx, y, _, rfl, hy, rfl⟩ := h
  obtain ⟨l, rfl, hl, hll⟩ := wt_bytes hx
  obtain ⟨k, rfl, hk, hkl⟩ := wt_bytes hy
  refine (P_code (r := .bool true) (Quiet.q1 q_laws_a2Long (Quiet.q1 q_spec_A2Wild (Quiet.q1 q_impl_ReadFraction (Quiet.q1 q_impl_FractionText (Quiet.q1 q_impl_FractionOf (Quiet.q1 q_impl_ValidFraction (Quiet.q1 q_impl_CompareFractions (Quiet.q1 q_impl_AddFractions (Quiet.q1 q_spec_AddFractions (Quiet.q1 q_impl_SubFractions (Quiet.q1 q_impl_MulFractions (Quiet.q1 q_spec_MulFractions (Quiet.q1 q_impl_DivFractions Quiet.nil))))))))))))) hmix k_laws_FnFractions rfl rfl ?_).mono fun r A' h => h.1
  have hlong := sp_long2_eq l k ⟨hll, hkl⟩
  cases hv : (decide (3000 < l.length) || decide (3000 < k.length)) with
  | true =>
    rw [hv] at hlong
    simp -dsimp -implicitDefEqProofs [c_laws_FnFractions, r_laws_FnFractions, hlong]
  | false =>
    rw [hv] at hlong
    simp only [Bool.or_eq_false_iff, decide_eq_false_iff_not] at hv
    have il : inB8 l := ⟨hl, by omega⟩
    have ik : inB8 k := ⟨hk, by omega⟩
    have ea := sp_wild_eq l il
    have eb := sp_wild_eq k ik
    have ha := drawn_ok il
    have hb := drawn_ok ik
    generalize lowP (drP l (0, 0)) (drD l (0, 0)) = p at *
    generalize lowQ (drP l (0, 0)) (drD l (0, 0)) = q at *
    generalize lowP (drP k (0, 0)) (drD k (0, 0)) = p' at *
    generalize lowQ (drP k (0, 0)) (drD k (0, 0)) = q' at *
    have fa := frOk_iff ha
    have fb := frOk_iff hb
    have w1 : IntKind.wrap .i64 (p * 3) = p * 3 := wrapI64 (by omega) (by omega)
    have w2 : IntKind.wrap .i64 (q * 3) = q * 3 := wrapI64 (by omega) (by omega)
    have w3 : IntKind.wrap .i64 (-p) = -p := wrapI64 (by omega) (by omega)
    have w4 : IntKind.wrap .i64 (-q) = -q := wrapI64 (by omega) (by omega)
    have et := sp_fracText_eq p q
    have eT : fracT p q = frT p q := by unfold fracT; rw [if_pos ha]
    rw [eT] at et
    have hsz : (frT p q).size ≤ 43 := frS_size (x := ⟨p, q⟩) ha
    have er := sp_readFr_eq (frT p q) (by omega)
    rw [reads_back ha] at er
    have e3 := sp_fracOf_eq (p * 3) (q * 3) ⟨by omega, by omega, by omega⟩
    rw [fr_three ha] at e3
    have en := sp_fracOf_eq (-p) (-q) ⟨by omega, by omega, by omega⟩
    rw [fr_neg ha] at en
    have ec := sp_cmpFr_eq p q p' q' ⟨ha, hb⟩
    have ec2 := sp_cmpFr_eq p' q' p q ⟨hb, ha⟩
    have hC := comp_neg ha hb
    have hz := comp_zero ha hb
    have hin : -1 ≤ compF p' q' p q ∧ compF p' q' p q ≤ 1 := by
      rw [comp_is hb ha]; unfold signI
      repeat' split
      all_goals omega
    have hsg : ∀ d, subO p q p' q' = some d → decide (0 < d.p) = decide (0 < compF p q p' q') ∧ decide (d.p < 0) = decide (compF p q p' q' < 0) := fun d h => sub_sign ha hb h
    generalize compF p' q' p q = C' at *
    generalize compF p q p' q' = C at *
    have w5 : IntKind.wrap .i64 (-C') = -C' := wrapI64 (by omega) (by omega)
    have hA := sp_addFr_eq p q p' q' ⟨ha, hb⟩
    have hM := sp_mulFr_eq p q p' q' ⟨ha, hb⟩
    have hD := sp_subFr_eq p q p' q' ⟨ha, hb⟩
    have hneg : (C == -C') = true := by simpa using hC
    have hneg' : (C != -C') = false := by unfold bne; rw [hneg]; rfl
    simp -dsimp -implicitDefEqProofs [c_laws_FnFractions, r_laws_FnFractions, hlong, ea, eb, et, er, w1, w2, w3, w4, e3, en, ha, hb, ec, ec2, w5, hneg, hneg', hz, frO]
    cases hoA : addO p q p' q' with
    | none =>
      rw [hoA] at hA
      simp -dsimp -implicitDefEqProofs [hA, ea, eb, ha, hb, frO]
      cases hoM : mulO p q p' q' with
      | none =>
        rw [hoM] at hM
        simp -dsimp -implicitDefEqProofs [hM, ea, eb, ha, hb, frO]
        cases hoD : subO p q p' q' with
        | none =>
          rw [hoD] at hD
          simp -dsimp -implicitDefEqProofs [hD, ea, eb, ha, hb, frO]
        | some d =>
          rw [hoD] at hD
          have hs := hsg d hoD
          simp -dsimp -implicitDefEqProofs [hD, hs.1, hs.2, ea, eb, ha, hb, frO]
      | some m =>
        rw [hoM] at hM
        by_cases h0 : p' = 0
        · have h0' : (p' != 0) = false := by rw [h0]; rfl
          simp -dsimp -implicitDefEqProofs [hM, h0', ea, eb, ha, hb, frO]
          cases hoD : subO p q p' q' with
          | none =>
            rw [hoD] at hD
            simp -dsimp -implicitDefEqProofs [hD, ea, eb, ha, hb, frO]
          | some d =>
            rw [hoD] at hD
            have hs := hsg d hoD
            simp -dsimp -implicitDefEqProofs [hD, hs.1, hs.2, ea, eb, ha, hb, frO]
        · have h0' : (p' != 0) = true := by simpa using h0
          have hb2 := mul_back ha hb hoM h0
          have hd := sp_divFr_eq m.p m.q p' q' ⟨hb2.2, hb, h0⟩
          rw [hb2.1] at hd
          simp -dsimp -implicitDefEqProofs [hM, h0', hd, ea, eb, ha, hb, frO]
          cases hoD : subO p q p' q' with
          | none =>
            rw [hoD] at hD
            simp -dsimp -implicitDefEqProofs [hD, ea, eb, ha, hb, frO]
          | some d =>
            rw [hoD] at hD
            have hs := hsg d hoD
            simp -dsimp -implicitDefEqProofs [hD, hs.1, hs.2, ea, eb, ha, hb, frO]
    | some s =>
      have hs2 := add_back ha hb hoA
      have hs3 := sp_subFr_eq s.p s.q p' q' ⟨hs2.2, hb⟩
      rw [hs2.1] at hs3
      have hs4 := sp_addFr_eq p' q' p q ⟨hb, ha⟩
      rw [add_comm2, hoA] at hs4
      rw [hoA] at hA
      simp -dsimp -implicitDefEqProofs [hA, hs3, hs4, hs2.2, ea, eb, ha, hb, frO]
      cases hoM : mulO p q p' q' with
      | none =>
        rw [hoM] at hM
        simp -dsimp -implicitDefEqProofs [hM, ea, eb, ha, hb, frO]
        cases hoD : subO p q p' q' with
        | none =>
          rw [hoD] at hD
          simp -dsimp -implicitDefEqProofs [hD, ea, eb, ha, hb, frO]
        | some d =>
          rw [hoD] at hD
          have hs := hsg d hoD
          simp -dsimp -implicitDefEqProofs [hD, hs.1, hs.2, ea, eb, ha, hb, frO]
      | some m =>
        rw [hoM] at hM
        by_cases h0 : p' = 0
        · have h0' : (p' != 0) = false := by rw [h0]; rfl
          simp -dsimp -implicitDefEqProofs [hM, h0', ea, eb, ha, hb, frO]
          cases hoD : subO p q p' q' with
          | none =>
            rw [hoD] at hD
            simp -dsimp -implicitDefEqProofs [hD, ea, eb, ha, hb, frO]
          | some d =>
            rw [hoD] at hD
            have hs := hsg d hoD
            simp -dsimp -implicitDefEqProofs [hD, hs.1, hs.2, ea, eb, ha, hb, frO]
        · have h0' : (p' != 0) = true := by simpa using h0
          have hb2 := mul_back ha hb hoM h0
          have hd := sp_divFr_eq m.p m.q p' q' ⟨hb2.2, hb, h0⟩
          rw [hb2.1] at hd
          simp -dsimp -implicitDefEqProofs [hM, h0', hd, ea, eb, ha, hb, frO]
          cases hoD : subO p q p' q' with
          | none =>
            rw [hoD] at hD
            simp -dsimp -implicitDefEqProofs [hD, ea, eb, ha, hb, frO]
          | some d =>
            rw [hoD] at hD
            have hs := hsg d hoD
            simp -dsimp -implicitDefEqProofs [hD, hs.1, hs.2, ea, eb, ha, hb, frO]
end Go.Proofs.YtgophedkejgedaaDoorAi
end

section
/- Contracts: the pairs of a graph. -/
namespace Go.Proofs.YtgophedkejgedaaDoorAi
open Go Go.RowKit
set_option linter.unusedVariables false
set_option linter.unusedSimpArgs false
set_option maxRecDepth 20000

def prE (e : Int) (j k : Nat) : List Fr := ((List.range k).filter fun (i : Nat) => hasB e i j).map fun (i : Nat) => ⟨(i : Int), (j : Int)⟩
theorem prE_zero (e : Int) (j : Nat) : prE e j 0 = [] := rfl
theorem prE_true {e : Int} {j k : Nat} (h : hasB e k j = true) : prE e j (k + 1) = prE e j k ++ [⟨(k : Int), (j : Int)⟩] := by
  unfold prE; rw [List.range_succ, List.filter_append, List.map_append]; simp [h]
theorem prE_false {e : Int} {j k : Nat} (h : hasB e k j = false) : prE e j (k + 1) = prE e j k := by
  unfold prE; rw [List.range_succ, List.filter_append, List.map_append]; simp [h]
def pairsE (e : Int) : Nat → List Fr
  | 0 => []
  | j + 1 => pairsE e j ++ prE e j j
theorem prE_len (e : Int) (j k : Nat) : (prE e j k).length ≤ k := by
  unfold prE; rw [List.length_map]; exact Nat.le_trans (List.length_filter_le _ _) (by simp)
theorem pairsE_len (e : Int) : ∀ j, (pairsE e j).length ≤ j * j
  | 0 => Nat.le_refl _
  | j + 1 => by
    have h1 := pairsE_len e j
    have h2 := prE_len e j j
    have h3 : (j + 1) * (j + 1) = j * j + j + j + 1 := by rw [Nat.add_mul, Nat.mul_add]; omega
    rw [pairsE, List.length_append, h3]; omega
def lvE (N : Nat) (L : List Fr) : AV := if L = [] then .sl [] true else .ref N 2 0 L.length .full
def obE (L : List Fr) : List (Option (List AV)) := if L = [] then [] else [some (flatA (frsA L))]
theorem lvE_nil (N : Nat) : lvE N [] = .sl [] true := rfl
theorem obE_nil : obE [] = [] := rfl
theorem lvE_cons {N : Nat} {L : List Fr} (h : L ≠ []) : lvE N L = .ref N 2 0 L.length .full := if_neg h
theorem obE_cons {L : List Fr} (h : L ≠ []) : obE L = [some (flatA (frsA L))] := if_neg h
theorem frE_snoc (L : List Fr) (p q : Int) : flatA (frsA L) ++ [.int .i64 p, .int .i64 q] = flatA (frsA (L ++ [⟨p, q⟩])) := by
  rw [flatA_append]; rfl
theorem obE_inj (f : Nat → Nat) (L : List Fr) : injB f (obE L).length = true := by
  by_cases hL : L = []
  · rw [hL]; rfl
  · rw [obE_cons hL]; rfl
theorem lvE_lt (N : Nat) (L : List Fr) : AV.lt ((obE L).length + N) (lvE N L) = true := by
  by_cases hL : L = []
  · rw [hL, lvE_nil]; rfl
  · rw [obE_cons hL, lvE_cons hL]; simp
theorem lvE_lt0 (L : List Fr) : AV.lt (obE L).length (lvE 0 L) = true := lvE_lt 0 L
def pairsR (e : Int) (n : Nat) : AV × List (Option (List AV)) := (lvE 0 (pairsE e n), obE (pairsE e n))
noncomputable def sp_edges : List AV → Option (AV × List (Option (List AV))) := pf (ι := (Nat) × (Int)) (α := AV × List (Option (List AV))) (fun ⟨n, e⟩ => n ≤ 5 ∧ 0 ≤ e ∧ e ≤ 4294967295) (fun ⟨n, e⟩ => [.agg [.int .i64 n, .int .u32 e]]) (fun ⟨n, e⟩ => pairsR e n)
theorem sp_edges_eq (n : Nat) (e : Int) (h : n ≤ 5 ∧ 0 ≤ e ∧ e ≤ 4294967295) : sp_edges [.agg [.int .i64 n, .int .u32 e]] = some (pairsR e n) := by
  unfold sp_edges
  exact pf_eq (ι := (Nat) × (Int)) (α := AV × List (Option (List AV))) (n, e) h (by rintro ⟨n', e'⟩ _ e; simp_all [Int.natCast_inj])
def eoSt (n : Nat) (e : Int) (j : Nat) : St := ⟨tl [(1, .ptr 0 0), (3, lvE 1 (pairsE e j)), (8, .int .i64 n), (9, .int .i64 j)], ⟨some [.int .i64 n, .int .u32 e] :: obE (pairsE e j)⟩⟩
def eiSt (n : Nat) (e : Int) (j : Nat) (i : Nat) : St := ⟨tl [(1, .ptr 0 0), (3, lvE 1 (pairsE e j ++ prE e j i)), (4, .int .i64 j), (8, .int .i64 n), (9, .int .i64 j), (12, .int .i64 j), (13, .int .i64 i)], ⟨some [.int .i64 n, .int .u32 e] :: obE (pairsE e j ++ prE e j i)⟩⟩
theorem n_impl_Graph_edges : QN PP 81 sp_edges := by
  refine QN_pf (fun i h => ?_) fun i h => ?_
  · obtain ⟨n, e⟩ := i; first | rfl | simp
  obtain ⟨n, e⟩ := i
  replace h : n ≤ 5 ∧ 0 ≤ e ∧ e ≤ 4294967295 := h
  show T PP 81 [.agg [.int .i64 n, .int .u32 e]] .nil fun r' A' => r' = ((pairsR e n : AV × List (Option (List AV)))).1 ∧ A' = ⟨((pairsR e n : AV × List (Option (List AV)))).2⟩
  unfold pairsR
  refine H_code (Quiet.q1 q_impl_Graph_has Quiet.nil) hmix k_impl_Graph_edges rfl (fun _ => 1) (by simp [AHeap.n, AHeap.nil]) (by intro b hb; simp [AHeap.n, AHeap.nil] at hb <;> subst hb <;> rfl) (obE_inj _ _) (lvE_lt0 _) ?_
  simp -dsimp -implicitDefEqProofs [c_impl_Graph_edges, r_impl_Graph_edges]
  refine wpLoop_st (eoSt n e) (fun j => j ≤ n) (fun j => n - j) 0 (by omega) (Sub.keep (by simp [eoSt]) (by simp [hsub, eoSt, pairsE, obE_nil]) (by simp [eoSt, pairsE, lvE_nil])) ?_
  intro j hj
  simp -dsimp -implicitDefEqProofs [eoSt]
  refine brW_of (fun h => ?_) (fun h => ?_) <;> simp only [decide_eq_true_eq, decide_eq_false_iff_not] at h
  · have hwx := wrapNat (i := j) (by omega)
    have hul := pairsE_len e j
    have hjj : j * j ≤ 16 := Nat.mul_le_mul (by omega : j ≤ 4) (by omega : j ≤ 4)
    simp -dsimp -implicitDefEqProofs
    refine wpLoop_st (eiSt n e j) (fun i => i ≤ j) (fun i => j - i) 0 (by omega) (Sub.keep (by simp [eiSt, prE_zero]) (by by_cases hL : pairsE e j = [] <;> simp [hsub, eiSt, prE_zero, hL, obE_nil, obE_cons]) (by simp [eiSt, prE_zero, lvE_lt])) ?_
    intro i hi
    have hrl := prE_len e j i
    simp -dsimp -implicitDefEqProofs [eiSt]
    refine brW_of (fun h2 => ?_) (fun h2 => ?_) <;> simp only [decide_eq_true_eq, decide_eq_false_iff_not] at h2
    · have hwi := wrapNat (i := i) (by omega)
      have hb := sp_has_eq n e i j ⟨⟨by omega, by omega⟩, by unfold vx; omega⟩
      cases hv : hasB e i j with
      | true =>
        have e1 := prE_true (e := e) (j := j) (k := i) hv
        have e2 := frE_snoc (pairsE e j ++ prE e j i) i j
        have e4 : pairsE e j ++ prE e j (i + 1) = (pairsE e j ++ prE e j i) ++ [⟨(i : Int), (j : Int)⟩] := by rw [e1, List.append_assoc]
        have hLl : (pairsE e j ++ prE e j i).length ≤ 20 := by rw [List.length_append]; omega
        rw [hv] at hb
        by_cases hL : pairsE e j ++ prE e j i = []
        · rw [hL] at e4
          have l1 : 1 * 17 ≤ mostBytes := by decide
          rw [hL]
          simp -dsimp -implicitDefEqProofs [hb, hwi, lvE_nil, obE_nil, l1]
          exact .mk (i + 1) (by omega) (by omega) (Sub.mk' (fun b => if b = 1 then 2 else b) (by simp) (by intro b hb; simp at hb <;> omega) (by show injB _ (some _ :: obE (pairsE e j ++ prE e j (i + 1))).length = true; rw [e4, obE_cons (by simp)]; rfl) (by simp [hsub, eiSt, e4, obE, flatA_cons]) (by simp [eiSt, e4, lvE, obE, hwi]))
        · generalize hL2 : pairsE e j ++ prE e j (i + 1) = L2 at *
          generalize pairsE e j ++ prE e j i = L at *
          have l1 : (L.length + 1) * 17 ≤ mostBytes := by simp only [mostBytes]; omega
          have l2 : ¬ ((L.length + 1) * 2 ≤ L.length * 2) := by omega
          have l3 : (flatA (frsA L)).take (L.length * 2) = flatA (frsA L) := List.take_of_length_le (by simp)
          have e5 : L2 ≠ [] := by rw [e4]; simp
          simp -dsimp -implicitDefEqProofs [hb, hwi, l1, l2, l3, e2, lvE_cons hL, obE_cons hL]
          exact .mk (i + 1) (by omega) (by omega) (Sub.mk' (fun b => if b = 1 then 3 else b) (by simp) (by intro b hb; simp at hb <;> omega) (by show injB _ (some _ :: obE (pairsE e j ++ prE e j (i + 1))).length = true; rw [hL2, obE_cons e5]; rfl) (by simp [hsub, eiSt, hL2, e4, obE_cons]) (by simp [eiSt, hL2, e4, lvE_cons, obE_cons, hwi]))
      | false =>
        have e1 := prE_false (e := e) (j := j) (k := i) hv
        rw [hv] at hb
        simp -dsimp -implicitDefEqProofs [hb, hwi]
        exact .mk (i + 1) (by omega) (by omega) (Sub.keep (by simp [eiSt]) (by by_cases hL : pairsE e j ++ prE e j i = [] <;> simp [hsub, eiSt, e1, hL, obE_nil, obE_cons]) (by simp [eiSt, e1, hwi, lvE_lt]))
    · obtain rfl : i = j := by omega
      simp -dsimp -implicitDefEqProofs [hwx]
      exact .mk (i + 1) (by omega) (by omega) (Sub.keep (by simp [eoSt]) (by by_cases hL : pairsE e i ++ prE e i i = [] <;> simp [hsub, eoSt, pairsE, hL, obE_nil, obE_cons]) (by simp [eoSt, pairsE, hwx, lvE_lt]))
  · obtain rfl : j = n := by omega
    by_cases hL : pairsE e j = []
    · simp -dsimp -implicitDefEqProofs [hsub, hL, lvE_nil, obE_nil]
    · simp -dsimp -implicitDefEqProofs [hsub, lvE_cons hL, obE_cons hL]
def soSt (n : Nat) (e : Int) (j : Nat) : St := ⟨tl [(1, .ptr 0 0), (3, lvE 1 (pairsE e (j + 1))), (4, .int .i64 ((j : Int) + 1))], ⟨some [.int .i64 n, .int .u32 e] :: obE (pairsE e (j + 1))⟩⟩
def siSt (n : Nat) (e : Int) (j : Nat) (i : Nat) : St := ⟨tl [(1, .ptr 0 0), (3, lvE 1 (pairsE e (j + 1) ++ prE e (j + 1) i)), (4, .int .i64 ((j : Int) + 1)), (5, .int .i64 i)], ⟨some [.int .i64 n, .int .u32 e] :: obE (pairsE e (j + 1) ++ prE e (j + 1) i)⟩⟩
theorem n_spec_l01Pairs : QN PP 133 sp_edges := by
  refine QN_pf (fun i h => ?_) fun i h => ?_
  · obtain ⟨n, e⟩ := i; first | rfl | simp
  obtain ⟨n, e⟩ := i
  replace h : n ≤ 5 ∧ 0 ≤ e ∧ e ≤ 4294967295 := h
  show T PP 133 [.agg [.int .i64 n, .int .u32 e]] .nil fun r' A' => r' = ((pairsR e n : AV × List (Option (List AV)))).1 ∧ A' = ⟨((pairsR e n : AV × List (Option (List AV)))).2⟩
  unfold pairsR
  refine H_code (Quiet.q1 q_spec_l01Joined Quiet.nil) hmix k_spec_l01Pairs rfl (fun _ => 1) (by simp [AHeap.n, AHeap.nil]) (by intro b hb; simp [AHeap.n, AHeap.nil] at hb <;> subst hb <;> rfl) (obE_inj _ _) (lvE_lt0 _) ?_
  have p1 : pairsE e 1 = [] := rfl
  simp -dsimp -implicitDefEqProofs [c_spec_l01Pairs, r_spec_l01Pairs]
  refine wpLoop_st (soSt n e) (fun j => j = 0 ∨ j + 1 ≤ n) (fun j => n - j) 0 (.inl rfl) (Sub.keep (by simp [soSt]) (by simp [hsub, soSt, p1, obE_nil]) (by simp [soSt, p1, lvE_nil])) ?_
  intro j hj
  simp -dsimp -implicitDefEqProofs [soSt]
  refine brW_of (fun h => ?_) (fun h => ?_) <;> simp only [decide_eq_true_eq, decide_eq_false_iff_not] at h
  · have hwx : IntKind.wrap .i64 ((j : Int) + 1 + 1) = (j : Int) + 1 + 1 := wrapI64 (by omega) (by omega)
    have hul := pairsE_len e (j + 1)
    have hjj : (j + 1) * (j + 1) ≤ 16 := Nat.mul_le_mul (by omega : j + 1 ≤ 4) (by omega : j + 1 ≤ 4)
    simp -dsimp -implicitDefEqProofs
    refine wpLoop_st (siSt n e j) (fun i => i ≤ j + 1) (fun i => j + 1 - i) 0 (by omega) (Sub.keep (by simp [siSt, prE_zero]) (by by_cases hL : pairsE e (j + 1) = [] <;> simp [hsub, siSt, prE_zero, hL, obE_nil, obE_cons]) (by simp [siSt, prE_zero, lvE_lt])) ?_
    intro i hi
    have hrl := prE_len e (j + 1) i
    simp -dsimp -implicitDefEqProofs [siSt]
    refine brW_of (fun h2 => ?_) (fun h2 => ?_) <;> simp only [decide_eq_true_eq, decide_eq_false_iff_not] at h2
    · have hwi := wrapNat (i := i) (by omega)
      have hb := sp_l01Joined_eq n e i ((j : Int) + 1) ⟨⟨by omega, by omega⟩, ⟨by omega, by omega⟩, by omega, by omega⟩
      have hne : decide ((i : Int) ≠ (j : Int) + 1) = true := decide_eq_true (by omega)
      cases hv : hasB e i ((j + 1 : Nat) : Int) with
      | true =>
        have hv' : joinedB e i ((j : Int) + 1) = true := by unfold joinedB; rw [hne]; exact hv
        have e1 := prE_true (e := e) (j := j + 1) (k := i) hv
        have e2 := frE_snoc (pairsE e (j + 1) ++ prE e (j + 1) i) i ((j : Int) + 1)
        have e4 : pairsE e (j + 1) ++ prE e (j + 1) (i + 1) = (pairsE e (j + 1) ++ prE e (j + 1) i) ++ [⟨(i : Int), (j : Int) + 1⟩] := by rw [e1, List.append_assoc]; rfl
        have hLl : (pairsE e (j + 1) ++ prE e (j + 1) i).length ≤ 20 := by rw [List.length_append]; omega
        rw [hv'] at hb
        by_cases hL : pairsE e (j + 1) ++ prE e (j + 1) i = []
        · rw [hL] at e4
          have l1 : 1 * 17 ≤ mostBytes := by decide
          rw [hL]
          simp -dsimp -implicitDefEqProofs [hb, hwi, lvE_nil, obE_nil, l1]
          exact .mk (i + 1) (by omega) (by omega) (Sub.mk' (fun b => if b = 1 then 2 else b) (by simp) (by intro b hb; simp at hb <;> omega) (by show injB _ (some _ :: obE (pairsE e (j + 1) ++ prE e (j + 1) (i + 1))).length = true; rw [e4, obE_cons (by simp)]; rfl) (by simp [hsub, siSt, e4, obE, flatA_cons]) (by simp [siSt, e4, lvE, obE, hwi]))
        · generalize hL2 : pairsE e (j + 1) ++ prE e (j + 1) (i + 1) = L2 at *
          generalize pairsE e (j + 1) ++ prE e (j + 1) i = L at *
          have l1 : (L.length + 1) * 17 ≤ mostBytes := by simp only [mostBytes]; omega
          have l2 : ¬ ((L.length + 1) * 2 ≤ L.length * 2) := by omega
          have l3 : (flatA (frsA L)).take (L.length * 2) = flatA (frsA L) := List.take_of_length_le (by simp)
          have e5 : L2 ≠ [] := by rw [e4]; simp
          simp -dsimp -implicitDefEqProofs [hb, hwi, l1, l2, l3, e2, lvE_cons hL, obE_cons hL]
          exact .mk (i + 1) (by omega) (by omega) (Sub.mk' (fun b => if b = 1 then 3 else b) (by simp) (by intro b hb; simp at hb <;> omega) (by show injB _ (some _ :: obE (pairsE e (j + 1) ++ prE e (j + 1) (i + 1))).length = true; rw [hL2, obE_cons e5]; rfl) (by simp [hsub, siSt, hL2, e4, obE_cons]) (by simp [siSt, hL2, e4, lvE_cons, obE_cons, hwi]))
      | false =>
        have hv' : joinedB e i ((j : Int) + 1) = false := by unfold joinedB; rw [hne]; exact hv
        have e1 := prE_false (e := e) (j := j + 1) (k := i) hv
        rw [hv'] at hb
        simp -dsimp -implicitDefEqProofs [hb, hwi]
        exact .mk (i + 1) (by omega) (by omega) (Sub.keep (by simp [siSt]) (by by_cases hL : pairsE e (j + 1) ++ prE e (j + 1) i = [] <;> simp [hsub, siSt, e1, hL, obE_nil, obE_cons]) (by simp [siSt, e1, hwi, lvE_lt]))
    · obtain rfl : i = j + 1 := by omega
      have e6 : pairsE e (j + 1) ++ prE e (j + 1) (j + 1) = pairsE e (j + 1 + 1) := rfl
      rw [e6]
      simp -dsimp -implicitDefEqProofs [hwx]
      exact .mk (j + 1) (by omega) (by omega) (Sub.keep (by simp [soSt]) (by by_cases hL : pairsE e (j + 1 + 1) = [] <;> simp [hsub, soSt, hL, obE_nil, obE_cons]) (by simp [soSt, hwx, lvE_lt]))
  · have e7 : pairsE e (j + 1) = pairsE e n := by
      rcases hj with rfl | hj
      · have : n = 0 ∨ n = 1 := by omega
        rcases this with rfl | rfl <;> rfl
      · rw [show j + 1 = n by omega]
    rw [e7]
    by_cases hL : pairsE e n = []
    · simp -dsimp -implicitDefEqProofs [hsub, hL, lvE_nil, obE_nil]
    · simp -dsimp -implicitDefEqProofs [hsub, lvE_cons hL, obE_cons hL]
end Go.Proofs.YtgophedkejgedaaDoorAi
end

section
/- Contracts and laws: GraphText, FlagText. -/
namespace Go.Proofs.YtgophedkejgedaaDoorAi
open Go Go.RowKit
set_option linter.unusedVariables false
set_option linter.unusedSimpArgs false
set_option maxRecDepth 20000

theorem getF0 (l : List Fr) (i : Nat) (h : i < l.length) (h2 : i * 2 < (flatA (frsA l)).length) : (flatA (frsA l))[i * 2] = .int .i64 l[i].p := by
  have := get_fr0 l i h
  rw [List.getElem?_eq_getElem h2] at this
  exact Option.some.inj this
theorem getF1 (l : List Fr) (i : Nat) (h : i < l.length) (h2 : i * 2 + 1 < (flatA (frsA l)).length) : (flatA (frsA l))[i * 2 + 1] = .int .i64 l[i].q := by
  have := get_fr1 l i h
  rw [List.getElem?_eq_getElem h2] at this
  exact Option.some.inj this
def sepB : ByteArray := ⟨#[32]⟩
def dashB : ByteArray := ⟨#[45]⟩
def graphB : ByteArray := ⟨#[103, 114, 97, 112, 104, 32]⟩
def edgeT (p q : Int) : ByteArray := sepB ++ decB p ++ dashB ++ decB q
def edT (w : ByteArray) (L : List Fr) : ByteArray := L.foldl (fun w x => w ++ edgeT x.p x.q) w
theorem edT_snoc (w : ByteArray) (L : List Fr) (i : Nat) (h : i < L.length) : edT w (L.take (i + 1)) = edT w (L.take i) ++ edgeT L[i].p L[i].q := by
  rw [take_snoc L i h]; unfold edT; rw [List.foldl_append]; rfl
theorem edgeT_size {p q : Int} (hp : -9223372036854775808 ≤ p ∧ p ≤ 9223372036854775807) (hq : -9223372036854775808 ≤ q ∧ q ≤ 9223372036854775807) : (edgeT p q).size ≤ 44 := by
  have h1 := decB_size p hp.1 hp.2
  have h2 := decB_size q hq.1 hq.2
  have h3 : sepB.size = 1 := rfl
  have h4 : dashB.size = 1 := rfl
  unfold edgeT
  simp only [ByteArray.size_append]
  omega
theorem edT_size (w : ByteArray) (L : List Fr) (hL : ∀ x ∈ L, (0 ≤ x.p ∧ x.p < 5) ∧ (0 ≤ x.q ∧ x.q < 5)) : (edT w L).size ≤ w.size + L.length * 44 := by
  induction L generalizing w with
  | nil => simp [edT]
  | cons x L ih =>
    have hx := hL x (List.mem_cons_self ..)
    have h1 := ih (w ++ edgeT x.p x.q) fun y hy => hL y (List.mem_cons_of_mem _ hy)
    have h2 := edgeT_size (p := x.p) (q := x.q) (by omega) (by omega)
    show (edT (w ++ edgeT x.p x.q) L).size ≤ _
    rw [ByteArray.size_append] at h1
    rw [List.length_cons]
    omega
theorem prE_in {e : Int} {j k : Nat} (hj : j < 5) (hk : k ≤ 5) : ∀ x ∈ prE e j k, (0 ≤ x.p ∧ x.p < 5) ∧ (0 ≤ x.q ∧ x.q < 5) := by
  intro x hx
  unfold prE at hx
  obtain ⟨i, hi, rfl⟩ := List.mem_map.1 hx
  have := List.mem_range.1 (List.mem_filter.1 hi).1
  simp only
  omega
theorem pairsE_in (e : Int) : ∀ (j : Nat), j ≤ 5 → ∀ x ∈ pairsE e j, (0 ≤ x.p ∧ x.p < 5) ∧ (0 ≤ x.q ∧ x.q < 5)
  | 0, _ => by intro x hx; cases hx
  | j + 1, hj => by
    intro x hx
    rw [pairsE] at hx
    rcases List.mem_append.1 hx with hx | hx
    · exact pairsE_in e j (by omega) x hx
    · exact prE_in (by omega) (by omega) x hx
def grT (e : Int) (n : Nat) : ByteArray := edT (graphB ++ decB n) (pairsE e n)
theorem grT_len {e : Int} {n : Nat} (h : n ≤ 5) : (pairsE e n).length ≤ 25 := Nat.le_trans (pairsE_len e n) (Nat.mul_le_mul h h)
theorem edT_take {e : Int} {n : Nat} (h : n ≤ 5) (i : Nat) : (edT (graphB ++ decB n) ((pairsE e n).take i)).size ≤ 1200 := by
  have h1 := edT_size (graphB ++ decB n) ((pairsE e n).take i) fun x hx => pairsE_in e n h x (List.mem_of_mem_take hx)
  have h2 := grT_len (e := e) h
  have h3 : ((pairsE e n).take i).length ≤ (pairsE e n).length := by rw [List.length_take]; omega
  have h4 := decB_size n (by omega) (by omega)
  have h5 : graphB.size = 6 := rfl
  rw [ByteArray.size_append] at h1
  omega
noncomputable def sp_graphTx : List AV → Option (AV) := pf (ι := (Nat) × (Int)) (α := AV) (fun ⟨n, e⟩ => n ≤ 5 ∧ 0 ≤ e ∧ e ≤ 4294967295) (fun ⟨n, e⟩ => [.agg [.int .i64 n, .int .u32 e]]) (fun ⟨n, e⟩ => .str (grT e n))
theorem sp_graphTx_eq (n : Nat) (e : Int) (h : n ≤ 5 ∧ 0 ≤ e ∧ e ≤ 4294967295) : sp_graphTx [.agg [.int .i64 n, .int .u32 e]] = some (.str (grT e n)) := by
  unfold sp_graphTx
  exact pf_eq (ι := (Nat) × (Int)) (α := AV) (n, e) h (by rintro ⟨n', e'⟩ _ e; simp_all [Int.natCast_inj])
theorem q_impl_Graph_text : QP PP 88 sp_graphTx := by
  refine QP_pf (fun i h => ?_) fun i h => ?_
  · obtain ⟨n, e⟩ := i; exact ⟨by first | rfl | simp, by first | rfl | simp⟩
  obtain ⟨n, e⟩ := i
  replace h : n ≤ 5 ∧ 0 ≤ e ∧ e ≤ 4294967295 := h
  refine P_code (Quiet.q1 q_impl_decimal (Quiet.e1 n_impl_Graph_edges.toE Quiet.nil)) hmix k_impl_Graph_text rfl ?_ ?_
  · first | rfl | simp
  show wpc 0 PP _ c_impl_Graph_text (initSt [.agg [.int .i64 n, .int .u32 e]] .nil) (endP r_impl_Graph_text (.str (grT e n)))
  have hd := sp_decimal_eq n (by omega)
  have hs := decB_size n (by omega) (by omega)
  have he := sp_edges_eq n e h
  have z0 : 6 + (decB n).size ≤ 9223372036854775807 := by omega
  have hin := pairsE_in e n h.1
  have hlen := grT_len (e := e) h.1
  unfold pairsR at he
  unfold grT
  by_cases hL : pairsE e n = []
  · rw [hL, lvE_nil, obE_nil] at he
    rw [hL]
    simp -dsimp -implicitDefEqProofs [c_impl_Graph_text, r_impl_Graph_text, hd, he, z0]
    refine wpLoop_st (fun (_ : Unit) => ⟨tl [(3, .str (graphB ++ decB n)), (11, .sl [] true), (12, .int .i64 0), (13, .int .i64 0)], ⟨[]⟩⟩) (fun _ => True) (fun _ => 0) () trivial (Sub.keep (by simp) (by simp [hsub]) (by simp [graphB])) ?_
    intro i hi
    simp -dsimp -implicitDefEqProofs [edT]
  · have ht := fun i => edT_take (e := e) h.1 i
    generalize pairsE e n = L at *
    rw [lvE_cons hL, obE_cons hL] at he
    simp -dsimp -implicitDefEqProofs [c_impl_Graph_text, r_impl_Graph_text, hd, he, z0]
    refine wpLoop_st (fun (i : Nat) => ⟨tl [(3, .str (edT (graphB ++ decB n) (L.take i))), (11, .ref 1 2 0 L.length .full), (12, .int .i64 L.length), (13, .int .i64 i)], ⟨[some [.int .i64 n, .int .u32 e], some (flatA (frsA L))]⟩⟩) (fun i => i ≤ L.length) (fun i => L.length - i) 0 (by omega) (Sub.keep (by simp) (by simp [hsub]) (by simp [graphB, edT])) ?_
    intro i hi
    simp -dsimp -implicitDefEqProofs
    refine brW_of (fun h2 => ?_) (fun h2 => ?_) <;> simp only [decide_eq_true_eq, decide_eq_false_iff_not] at h2
    · have hx : i < L.length := by omega
      have hwi := wrapNat (i := i) (by omega)
      have hm := hin L[i] (List.getElem_mem hx)
      have hp := sp_decimal_eq L[i].p (by omega)
      have hq := sp_decimal_eq L[i].q (by omega)
      have hes := edT_snoc (graphB ++ decB n) L i hx
      have ht1 := ht i
      have q0 := get_fr0 L i hx
      have q1 := get_fr1 L i hx
      have g0 := getF0 L i hx (by simp; omega)
      have g1 := getF1 L i hx (by simp; omega)
      have sp := decB_size L[i].p (by omega) (by omega)
      have sq := decB_size L[i].q (by omega) (by omega)
      have z1 : 1 + (decB L[i].p).size ≤ 9223372036854775807 := by omega
      have z2 : 1 + (decB L[i].p).size + 1 ≤ 9223372036854775807 := by omega
      have z3 : 1 + (decB L[i].p).size + 1 + (decB L[i].q).size ≤ 9223372036854775807 := by omega
      have z4 : (edT (graphB ++ decB n) (L.take i)).size + (1 + (decB L[i].p).size + 1 + (decB L[i].q).size) ≤ 9223372036854775807 := by omega
      simp -dsimp -implicitDefEqProofs [hx, hp, hq, hwi, g0, g1, q0, q1, z1, z2, z3, z4]
      exact .mk (i + 1) (by omega) (by omega) (Sub.keep (by simp) (by simp [hsub]) (by simp [hes, edgeT, sepB, dashB, hwi]))
    · obtain rfl : i = L.length := by omega
      simp -dsimp -implicitDefEqProofs
theorem graphOk_in {n e : Int} (h : graphOk n e = true) : 0 ≤ n ∧ n ≤ 5 := by
  unfold graphOk at h
  exact (of_decide_eq_true h).1
def graphT (n e : Int) : ByteArray := if graphOk n e = true then grT e n.toNat else noB
noncomputable def sp_graphText : List AV → Option (AV) := pf (ι := (Int) × (Int)) (α := AV) (fun ⟨n, e⟩ => 0 ≤ e ∧ e ≤ 4294967295) (fun ⟨n, e⟩ => [.agg [.int .i64 n, .int .u32 e]]) (fun ⟨n, e⟩ => .str (graphT n e))
theorem sp_graphText_eq (n e : Int) (h : 0 ≤ e ∧ e ≤ 4294967295) : sp_graphText [.agg [.int .i64 n, .int .u32 e]] = some (.str (graphT n e)) := by
  unfold sp_graphText
  exact pf_eq (ι := (Int) × (Int)) (α := AV) (n, e) h (by rintro ⟨n', e'⟩ _ e; simp_all [Int.natCast_inj])
theorem q_impl_GraphText : QP PP 33 sp_graphText := by
  refine QP_pf (fun i h => ?_) fun i h => ?_
  · obtain ⟨n, e⟩ := i; exact ⟨by first | rfl | simp, by first | rfl | simp⟩
  obtain ⟨n, e⟩ := i
  replace h : 0 ≤ e ∧ e ≤ 4294967295 := h
  refine P_code (Quiet.q1 q_impl_ValidGraph (Quiet.q1 q_impl_Graph_text Quiet.nil)) hmix k_impl_GraphText rfl ?_ ?_
  · first | rfl | simp
  show wpc 0 PP _ c_impl_GraphText (initSt [.agg [.int .i64 n, .int .u32 e]] .nil) (endP r_impl_GraphText (.str (graphT n e)))
  have ho := sp_graphOk_eq n e h
  cases hf : graphOk n e with
  | false =>
    rw [hf] at ho
    simp -dsimp -implicitDefEqProofs [c_impl_GraphText, r_impl_GraphText, ho, hf, graphT, noB]
  | true =>
    rw [hf] at ho
    have hn := graphOk_in hf
    obtain ⟨m, rfl⟩ := Int.eq_ofNat_of_zero_le hn.1
    have ht := sp_graphTx_eq m e ⟨by omega, h⟩
    simp -dsimp -implicitDefEqProofs [c_impl_GraphText, r_impl_GraphText, ho, hf, graphT, ht]
theorem q_spec_GraphText : QP PP 98 sp_graphText := by
  refine QP_pf (fun i h => ?_) fun i h => ?_
  · obtain ⟨n, e⟩ := i; exact ⟨by first | rfl | simp, by first | rfl | simp⟩
  obtain ⟨n, e⟩ := i
  replace h : 0 ≤ e ∧ e ≤ 4294967295 := h
  refine P_code (Quiet.q1 q_spec_l01Ok (Quiet.q1 q_spec_Decimal (Quiet.e1 n_spec_l01Pairs.toE Quiet.nil))) hmix k_spec_GraphText rfl ?_ ?_
  · first | rfl | simp
  show wpc 0 PP _ c_spec_GraphText (initSt [.agg [.int .i64 n, .int .u32 e]] .nil) (endP r_spec_GraphText (.str (graphT n e)))
  have ho := sp_graphOk_eq n e h
  cases hf : graphOk n e with
  | false =>
    rw [hf] at ho
    simp -dsimp -implicitDefEqProofs [c_spec_GraphText, r_spec_GraphText, ho, hf, graphT, noB]
  | true =>
    rw [hf] at ho
    have hn := graphOk_in hf
    obtain ⟨m, rfl⟩ := Int.eq_ofNat_of_zero_le hn.1
    have hm5 : m ≤ 5 := by omega
    have hd := sp_decS_eq m (by omega)
    have hs := decB_size m (by omega) (by omega)
    have he := sp_edges_eq m e ⟨hm5, h⟩
    have z0 : 6 + (decB m).size ≤ 9223372036854775807 := by omega
    have hin := pairsE_in e m hm5
    have hlen := grT_len (e := e) hm5
    unfold pairsR at he
    unfold graphT
    rw [if_pos hf, Int.toNat_natCast]
    unfold grT
    by_cases hL : pairsE e m = []
    · rw [hL, lvE_nil, obE_nil] at he
      rw [hL]
      simp -dsimp -implicitDefEqProofs [c_spec_GraphText, r_spec_GraphText, ho, hd, he, z0]
      refine wpLoop_st (fun (_ : Unit) => ⟨tl [(3, .str (graphB ++ decB m)), (4, .sl [] true), (5, .int .i64 0)], ⟨[]⟩⟩) (fun _ => True) (fun _ => 0) () trivial (Sub.keep (by simp) (by simp [hsub]) (by simp [graphB])) ?_
      intro i hi
      simp -dsimp -implicitDefEqProofs [edT]
    · have ht := fun i => edT_take (e := e) hm5 i
      generalize pairsE e m = L at *
      rw [lvE_cons hL, obE_cons hL] at he
      simp -dsimp -implicitDefEqProofs [c_spec_GraphText, r_spec_GraphText, ho, hd, he, z0]
      refine wpLoop_st (fun (i : Nat) => ⟨tl [(3, .str (edT (graphB ++ decB m) (L.take i))), (4, .ref 1 2 0 L.length .full), (5, .int .i64 i)], ⟨[some [.int .i64 m, .int .u32 e], some (flatA (frsA L))]⟩⟩) (fun i => i ≤ L.length) (fun i => L.length - i) 0 (by omega) (Sub.keep (by simp) (by simp [hsub]) (by simp [graphB, edT])) ?_
      intro i hi
      simp -dsimp -implicitDefEqProofs
      refine brW_of (fun h2 => ?_) (fun h2 => ?_) <;> simp only [decide_eq_true_eq, decide_eq_false_iff_not] at h2
      · have hx : i < L.length := by omega
        have hwi := wrapNat (i := i) (by omega)
        have hmm := hin L[i] (List.getElem_mem hx)
        have hp := sp_decS_eq L[i].p (by omega)
        have hq := sp_decS_eq L[i].q (by omega)
        have hes := edT_snoc (graphB ++ decB m) L i hx
        have ht1 := ht i
        have q0 := get_fr0 L i hx
        have q1 := get_fr1 L i hx
        have g0 := getF0 L i hx (by simp; omega)
        have g1 := getF1 L i hx (by simp; omega)
        have sp := decB_size L[i].p (by omega) (by omega)
        have sq := decB_size L[i].q (by omega) (by omega)
        have z1 : 1 + (decB L[i].p).size ≤ 9223372036854775807 := by omega
        have z2 : 1 + (decB L[i].p).size + 1 ≤ 9223372036854775807 := by omega
        have z3 : 1 + (decB L[i].p).size + 1 + (decB L[i].q).size ≤ 9223372036854775807 := by omega
        have z4 : (edT (graphB ++ decB m) (L.take i)).size + (1 + (decB L[i].p).size + 1 + (decB L[i].q).size) ≤ 9223372036854775807 := by omega
        simp -dsimp -implicitDefEqProofs [hx, hp, hq, hwi, g0, g1, q0, q1, z1, z2, z3, z4]
        exact .mk (i + 1) (by omega) (by omega) (Sub.keep (by simp) (by simp [hsub]) (by simp [hes, edgeT, sepB, dashB, hwi]))
      · obtain rfl : i = L.length := by omega
        simp -dsimp -implicitDefEqProofs
abbrev tyGraphT : Ty := .st [.int .i64, .int .u32]
end Go.Proofs.YtgophedkejgedaaDoorAi
end

section
/- MADE BY PROGRAM (wip/tools/gen.py): the abstract code of functions. -/
namespace Go.Proofs.YtgophedkejgedaaDoorAi
open Go AC AOp Opd
set_option linter.unusedVariables false
set_option maxRecDepth 100000
def c_impl_isPair : AC := seq (reg [⟨(some 6), mv (c (.bool false)), none⟩]) (seq (reg [⟨(some 7), mv (t 1), none⟩, ⟨(some 8), mv (t 0), none⟩, ⟨(some 9), bin .sub (t 8) (c (.int .i64 1)), none⟩, ⟨(some 10), callq (c (.fn 62 [])) [t 7, c (.int .i64 0), t 9], none⟩, ⟨(some 11), mv (t 10), none⟩, ⟨(some 12), mv (t 2), some (11, true)⟩, ⟨(some 13), mv (t 0), some (11, true)⟩, ⟨(some 14), bin .sub (t 13) (c (.int .i64 1)), some (11, true)⟩, ⟨(some 15), callq (c (.fn 62 [])) [t 12, c (.int .i64 0), t 14], some (11, true)⟩, ⟨(some 16), pick (t 11) (t 15) (c (.bool false)), none⟩, ⟨(some 17), mv (t 16), none⟩, ⟨(some 18), mv (t 1), some (17, true)⟩, ⟨(some 19), mv (t 2), some (17, true)⟩, ⟨(some 20), bin .neq (t 18) (t 19), some (17, true)⟩, ⟨(some 21), pick (t 17) (t 20) (c (.bool false)), none⟩, ⟨(some 6), mv (t 21), none⟩]) (ret))
def r_impl_isPair : List ARes := [.tmp 6]
theorem k_impl_isPair : acLin Go.Proofs.Tryd.prog 85 3 (inQ [62] []) [] = some (c_impl_isPair, r_impl_isPair) := by kernel_rfl
def c_impl_ReadGraph : AC := seq (reg [⟨(some 2), alloc [.int .i64 0, .int .u32 0], none⟩, ⟨(some 3), mv (c (.int .i64 0)), none⟩]) (seq (reg [⟨(some 20), mv (t 0), none⟩, ⟨(some 21), callq (c (.fn 87 [])) [t 20, c (.str ⟨#[103, 114, 97, 112, 104, 32]⟩)], none⟩, ⟨(some 19), mv (t 21), none⟩, ⟨(some 22), ext (t 19) 0, none⟩, ⟨(some 23), ext (t 19) 1, none⟩, ⟨(some 4), mv (t 22), none⟩, ⟨(some 5), mv (t 23), none⟩]) (seq (reg [⟨(some 24), mv (t 4), none⟩, ⟨(some 25), calle (c (.fn 52 [])) [t 24, c (.str ⟨#[32]⟩)] [], none⟩, ⟨(some 6), mv (t 25), none⟩]) (seq (reg [⟨(some 27), mv (t 6), none⟩, ⟨(some 28), iad 1 (t 27) (c (.int .i64 0)), none⟩, ⟨(some 29), ld (t 28) 1 false, none⟩, ⟨(some 30), callq (c (.fn 60 [])) [t 29], none⟩, ⟨(some 26), mv (t 30), none⟩, ⟨(some 31), ext (t 26) 0, none⟩, ⟨(some 32), ext (t 26) 1, none⟩, ⟨(some 7), mv (t 31), none⟩, ⟨(some 8), mv (t 32), none⟩]) (seq (seq (reg [⟨(some 33), mv (t 5), none⟩, ⟨(some 34), un .not (t 33), none⟩, ⟨(some 35), mv (t 34), none⟩, ⟨(some 36), mv (t 8), some (35, false)⟩, ⟨(some 37), un .not (t 36), some (35, false)⟩, ⟨(some 38), pick (t 35) (c (.bool true)) (t 37), none⟩, ⟨(some 39), mv (t 38), none⟩, ⟨(some 40), mv (t 7), some (39, false)⟩, ⟨(some 41), callq (c (.fn 82 [])) [t 40], some (39, false)⟩, ⟨(some 42), un .not (t 41), some (39, false)⟩, ⟨(some 43), pick (t 39) (c (.bool true)) (t 42), none⟩]) (cond (t 43) (seq (reg [⟨(some 44), bld [.int .i64 0, .int .u32 0] [], none⟩, ⟨none, st (t 2) 2 (t 44), none⟩, ⟨(some 3), mv (c (.int .i64 5)), none⟩]) (ret)) (skip))) (seq (reg [⟨(some 45), mv (t 7), none⟩, ⟨(some 46), bld [.int .i64 0, .int .u32 0] [(0, 1, t 45)], none⟩, ⟨(some 9), alloc [.int .i64 0, .int .u32 0], none⟩, ⟨none, st (t 9) 2 (t 46), none⟩]) (seq (seq (reg [⟨(some 47), mv (t 6), none⟩, ⟨(some 48), sli 1 (t 47) (some (c (.int .i64 1))) none none, none⟩, ⟨(some 49), len (t 48), none⟩, ⟨(some 50), mv (c (.int .i64 0)), none⟩]) (block 0 (loop (seq (reg [⟨(some 51), bin .lss (t 50) (t 49), none⟩]) (seq (cond (t 51) (skip) (exit 0)) (seq (block 1 (seq (reg [⟨(some 52), iad 1 (t 48) (t 50), none⟩, ⟨(some 53), ld (t 52) 1 false, none⟩, ⟨(some 11), mv (t 53), none⟩]) (seq (reg [⟨(some 55), mv (t 11), none⟩, ⟨(some 56), callq (c (.fn 59 [])) [t 55, c (.str ⟨#[45]⟩)], none⟩, ⟨(some 54), mv (t 56), none⟩, ⟨(some 57), ext (t 54) 0, none⟩, ⟨(some 58), ext (t 54) 1, none⟩, ⟨(some 59), ext (t 54) 2, none⟩, ⟨(some 12), mv (t 57), none⟩, ⟨(some 13), mv (t 58), none⟩, ⟨(some 14), mv (t 59), none⟩]) (seq (reg [⟨(some 61), mv (t 12), none⟩, ⟨(some 62), callq (c (.fn 60 [])) [t 61], none⟩, ⟨(some 60), mv (t 62), none⟩, ⟨(some 63), ext (t 60) 0, none⟩, ⟨(some 64), ext (t 60) 1, none⟩, ⟨(some 15), mv (t 63), none⟩, ⟨(some 16), mv (t 64), none⟩]) (seq (reg [⟨(some 66), mv (t 13), none⟩, ⟨(some 67), callq (c (.fn 60 [])) [t 66], none⟩, ⟨(some 65), mv (t 67), none⟩, ⟨(some 68), ext (t 65) 0, none⟩, ⟨(some 69), ext (t 65) 1, none⟩, ⟨(some 17), mv (t 68), none⟩, ⟨(some 18), mv (t 69), none⟩]) (seq (seq (reg [⟨(some 70), mv (t 16), none⟩, ⟨(some 71), un .not (t 70), none⟩, ⟨(some 72), mv (t 71), none⟩, ⟨(some 73), mv (t 18), some (72, false)⟩, ⟨(some 74), un .not (t 73), some (72, false)⟩, ⟨(some 75), pick (t 72) (c (.bool true)) (t 74), none⟩, ⟨(some 76), mv (t 75), none⟩, ⟨(some 77), mv (t 7), some (76, false)⟩, ⟨(some 78), mv (t 15), some (76, false)⟩, ⟨(some 79), mv (t 17), some (76, false)⟩, ⟨(some 80), callq (c (.fn 85 [])) [t 77, t 78, t 79], some (76, false)⟩, ⟨(some 81), un .not (t 80), some (76, false)⟩, ⟨(some 82), pick (t 76) (c (.bool true)) (t 81), none⟩]) (cond (t 82) (seq (reg [⟨(some 83), bld [.int .i64 0, .int .u32 0] [], none⟩, ⟨none, st (t 2) 2 (t 83), none⟩, ⟨(some 3), mv (c (.int .i64 5)), none⟩]) (ret)) (skip))) (reg [⟨(some 84), fad (t 9) 1, none⟩, ⟨(some 85), ld (t 84) 1 false, none⟩, ⟨(some 86), mv (t 15), none⟩, ⟨(some 87), mv (t 17), none⟩, ⟨(some 88), callq (c (.fn 86 [])) [t 86, t 87], none⟩, ⟨(some 89), bin .or (t 85) (t 88), none⟩, ⟨(some 90), fad (t 9) 1, none⟩, ⟨none, st (t 90) 1 (t 89), none⟩]))))))) (reg [⟨(some 91), bin .add (t 50) (c (.int .i64 1)), none⟩, ⟨(some 50), mv (t 91), none⟩]))))))) (seq (seq (reg [⟨(some 92), ld (t 9) 2 true, none⟩, ⟨(some 93), callq (c (.fn 88 [])) [t 92], none⟩, ⟨(some 94), mv (t 0), none⟩, ⟨(some 95), bin .neq (t 93) (t 94), none⟩]) (cond (t 95) (seq (reg [⟨(some 96), bld [.int .i64 0, .int .u32 0] [], none⟩, ⟨none, st (t 2) 2 (t 96), none⟩, ⟨(some 3), mv (c (.int .i64 5)), none⟩]) (ret)) (skip))) (seq (reg [⟨(some 97), ld (t 9) 2 true, none⟩, ⟨none, st (t 2) 2 (t 97), none⟩, ⟨(some 3), mv (c (.int .i64 0)), none⟩]) (ret)))))))))
def r_impl_ReadGraph : List ARes := [.cell 2 2 true, .tmp 3]
theorem k_impl_ReadGraph : acLin Go.Proofs.Tryd.prog 32 1 (inQ [59, 60, 82, 85, 86, 87, 88] [52]) [⟨false, none, [], [], none⟩, ⟨false, none, [], [], none⟩, ⟨false, none, [], [], none⟩, ⟨false, none, [], [], none⟩, ⟨false, none, [], [], none⟩, ⟨false, none, [], [], none⟩, ⟨false, none, [], [], none⟩, ⟨false, none, [], [], none⟩, ⟨false, none, [], [], none⟩, ⟨false, none, [], [], none⟩, ⟨false, none, [], [], none⟩, ⟨false, none, [], [], none⟩, ⟨false, none, [], [], none⟩, ⟨false, none, [], [], none⟩, ⟨false, none, [], [], none⟩, ⟨false, none, [], [], none⟩, ⟨false, none, [], [], none⟩, ⟨false, none, [], [], none⟩, ⟨false, some [0, 1, 2, 3, 4, 5, 6, 7], [], [], none⟩] = some (c_impl_ReadGraph, r_impl_ReadGraph) := by kernel_rfl
end Go.Proofs.YtgophedkejgedaaDoorAi
end

section
/- Contracts: strings.Split, strings.CutPrefix. Plain law: pieces of joined texts. -/
namespace Go.Proofs.YtgophedkejgedaaDoorAi
open Go Go.RowKit
set_option linter.unusedVariables false
set_option linter.unusedSimpArgs false
set_option maxRecDepth 20000

def piecesB (s sep : ByteArray) : List ByteArray := Go.Lib.splitB sep 0 (Go.Lib.countB s sep) s
theorem pieces_len (s sep : ByteArray) (h : 1 ≤ sep.size) : (piecesB s sep).length = Go.Lib.countB s sep + 1 := Go.Lib.splitB_all sep h 0 _ s rfl
theorem count_le (s sep : ByteArray) (h : 1 ≤ sep.size) : Go.Lib.countB s sep ≤ s.size := Go.Lib.countB_le sep h s.size s (Nat.le_refl _)
noncomputable def sp_pieces : List AV → Option (AV × List (Option (List AV))) := pf (ι := (ByteArray) × (ByteArray)) (α := AV × List (Option (List AV))) (fun ⟨s, sep⟩ => s.size ≤ 1048576 ∧ sep.size = 1) (fun ⟨s, sep⟩ => [.str s, .str sep]) (fun ⟨s, sep⟩ => (.ref 0 1 0 (piecesB s sep).length .tight, [some (flatA (strsA (piecesB s sep)))]))
theorem sp_pieces_eq (s sep : ByteArray) (h : s.size ≤ 1048576 ∧ sep.size = 1) : sp_pieces [.str s, .str sep] = some ((.ref 0 1 0 (piecesB s sep).length .tight, [some (flatA (strsA (piecesB s sep)))])) := by
  unfold sp_pieces
  exact pf_eq (ι := (ByteArray) × (ByteArray)) (α := AV × List (Option (List AV))) (s, sep) h (by rintro ⟨s', sep'⟩ _ e; simp_all [Int.natCast_inj])
theorem n_strings_Split : QN PP 52 sp_pieces := by
  refine QN_pf (fun i h => ?_) fun i h => ?_
  · obtain ⟨s, sep⟩ := i; first | rfl | simp
  obtain ⟨s, sep⟩ := i
  replace h : s.size ≤ 1048576 ∧ sep.size = 1 := h
  show T PP 52 [.str s, .str sep] .nil fun r' A' => r' = .ref 0 1 0 (piecesB s sep).length .tight ∧ A' = ⟨[some (flatA (strsA (piecesB s sep)))]⟩
  refine ⟨⟨_, Tryd.func52, by kernel_rfl, by kernel_rfl⟩, fun B w0 σ w vs hG hb hs hr => ?_⟩
  obtain ⟨v1, us, rfl, h1, h2⟩ := hr.head
  obtain ⟨v2, us2, rfl, h3, h4⟩ := h2.head
  obtain rfl : us2 = [] := List.eq_nil_of_length_eq_zero h4.1.symm
  cases h1; cases h3
  obtain ⟨m, hm⟩ := (hG w hb).max (by kernel_rfl)
  have hl := pieces_len s sep (by omega)
  have hc := count_le s sep (by omega)
  refine (Tryd.strings_Split s sep m w (by omega) (var_cell0 (by kernel_rfl) hm) (by omega)).mono ?_
  rintro e w' ⟨rfl, rfl⟩
  have hP : Go.Lib.splitB sep 0 (Go.Lib.countB s sep) s = piecesB s sep := rfl
  rw [hP, ← hl]
  generalize hL : piecesB s sep = L at *
  obtain ⟨σ', k1, k2, k3, k4⟩ := new_step hs hb (L.map Value.string).toArray 9 (flatA (strsA L)) (by rw [flat_strs]; simp) (fun j c hj => by
    rw [flat_strs] at hj
    simp only [mapA_get, Option.map_eq_some_iff] at hj
    obtain ⟨x, hx, rfl⟩ := hj
    exact ⟨.string x, by simp [hx], .str x, rfl⟩)
  refine ⟨_, _, _, σ', rfl, ⟨rfl, rfl⟩, k1, k2, ?_, k3⟩
  refine .ref 0 1 0 L.length .tight _ L.length w.heap.size (L.map Value.string).toArray.size (Nat.le_refl _) ?_ (fun _ => rfl) (fun _ => rfl) k4 (by simp) (fun h => by cases h)
  simp only [maxLen]; omega
def cpA (s p : ByteArray) : ByteArray := ⟨(Go.Lib.trimPrefix s.data.toList p.data.toList).toArray⟩
def cpI (s p : ByteArray) : Bool := Go.Lib.hasPrefix s.data.toList p.data.toList
noncomputable def sp_cutP : List AV → Option (AV) := pf (ι := (ByteArray) × (ByteArray)) (α := AV) (fun ⟨s, p⟩ => s.size ≤ 1048576) (fun ⟨s, p⟩ => [.str s, .str p]) (fun ⟨s, p⟩ => .tup [.str (cpA s p), .bool (cpI s p)])
theorem sp_cutP_eq (s p : ByteArray) (h : s.size ≤ 1048576) : sp_cutP [.str s, .str p] = some (.tup [.str (cpA s p), .bool (cpI s p)]) := by
  unfold sp_cutP
  exact pf_eq (ι := (ByteArray) × (ByteArray)) (α := AV) (s, p) h (by rintro ⟨s', p'⟩ _ e; simp_all [Int.natCast_inj])
theorem q_strings_CutPrefix : QP PP 87 sp_cutP := by
  refine QP_pf (fun i h => ?_) fun i h => ?_
  · obtain ⟨s, p⟩ := i; exact ⟨by first | rfl | simp, by first | rfl | simp⟩
  obtain ⟨s, p⟩ := i
  refine T.lib ⟨_, Tryd.func87, by kernel_rfl, by kernel_rfl⟩ (fun σ w vs hr hG => ?_) .nil
  obtain ⟨v1, us, rfl, h1, h2⟩ := hr.head
  obtain ⟨v2, us2, rfl, h3, h4⟩ := h2.head
  obtain rfl : us2 = [] := List.eq_nil_of_length_eq_zero h4.1.symm
  cases h1; cases h3
  refine (Tryd.strings_CutPrefix s p w).mono ?_
  rintro e w' ⟨rfl, rfl⟩
  refine ⟨_, rfl, Below.refl _ _, ?_⟩
  exact .tup [.str (cpA s p), .bool (cpI s p)] [.string _, .bool _] rfl (fun i c z hc hz => by
    match i, hc, hz with
    | 0, hc, hz => cases hc; cases hz; exact .str _
    | 1, hc, hz => cases hc; cases hz; exact .bool _
    | n + 2, hc, hz => cases hc)
theorem cpA_size (s p : ByteArray) : (cpA s p).size ≤ s.size := by
  have e : s.size = s.data.toList.length := by rw [Array.length_toList]; rfl
  unfold cpA Go.Lib.trimPrefix
  rw [e]
  split
  · simp only [ba_size, List.size_toArray, List.length_drop]; omega
  · simp only [ba_size, List.size_toArray]; omega

/-! ### pieces of joined texts -/
def lacks (a : ByteArray) (c : UInt8) : Prop := ∀ b ∈ a.data.toList, b ≠ c
theorem lacks_bAt {a : ByteArray} {c : UInt8} (h : lacks a c) (j : Nat) (hj : j < a.size) : bAt a j ≠ (c.toNat : Int) := by
  have h' : j < a.data.toList.length := by rw [Array.length_toList]; exact hj
  unfold bAt
  rw [List.getElem?_eq_getElem h', Option.getD_some]
  have := h _ (List.getElem_mem h')
  intro e
  apply this
  apply UInt8.toNat_inj.1
  omega
theorem splF_out (s : ByteArray) (c : Int) : ∀ k i f out, splF s c k i f out = out ++ splF s c k i f []
  | 0, i, f, out => by simp [splF]
  | k + 1, i, f, out => by
    rw [splF, splF]
    split
    · rw [splF_out s c k _ _ (out ++ [_]), splF_out s c k _ _ ([] ++ [_])]; simp
    · rw [splF_out s c k _ _ out]
theorem ext_shift (p r : ByteArray) (f i : Nat) : (p ++ r).extract (p.size + f) (p.size + i) = r.extract f i := by
  apply ByteArray.ext
  apply Array.ext'
  have h' : p.data.toList.length = p.size := by rw [Array.length_toList]; rfl
  rw [ByteArray.data_extract, ByteArray.data_extract, Array.toList_extract, Array.toList_extract, ByteArray.data_append, Array.toList_append, ← h']
  simp [List.extract, List.drop_append, Nat.add_sub_add_left]
  rw [List.drop_eq_nil_of_le (by omega), List.nil_append]
theorem splF_shift (p r : ByteArray) (c : Int) : ∀ k i f, splF (p ++ r) c k (p.size + i) (p.size + f) [] = splF r c k i f []
  | 0, i, f => by
    rw [splF, splF, ByteArray.size_append, ext_shift]
  | k + 1, i, f => by
    rw [splF, splF, bAt_right, ext_shift, show p.size + i + 1 = p.size + (i + 1) by omega]
    split
    · rw [splF_out, splF_out (s := r), splF_shift p r c k]
    · exact splF_shift p r c k _ _
theorem splitL_miss {a : ByteArray} {c : UInt8} (h : lacks a c) : splitL a (c.toNat : Int) = [a] := by
  unfold splitL
  have := splF_skip a (c.toNat : Int) 0 0 [] a.size 0 (fun j _ hj => lacks_bAt h j (by omega))
  rw [Nat.add_zero, Nat.zero_add] at this
  rw [this, splF, ext_all]; rfl
theorem splitL_hit {a : ByteArray} {c : UInt8} (h : lacks a c) (r : ByteArray) : splitL (a ++ ⟨#[c]⟩ ++ r) (c.toNat : Int) = a :: splitL r (c.toNat : Int) := by
  unfold splitL
  have hs : (⟨#[c]⟩ : ByteArray).size = 1 := rfl
  have e1 : a ++ ⟨#[c]⟩ ++ r = a ++ ((⟨#[c]⟩ : ByteArray) ++ r) := ByteArray.append_assoc ..
  have hsz : (a ++ ⟨#[c]⟩ ++ r).size = a.size + (r.size + 1) := by rw [e1, ByteArray.size_append, ByteArray.size_append, hs]; omega
  have hA : ∀ j, j < a.size → bAt (a ++ ⟨#[c]⟩ ++ r) j = bAt a j := fun j hj => by rw [e1, bAt_left _ _ _ hj]
  have hM : bAt (a ++ ⟨#[c]⟩ ++ r) a.size = (c.toNat : Int) := by
    have := bAt_right a ((⟨#[c]⟩ : ByteArray) ++ r) 0
    rw [Nat.add_zero] at this
    rw [e1, this, bAt_left _ r 0 (by rw [hs]; omega)]; rfl
  have eL : (a ++ ⟨#[c]⟩ ++ r).extract 0 a.size = a := by rw [e1]; exact ext_left _ _
  have hps : (a ++ (⟨#[c]⟩ : ByteArray)).size = a.size + 1 := by rw [ByteArray.size_append, hs]
  have sh := splF_shift (a ++ ⟨#[c]⟩) r (c.toNat : Int) r.size 0 0
  rw [hps, Nat.add_zero] at sh
  have s1 := splF_skip (a ++ ⟨#[c]⟩ ++ r) (c.toNat : Int) (r.size + 1) 0 [] a.size 0 (fun j _ hj => by rw [hA j (by omega)]; exact lacks_bAt h j (by omega))
  rw [Nat.zero_add] at s1
  rw [hsz, s1, splF, if_pos hM, eL, splF_out, sh]; rfl
theorem index_noneC (c : UInt8) : ∀ (a : List UInt8), (∀ b ∈ a, b ≠ c) → Go.Lib.index a [c] = -1
  | [], _ => rfl
  | d :: a, h => by
    rw [Go.Lib.index, index_noneC c a fun b hb => h b (List.mem_cons_of_mem _ hb)]
    have hc := h d (List.mem_cons_self ..)
    have : List.isPrefixOf [c] (d :: a) = false := by
      simp [List.isPrefixOf]; exact fun e => hc e.symm
    rw [this]; rfl
theorem index_atC (c : UInt8) (b : List UInt8) : ∀ (a : List UInt8), (∀ b ∈ a, b ≠ c) → Go.Lib.index (a ++ c :: b) [c] = a.length
  | [], _ => by
    rw [List.nil_append, Go.Lib.index]
    have : List.isPrefixOf [c] (c :: b) = true := by simp [List.isPrefixOf]
    rw [if_pos this]; rfl
  | d :: a, h => by
    rw [List.cons_append, Go.Lib.index, index_atC c b a fun x hx => h x (List.mem_cons_of_mem _ hx)]
    have hc := h d (List.mem_cons_self ..)
    have : List.isPrefixOf [c] (d :: (a ++ c :: b)) = false := by
      simp [List.isPrefixOf]; exact fun e => hc e.symm
    rw [this]
    have h2 : ((a.length : Int) == -1) = false := by rw [beq_eq_false_iff_ne]; omega
    rw [h2]; simp
theorem pieces_miss {a : ByteArray} {c : UInt8} (h : lacks a c) : piecesB a ⟨#[c]⟩ = [a] := by
  unfold piecesB
  exact Go.Lib.splitB_miss _ _ _ _ (index_noneC c _ h)
theorem pieces_hit {a : ByteArray} {c : UInt8} (h : lacks a c) (r : ByteArray) : piecesB (a ++ ⟨#[c]⟩ ++ r) ⟨#[c]⟩ = a :: piecesB r ⟨#[c]⟩ := by
  have hs : (⟨#[c]⟩ : ByteArray).size = 1 := rfl
  have e1 : a ++ ⟨#[c]⟩ ++ r = a ++ ((⟨#[c]⟩ : ByteArray) ++ r) := ByteArray.append_assoc ..
  have hl : a.data.toList.length = a.size := by rw [Array.length_toList]; rfl
  have el : (a ++ ⟨#[c]⟩ ++ r).data.toList = a.data.toList ++ c :: r.data.toList := by
    rw [ByteArray.data_append, ByteArray.data_append, Array.toList_append, Array.toList_append]; simp
  have hi : Go.Lib.indexB (a ++ ⟨#[c]⟩ ++ r) ⟨#[c]⟩ = (a.size : Nat) := by
    show Go.Lib.index (a ++ ⟨#[c]⟩ ++ r).data.toList [c] = _
    rw [el, index_atC c _ _ h, hl]
  have hc := Go.Lib.countB_hit (a ++ ⟨#[c]⟩ ++ r) ⟨#[c]⟩ a.size (by rw [hs]; omega) hi
  have eL : (a ++ ⟨#[c]⟩ ++ r).extract 0 a.size = a := by rw [e1]; exact ext_left _ _
  have eR : (a ++ ⟨#[c]⟩ ++ r).extract (a.size + 1) (a ++ ⟨#[c]⟩ ++ r).size = r := by
    have := ext_right (a ++ (⟨#[c]⟩ : ByteArray)) r
    rw [ByteArray.size_append (a := a), hs] at this
    exact this
  rw [hs, eR] at hc
  unfold piecesB
  rw [hc, Nat.add_comm 1, Go.Lib.splitB_hit _ _ _ _ a.size hi, hs, Nat.add_zero, eL, eR]
end Go.Proofs.YtgophedkejgedaaDoorAi
end

section
/- Contracts: ReadGraph of the program. -/
namespace Go.Proofs.YtgophedkejgedaaDoorAi
open Go Go.RowKit
set_option linter.unusedVariables false
set_option linter.unusedSimpArgs false
set_option maxRecDepth 20000

theorem splitB_size (sep : ByteArray) : ∀ (k : Nat) (s : ByteArray), ∀ x ∈ Go.Lib.splitB sep 0 k s, x.size ≤ s.size
  | 0, s => by
    intro x hx
    rw [Go.Lib.splitB_zero] at hx
    rw [List.mem_singleton.1 hx]; exact Nat.le_refl _
  | k + 1, s => by
    intro x hx
    rw [Go.Lib.splitB] at hx
    split at hx
    · rw [List.mem_singleton.1 hx]; exact Nat.le_refl _
    · rcases List.mem_cons.1 hx with rfl | hx
      · rw [ByteArray.size_extract]; omega
      · have := splitB_size sep k _ x hx
        rw [ByteArray.size_extract] at this
        omega
def pairI (n i j : Int) : Bool := ((decide (0 ≤ i) && decide (i ≤ n - 1)) && (decide (0 ≤ j) && decide (j ≤ n - 1))) && (i != j)
noncomputable def sp_pairI : List AV → Option (AV) := pf (ι := (Int) × (Int) × (Int)) (α := AV) (fun ⟨n, i, j⟩ => 0 ≤ n ∧ n ≤ 5) (fun ⟨n, i, j⟩ => [.int .i64 n, .int .i64 i, .int .i64 j]) (fun ⟨n, i, j⟩ => .bool (pairI n i j))
theorem sp_pairI_eq (n i j : Int) (h : 0 ≤ n ∧ n ≤ 5) : sp_pairI [.int .i64 n, .int .i64 i, .int .i64 j] = some (.bool (pairI n i j)) := by
  unfold sp_pairI
  exact pf_eq (ι := (Int) × (Int) × (Int)) (α := AV) (n, i, j) h (by rintro ⟨n', i', j'⟩ _ e; simp_all [Int.natCast_inj])
theorem q_impl_isPair : QP PP 85 sp_pairI := by
  refine QP_pf (fun i h => ?_) fun i h => ?_
  · obtain ⟨n, i, j⟩ := i; exact ⟨by first | rfl | simp, by first | rfl | simp⟩
  obtain ⟨n, i, j⟩ := i
  replace h : 0 ≤ n ∧ n ≤ 5 := h
  refine P_code (Quiet.q1 q_impl_in Quiet.nil) hmix k_impl_isPair rfl ?_ ?_
  · first | rfl | simp
  show wpc 0 PP _ c_impl_isPair (initSt [.int .i64 n, .int .i64 i, .int .i64 j] .nil) (endP r_impl_isPair (.bool (pairI n i j)))
  have hw : IntKind.wrap .i64 (n - 1) = n - 1 := wrapI64 (by omega) (by omega)
  unfold pairI
  cases h1 : (decide (0 ≤ i) && decide (i ≤ n - 1)) <;> cases h2 : (decide (0 ≤ j) && decide (j ≤ n - 1)) <;> simp -dsimp -implicitDefEqProofs [c_impl_isPair, r_impl_isPair, hw, h1, h2]
theorem pairI_in {n i j : Int} (hn : n ≤ 5) (h : pairI n i j = true) : (0 ≤ i ∧ i < 5) ∧ (0 ≤ j ∧ j < 5) ∧ i ≠ j := by
  unfold pairI at h
  simp only [Bool.and_eq_true, decide_eq_true_eq, bne_iff_ne, ne_eq] at h
  refine ⟨⟨by omega, by omega⟩, ⟨by omega, by omega⟩, h.2⟩
theorem bit_small {i j : Int} (h : (0 ≤ i ∧ i < 5) ∧ (0 ≤ j ∧ j < 5) ∧ i ≠ j) : (2 : Nat) ^ bitI i.toNat j.toNat < 1024 := by
  have := bitI_10 (i := i.toNat) (j := j.toNat) (by omega) (by omega) (by omega)
  exact Nat.pow_lt_pow_right (by decide) this
def eA (w : ByteArray) : Int := numV (cutA w dashB)
def eB (w : ByteArray) : Int := numV (cutB w dashB)
def edgeOk (n : Int) (w : ByteArray) : Bool := (numB (cutA w dashB) && numB (cutB w dashB)) && pairI n (eA w) (eB w)
def goI (n : Int) : List ByteArray → Nat → Option Nat
  | [], m => some m
  | w :: r, m => if edgeOk n w = true then goI n r (m ||| 2 ^ bitI (eA w).toNat (eB w).toNat) else none
def wdI (s : ByteArray) : List ByteArray := piecesB (cpA s graphB) sepB
def hdI (s : ByteArray) : ByteArray := (wdI s)[0]?.getD noB
def nI (s : ByteArray) : Int := numV (hdI s)
def okI (s : ByteArray) : Bool := (cpI s graphB && numB (hdI s)) && (decide (0 ≤ nI s) && decide (nI s ≤ 5))
def rgO (s : ByteArray) : Option (Nat × Nat) := if okI s = true then (goI (nI s) ((wdI s).drop 1) 0).bind fun m => if (grT m (nI s).toNat == s) = true then some ((nI s).toNat, m) else none else none
def rgA : Option (Nat × Nat) → AV
  | some (n, m) => .tup [.agg [.int .i64 n, .int .u32 m], .int .i64 0]
  | none => .tup [.agg [.int .i64 0, .int .u32 0], .int .i64 5]
@[simp] theorem rgA_lt (o : Option (Nat × Nat)) (n : Nat) : (rgA o).lt n = true := by
  cases o with
  | none => rfl
  | some p => rfl
noncomputable def sp_readGr : List AV → Option (AV) := pf (ι := (ByteArray)) (α := AV) (fun s => s.size ≤ 1048576) (fun s => [.str s]) (fun s => rgA (rgO s))
theorem sp_readGr_eq (s : ByteArray) (h : s.size ≤ 1048576) : sp_readGr [.str s] = some (rgA (rgO s)) := by
  unfold sp_readGr
  exact pf_eq (ι := (ByteArray)) (α := AV) s h (by rintro s' _ e; simp_all [Int.natCast_inj])
set_option maxHeartbeats 2000000 in
theorem q_impl_ReadGraph : QP PP 32 sp_readGr := by
  refine QP_pf (fun s h => ?_) fun s h => ?_
  · exact ⟨by first | rfl | simp, by first | rfl | simp⟩
  replace h : s.size ≤ 1048576 := h
  refine P_code (Quiet.q1 q_strings_CutPrefix (Quiet.q1 q_impl_number (Quiet.q1 q_impl_sizeOk (Quiet.q1 q_strings_Cut (Quiet.q1 q_impl_isPair (Quiet.q1 q_impl_bit (Quiet.q1 q_impl_Graph_text (Quiet.e1 n_strings_Split.toE Quiet.nil)))))))) hmix k_impl_ReadGraph rfl ?_ ?_
  · first | rfl | simp
  show wpc 0 PP _ c_impl_ReadGraph (initSt [.str s] .nil) (endP r_impl_ReadGraph (rgA (rgO s)))
  have hcp : sp_cutP [.str s, .str ⟨#[103, 114, 97, 112, 104, 32]⟩] = some (.tup [.str (cpA s graphB), .bool (cpI s graphB)]) := sp_cutP_eq s graphB h
  have hcs := cpA_size s graphB
  have hsp : sp_pieces [.str (cpA s graphB), .str ⟨#[32]⟩] = some (.ref 0 1 0 (wdI s).length .tight, [some (flatA (strsA (wdI s)))]) := sp_pieces_eq (cpA s graphB) sepB ⟨by omega, rfl⟩
  rw [flat_strs] at hsp
  have hlen : 0 < (wdI s).length := by unfold wdI; rw [pieces_len _ _ (by decide)]; omega
  have hleni : (0 : Int) < (wdI s).length := by omega
  have hmost : (wdI s).length ≤ 1048577 := by
    unfold wdI; rw [pieces_len _ _ (by decide)]
    have := count_le (cpA s graphB) sepB (by decide)
    omega
  have e0 : (wdI s)[0]'hlen = hdI s := by unfold hdI; rw [List.getElem?_eq_getElem hlen]; rfl
  have hsz : ∀ w ∈ wdI s, w.size ≤ 1048576 := fun w hw => by
    have := splitB_size sepB _ _ w hw
    omega
  have hz0 : (hdI s).size ≤ 1048576 := by rw [← e0]; exact hsz _ (List.getElem_mem hlen)
  have hnum := sp_numI_eq (hdI s) hz0
  unfold rgO
  generalize hW : wdI s = W at *
  have hso := sp_sizeOk_eq (numV (hdI s))
  have l1 : 1 ≤ W.length := by omega
  have q0 : W[0]? = some (hdI s) := by rw [List.getElem?_eq_getElem hlen, e0]
  have r3 : ltL 3 (strsA W) = true := by rw [← flat_strs]; simp
  have rr0 : renL (fun b => b) (strsA W) = strsA W := by rw [← flat_strs]; simp
  have rr : renL (shiftN 1) (strsA W) = strsA W := by rw [← flat_strs]; simp
  cases h1 : cpI s graphB <;> rw [h1] at hcp
  · have : okI s = false := by unfold okI; rw [h1]; rfl
    rw [this]
    simp -dsimp -implicitDefEqProofs [c_impl_ReadGraph, r_impl_ReadGraph, hcp, hsp, rr, hlen, hleni, e0, q0, hnum, rgA]
  cases h2 : numB (hdI s) <;> rw [h2] at hnum
  · have : okI s = false := by unfold okI; rw [h1, h2]; rfl
    rw [this]
    simp -dsimp -implicitDefEqProofs [c_impl_ReadGraph, r_impl_ReadGraph, hcp, hsp, rr, hlen, hleni, e0, q0, hnum, rgA]
  cases h3 : (decide (0 ≤ numV (hdI s)) && decide (numV (hdI s) ≤ 5)) <;> rw [h3] at hso
  · have : okI s = false := by unfold okI nI; rw [h1, h2, h3]; rfl
    rw [this]
    simp -dsimp -implicitDefEqProofs [c_impl_ReadGraph, r_impl_ReadGraph, hcp, hsp, rr, hlen, hleni, e0, q0, hnum, hso, h3, rgA]
  have : okI s = true := by unfold okI nI; rw [h1, h2, h3]; rfl
  rw [if_pos this]
  simp only [Bool.and_eq_true, decide_eq_true_eq] at h3
  obtain ⟨n, hn⟩ := Int.eq_ofNat_of_zero_le h3.1
  have hnI : nI s = (n : Int) := hn
  have hn5 : n ≤ 5 := by omega
  rw [hnI]
  rw [hn] at hnum hso
  simp -dsimp -implicitDefEqProofs [c_impl_ReadGraph, r_impl_ReadGraph, hcp, hsp, rr, hlen, hleni, e0, q0, hnum, hso, l1]
  refine wpLoop_st (fun (q : Nat × Nat) => ⟨tl [(0, .str s), (2, .ptr 0 0), (7, .int .i64 n), (9, .ptr 2 0), (48, .ref 1 1 1 (W.length - 1) .tight), (49, .int .i64 ((W.length - 1 : Nat) : Int)), (50, .int .i64 q.1)], ⟨[some [.int .i64 0, .int .u32 0], some (strsA W), some [.int .i64 n, .int .u32 q.2]]⟩⟩) (fun q => q.1 ≤ W.length - 1 ∧ q.2 < 1024 ∧ goI n (W.drop (1 + q.1)) q.2 = goI n W.tail 0) (fun q => W.length - 1 - q.1) (0, 0) ⟨by simp, by simp, by simp⟩ (Sub.keep (by simp) (by simp [hsub, rr0, r3]) (by simp)) ?_
  rintro ⟨i, m⟩ ⟨hi, hm, hg⟩
  simp only at hi hm hg
  simp -dsimp -implicitDefEqProofs
  refine brW_of (fun h => ?_) (fun h => ?_) <;> simp only [decide_eq_true_eq, decide_eq_false_iff_not] at h
  · have hx1 : 1 + i < W.length := by omega
    have hx2 : i < W.length - 1 := by omega
    have hx3 : (i : Int) < ((W.length - 1 : Nat) : Int) := by omega
    have hw := wrapNat (i := i) (by omega)
    have hwsz := hsz _ (List.getElem_mem hx1)
    rw [drop_cons hx1, goI] at hg
    have q1 : W[1 + i]? = some W[1 + i] := List.getElem?_eq_getElem hx1
    generalize hww : W[1 + i] = w at *
    have hct : sp_cutS [.str w, .str ⟨#[45]⟩] = some (.tup [.str (cutA w dashB), .str (cutB w dashB), .bool (cutI w dashB)]) := sp_cutS_eq w dashB hwsz
    have hcz := cut_sizes w dashB
    have n1 : sp_numI [.str (cutA w dashB)] = some (.tup [.int .i64 (eA w), .bool (numB (cutA w dashB))]) := sp_numI_eq _ (by omega)
    have n2 : sp_numI [.str (cutB w dashB)] = some (.tup [.int .i64 (eB w), .bool (numB (cutB w dashB))]) := sp_numI_eq _ (by omega)
    have hpr := sp_pairI_eq n (eA w) (eB w) (by omega)
    cases k1 : numB (cutA w dashB) <;> rw [k1] at n1
    · have ke : edgeOk n w = false := by unfold edgeOk; rw [k1]; rfl
      rw [ke] at hg
      simp only [Bool.false_eq_true, if_false] at hg
      rw [← hg]
      simp -dsimp -implicitDefEqProofs [hx1, hx2, hx3, hww, q1, hct, n1, n2, rgA]
    cases k2 : numB (cutB w dashB) <;> rw [k2] at n2
    · have ke : edgeOk n w = false := by unfold edgeOk; rw [k1, k2]; rfl
      rw [ke] at hg
      simp only [Bool.false_eq_true, if_false] at hg
      rw [← hg]
      simp -dsimp -implicitDefEqProofs [hx1, hx2, hx3, hww, q1, hct, n1, n2, rgA]
    cases k3 : pairI n (eA w) (eB w) <;> rw [k3] at hpr
    · have ke : edgeOk n w = false := by unfold edgeOk; rw [k1, k2, k3]; rfl
      rw [ke] at hg
      simp only [Bool.false_eq_true, if_false] at hg
      rw [← hg]
      simp -dsimp -implicitDefEqProofs [hx1, hx2, hx3, hww, q1, hct, n1, n2, hpr, rgA]
    have ke : edgeOk n w = true := by unfold edgeOk; rw [k1, k2, k3]; rfl
    rw [if_pos ke] at hg
    have hin := pairI_in (by omega) k3
    have hbt := sp_bit_eq (eA w) (eB w) ⟨by omega, by omega⟩
    have hsm := bit_small hin
    have ho := or32 (a := m) (b := 2 ^ bitI (eA w).toNat (eB w).toNat) (by omega) (by omega)
    have hcast : ((2 ^ bitI (eA w).toNat (eB w).toNat : Nat) : Int) = 2 ^ bitI (eA w).toNat (eB w).toNat := by simp
    rw [hcast] at ho
    have hlt : m ||| 2 ^ bitI (eA w).toNat (eB w).toNat < 1024 := Nat.or_lt_two_pow (n := 10) hm hsm
    generalize hE : (m ||| 2 ^ bitI (eA w).toNat (eB w).toNat) = m2 at *
    generalize (2 : Int) ^ bitI (eA w).toNat (eB w).toNat = bt at *
    have hg2 : goI n (W.drop (1 + (i + 1))) m2 = goI n W.tail 0 := by rw [show 1 + (i + 1) = 1 + i + 1 by omega]; exact hg
    simp -dsimp -implicitDefEqProofs [hx1, hx2, hx3, hww, q1, hct, n1, n2, hpr, hbt, ho, hw]
    exact .mk (i + 1, m2) ⟨by simp only; omega, by simp only; omega, hg2⟩ (by simp only; omega) (Sub.keep (by simp) (by simp [hsub, rr0, r3]; simpa using ho) (by simp [hw]))
  · have hi' : 1 + i = W.length := by omega
    rw [hi', List.drop_length, goI] at hg
    rw [← hg, Option.bind_some]
    have ht := sp_graphTx_eq n m ⟨hn5, by omega, by omega⟩
    cases hq : (grT m n == s) with
    | true =>
      have hq' : (grT m n != s) = false := by unfold bne; rw [hq]; rfl
      simp -dsimp -implicitDefEqProofs [ht, hq', rgA]
    | false =>
      have hq' : (grT m n != s) = true := by unfold bne; rw [hq]; rfl
      simp -dsimp -implicitDefEqProofs [ht, hq', rgA]
end Go.Proofs.YtgophedkejgedaaDoorAi
end

section
/- Contracts: ReadGraph of the reference. -/
namespace Go.Proofs.YtgophedkejgedaaDoorAi
open Go Go.RowKit
set_option linter.unusedVariables false
set_option linter.unusedSimpArgs false
set_option maxRecDepth 20000

def wA (w : ByteArray) : ByteArray := (splitL w 45)[0]?.getD noB
def wB (w : ByteArray) : ByteArray := (splitL w 45)[1]?.getD noB
def edgeS (n : Int) (w : ByteArray) : Bool := decide ((splitL w 45).length = 2) && ((l01B (wA w) && l01B (wB w)) && pairI n (l01V (wA w)) (l01V (wB w)))
def goS (n : Int) : List ByteArray → Nat → Option Nat
  | [], m => some m
  | w :: r, m => if edgeS n w = true then goS n r (m ||| 2 ^ bitI (l01V (wA w)).toNat (l01V (wB w)).toNat) else none
def gword : ByteArray := ⟨#[103, 114, 97, 112, 104]⟩
def h0S (s : ByteArray) : ByteArray := (splitL s 32)[0]?.getD noB
def h1S (s : ByteArray) : ByteArray := (splitL s 32)[1]?.getD noB
def nS (s : ByteArray) : Int := l01V (h1S s)
def okS (s : ByteArray) : Bool := (decide (2 ≤ (splitL s 32).length) && (h0S s == gword)) && (l01B (h1S s) && decide (nS s ≤ 5))
def rsO (s : ByteArray) : Option (Nat × Nat) := if okS s = true then (goS (nS s) ((splitL s 32).drop 2) 0).bind fun m => if (graphT (nS s) m == s) = true then some ((nS s).toNat, m) else none else none
noncomputable def sp_readGrS : List AV → Option (AV) := pf (ι := (ByteArray)) (α := AV) (fun s => s.size ≤ 1048576) (fun s => [.str s]) (fun s => rgA (rsO s))
theorem sp_readGrS_eq (s : ByteArray) (h : s.size ≤ 1048576) : sp_readGrS [.str s] = some (rgA (rsO s)) := by
  unfold sp_readGrS
  exact pf_eq (ι := (ByteArray)) (α := AV) s h (by rintro s' _ e; simp_all [Int.natCast_inj])
end Go.Proofs.YtgophedkejgedaaDoorAi
end

section
/- Plain law and law: ReadGraph. -/
namespace Go.Proofs.YtgophedkejgedaaDoorAi
open Go Go.RowKit
set_option linter.unusedVariables false
set_option linter.unusedSimpArgs false
set_option maxRecDepth 20000

def edgeW (x : Fr) : ByteArray := decB x.p ++ dashB ++ decB x.q
def tailT : List Fr → ByteArray
  | [] => noB
  | x :: L => sepB ++ edgeW x ++ tailT L
theorem app_noB (a : ByteArray) : a ++ noB = a := by apply ByteArray.ext; simp [noB]
theorem edT_tail : ∀ (L : List Fr) (w : ByteArray), edT w L = w ++ tailT L
  | [], w => by rw [tailT, app_noB]; rfl
  | x :: L, w => by
    show edT (w ++ edgeT x.p x.q) L = _
    rw [edT_tail L, tailT]
    unfold edgeT edgeW
    simp only [ByteArray.append_assoc]
theorem decB_bytes {n : Int} (h : 0 ≤ n) : ∀ b ∈ (decB n).data.toList, 48 ≤ b.toNat ∧ b.toNat ≤ 57 := by
  intro b hb
  have e : (decB n).data.toList = Go.Lib.itoa n := by simp [decB]
  rw [e] at hb
  unfold Go.Lib.itoa at hb
  rw [if_neg (by omega)] at hb
  exact decD_dig _ b hb
theorem decB_lacks {n : Int} (h : 0 ≤ n) {c : UInt8} (hc : c.toNat < 48) : lacks (decB n) c := by
  intro b hb e
  subst e
  have := (decB_bytes h b hb).1
  omega
theorem edgeW_lacks {x : Fr} (hp : 0 ≤ x.p) (hq : 0 ≤ x.q) : lacks (edgeW x) 32 := by
  intro b hb
  unfold edgeW at hb
  rw [ByteArray.data_append, ByteArray.data_append, Array.toList_append, Array.toList_append] at hb
  rcases List.mem_append.1 hb with hb | hb
  · rcases List.mem_append.1 hb with hb | hb
    · exact decB_lacks hp (c := 32) (by decide) b hb
    · have : b = 45 := by simpa [dashB] using hb
      subst this; decide
  · exact decB_lacks hq (c := 32) (by decide) b hb
theorem pieces_tail {Sp : ByteArray → List ByteArray} (hm : ∀ a, lacks a 32 → Sp a = [a]) (hh : ∀ a r, lacks a 32 → Sp (a ++ ⟨#[32]⟩ ++ r) = a :: Sp r) : ∀ (L : List Fr) (A : ByteArray), lacks A 32 → (∀ x ∈ L, lacks (edgeW x) 32) → Sp (A ++ tailT L) = A :: L.map edgeW
  | [], A, hA, _ => by rw [tailT, app_noB]; exact hm A hA
  | x :: L, A, hA, hL => by
    have e : A ++ tailT (x :: L) = A ++ ⟨#[32]⟩ ++ (edgeW x ++ tailT L) := by
      rw [tailT]; unfold sepB; simp only [ByteArray.append_assoc]
    rw [e, hh A _ hA, pieces_tail hm hh L (edgeW x) (hL x (List.mem_cons_self ..)) fun y hy => hL y (List.mem_cons_of_mem _ hy)]
    rfl
theorem l01_dec (n : Int) (h0 : 0 ≤ n) (h1 : n < 1000000000) : l01V (decB n) = n ∧ l01B (decB n) = true := by
  have h := wh_dec n h0 (by omega)
  unfold whV whB at h
  have hf : (decB n == billB) = false := by
    rw [ba_eq]
    refine decide_eq_false fun e => ?_
    have h2 := (num_dec n (by omega) (by omega)).1
    have h3 := (num_dec 1000000000 (by omega) (by omega)).1
    rw [decB_bill] at h3
    rw [e, h3] at h2
    omega
  rw [hf] at h
  simpa using h
/-- The pairs of a graph: the lesser vertex ahead. -/
theorem pairsE_lt (e : Int) : ∀ (j : Nat), ∀ x ∈ pairsE e j, 0 ≤ x.p ∧ x.p < x.q ∧ x.q < j
  | 0 => by intro x hx; cases hx
  | j + 1 => by
    intro x hx
    rw [pairsE] at hx
    rcases List.mem_append.1 hx with hx | hx
    · have := pairsE_lt e j x hx
      omega
    · unfold prE at hx
      obtain ⟨i, hi, rfl⟩ := List.mem_map.1 hx
      have := List.mem_range.1 (List.mem_filter.1 hi).1
      simp only
      omega
def orF (a : Nat) (L : List Fr) : Nat := L.foldl (fun a x => a ||| 2 ^ bitI x.p.toNat x.q.toNat) a
theorem orF_all : (∀ m : Fin 1, orF 0 (pairsE (m.val : Int) 0) = m.val) ∧ (∀ m : Fin 1, orF 0 (pairsE (m.val : Int) 1) = m.val) ∧ (∀ m : Fin 2, orF 0 (pairsE (m.val : Int) 2) = m.val) ∧ (∀ m : Fin 8, orF 0 (pairsE (m.val : Int) 3) = m.val) ∧ (∀ m : Fin 64, orF 0 (pairsE (m.val : Int) 4) = m.val) ∧ (∀ m : Fin 1024, orF 0 (pairsE (m.val : Int) 5) = m.val) := by decide +kernel
theorem orF_pairs {n m : Nat} (h : graphOk n m = true) : orF 0 (pairsE m n) = m := by
  have hn := graphOk_in h
  unfold graphOk at h
  have h2 := (of_decide_eq_true h).2
  have hn' : n = 0 ∨ n = 1 ∨ n = 2 ∨ n = 3 ∨ n = 4 ∨ n = 5 := by omega
  obtain ⟨a0, a1, a2, a3, a4, a5⟩ := orF_all
  rcases hn' with rfl | rfl | rfl | rfl | rfl | rfl
  · exact a0 ⟨m, by have := h2; simp [pairsI] at this; omega⟩
  · exact a1 ⟨m, by have := h2; simp [pairsI] at this; omega⟩
  · exact a2 ⟨m, by have := h2; rw [show pairsI ((2 : Nat) : Int) = 1 from pI2] at this; simp at this; omega⟩
  · exact a3 ⟨m, by have := h2; rw [show pairsI ((3 : Nat) : Int) = 3 from pI3] at this; simp at this; omega⟩
  · exact a4 ⟨m, by have := h2; rw [show pairsI ((4 : Nat) : Int) = 6 from pI4] at this; simp at this; omega⟩
  · exact a5 ⟨m, by have := h2; rw [show pairsI ((5 : Nat) : Int) = 10 from pI5] at this; simp at this; omega⟩
theorem edge_impl {n : Nat} (hn : n ≤ 5) {x : Fr} (h : 0 ≤ x.p ∧ x.p < x.q ∧ x.q < n) : edgeOk n (edgeW x) = true ∧ eA (edgeW x) = x.p ∧ eB (edgeW x) = x.q := by
  have hl : ∀ k, (decB k).data.toList = Go.Lib.itoa k := fun k => by simp [decB]
  have el : (edgeW x).data.toList = (decB x.p).data.toList ++ 45 :: (decB x.q).data.toList := by
    unfold edgeW
    rw [ByteArray.data_append, ByteArray.data_append, Array.toList_append, Array.toList_append]
    simp [dashB]
  have hc : Go.Lib.cut (edgeW x).data.toList dashB.data.toList = ((decB x.p).data.toList, (decB x.q).data.toList, true) := by
    unfold Go.Lib.cut
    have hi : Go.Lib.index (edgeW x).data.toList dashB.data.toList = ((decB x.p).data.toList).length := by
      rw [el]; exact index_atC 45 _ _ (decB_lacks h.1 (c := 45) (by decide))
    rw [hi, if_pos (by omega), el]
    have hs : dashB.data.toList.length = 1 := rfl
    rw [hs, Int.toNat_natCast]
    generalize (decB x.p).data.toList = la
    generalize (decB x.q).data.toList = lb
    simp
  have cA : cutA (edgeW x) dashB = decB x.p := by unfold cutA; rw [hc]
  have cB : cutB (edgeW x) dashB = decB x.q := by unfold cutB; rw [hc]
  have n1 := num_dec x.p (by omega) (by omega)
  have n2 := num_dec x.q (by omega) (by omega)
  have eAx : eA (edgeW x) = x.p := by unfold eA; rw [cA, n1.1]
  have eBx : eB (edgeW x) = x.q := by unfold eB; rw [cB, n2.1]
  refine ⟨?_, eAx, eBx⟩
  unfold edgeOk
  rw [eAx, eBx, cA, cB, n1.2, n2.2]
  unfold pairI
  simp; omega
theorem edge_spec {n : Nat} (hn : n ≤ 5) {x : Fr} (h : 0 ≤ x.p ∧ x.p < x.q ∧ x.q < n) : edgeS n (edgeW x) = true ∧ l01V (wA (edgeW x)) = x.p ∧ l01V (wB (edgeW x)) = x.q := by
  have hs : splitL (edgeW x) 45 = [decB x.p, decB x.q] := by
    have h1 := splitL_hit (decB_lacks h.1 (c := 45) (by decide)) (decB x.q)
    have h2 := splitL_miss (decB_lacks (n := x.q) (by omega) (c := 45) (by decide))
    have e45 : (((45 : UInt8).toNat : Nat) : Int) = 45 := rfl
    rw [e45] at h1 h2
    rw [h2] at h1
    exact h1
  have cA : wA (edgeW x) = decB x.p := by unfold wA; rw [hs]; rfl
  have cB : wB (edgeW x) = decB x.q := by unfold wB; rw [hs]; rfl
  have n1 := l01_dec x.p (by omega) (by omega)
  have n2 := l01_dec x.q (by omega) (by omega)
  refine ⟨?_, by rw [cA, n1.1], by rw [cB, n2.1]⟩
  unfold edgeS
  rw [hs, cA, cB, n1.1, n2.1, n1.2, n2.2]
  unfold pairI
  simp; omega
theorem goI_all {n : Nat} (hn : n ≤ 5) : ∀ (L : List Fr) (a : Nat), (∀ x ∈ L, 0 ≤ x.p ∧ x.p < x.q ∧ x.q < n) → goI n (L.map edgeW) a = some (orF a L)
  | [], a, _ => rfl
  | x :: L, a, h => by
    obtain ⟨h1, h2, h3⟩ := edge_impl hn (h x (List.mem_cons_self ..))
    rw [List.map_cons, goI, if_pos h1, h2, h3, goI_all hn L _ fun y hy => h y (List.mem_cons_of_mem _ hy)]
    rfl
theorem goS_all {n : Nat} (hn : n ≤ 5) : ∀ (L : List Fr) (a : Nat), (∀ x ∈ L, 0 ≤ x.p ∧ x.p < x.q ∧ x.q < n) → goS n (L.map edgeW) a = some (orF a L)
  | [], a, _ => rfl
  | x :: L, a, h => by
    obtain ⟨h1, h2, h3⟩ := edge_spec hn (h x (List.mem_cons_self ..))
    rw [List.map_cons, goS, if_pos h1, h2, h3, goS_all hn L _ fun y hy => h y (List.mem_cons_of_mem _ hy)]
    rfl
theorem reads_graph {n m : Nat} (h : graphOk n m = true) : rgO (grT m n) = some (n, m) ∧ rsO (grT m n) = some (n, m) := by
  have hn := graphOk_in h
  have hn5 : n ≤ 5 := by omega
  have hL := pairsE_lt m n
  have hor := orF_pairs h
  have eg : grT m n = graphB ++ (decB n ++ tailT (pairsE m n)) := by
    unfold grT; rw [edT_tail, ByteArray.append_assoc]
  have hlk : ∀ x ∈ pairsE m n, lacks (edgeW x) 32 := fun x hx => edgeW_lacks (by have := hL x hx; omega) (by have := hL x hx; omega)
  have hd : lacks (decB (n : Int)) 32 := decB_lacks (by omega) (by decide)
  have hgr : graphT n m = grT m n := by unfold graphT; rw [if_pos h, Int.toNat_natCast]
  have e32 : (((32 : UInt8).toNat : Nat) : Int) = 32 := rfl
  generalize hs : grT m n = s at *
  constructor
  · have el : s.data.toList = graphB.data.toList ++ (decB n ++ tailT (pairsE m n)).data.toList := by
      rw [eg, ByteArray.data_append, Array.toList_append]
    have hI : cpI s graphB = true := by
      unfold cpI Go.Lib.hasPrefix
      rw [el]; exact List.isPrefixOf_iff_prefix.2 (List.prefix_append _ _)
    have hA : cpA s graphB = decB n ++ tailT (pairsE m n) := by
      unfold cpA Go.Lib.trimPrefix
      have : Go.Lib.hasPrefix s.data.toList graphB.data.toList = true := hI
      rw [if_pos this, el, List.drop_left]
    have hW : wdI s = decB n :: (pairsE m n).map edgeW := by
      unfold wdI
      rw [hA]
      exact pieces_tail (Sp := fun s => piecesB s sepB) (fun a ha => pieces_miss ha) (fun a r ha => pieces_hit ha r) _ _ hd hlk
    have hh : hdI s = decB n := by unfold hdI; rw [hW]; rfl
    have hnum := num_dec n (by omega) (by omega)
    have hnI : nI s = (n : Int) := by unfold nI; rw [hh, hnum.1]
    have hok : okI s = true := by
      unfold okI
      rw [hI, hnI, hh, hnum.2]
      simp; omega
    unfold rgO
    rw [if_pos hok, hW, hnI, List.drop_succ_cons, List.drop_zero, goI_all hn5 _ _ hL, hor, Option.bind_some, Int.toNat_natCast, hs, beq_ba]
    rfl
  · have eg2 : s = gword ++ ⟨#[32]⟩ ++ (decB n ++ tailT (pairsE m n)) := by
      rw [eg]
      have : graphB = gword ++ ⟨#[32]⟩ := by apply ByteArray.ext; rfl
      rw [this]
    have hgl : lacks gword 32 := by
      intro b hb e
      subst e
      revert hb
      decide
    have hW : splitL s 32 = gword :: decB n :: (pairsE m n).map edgeW := by
      have h1 := splitL_hit hgl (decB n ++ tailT (pairsE m n))
      rw [e32, ← eg2] at h1
      rw [h1]
      congr 1
      exact pieces_tail (Sp := fun s => splitL s 32) (fun a ha => by have := splitL_miss ha; rw [e32] at this; exact this) (fun a r ha => by have := splitL_hit ha r; rw [e32] at this; exact this) _ _ hd hlk
    have h0 : h0S s = gword := by unfold h0S; rw [hW]; rfl
    have h1 : h1S s = decB n := by unfold h1S; rw [hW]; rfl
    have hnum := l01_dec n (by omega) (by omega)
    have hnS : nS s = (n : Int) := by unfold nS; rw [h1, hnum.1]
    have hok : okS s = true := by
      unfold okS
      rw [hW, h0, hnS, h1, hnum.2, beq_ba]
      simp; omega
    unfold rsO
    rw [if_pos hok, hW, hnS, List.drop_succ_cons, List.drop_succ_cons, List.drop_zero, goS_all hn5 _ _ hL, hor, Option.bind_some, Int.toNat_natCast, hgr, beq_ba]
    rfl
/-! ### agreement -/
theorem pairsE_mod (m b : Nat) : ∀ (j : Nat), j * (j - 1) / 2 ≤ b → j ≤ 5 → pairsE ((m % 2 ^ b : Nat) : Int) j = pairsE (m : Int) j
  | 0, _, _ => rfl
  | j + 1, hb, hj => by
    have h1 : j * (j - 1) / 2 ≤ b := by
      have : j = 0 ∨ j = 1 ∨ j = 2 ∨ j = 3 ∨ j = 4 := by omega
      rcases this with rfl | rfl | rfl | rfl | rfl <;> simp at hb ⊢ <;> omega
    rw [pairsE, pairsE, pairsE_mod m b j h1 (by omega)]
    congr 1
    unfold prE
    congr 1
    apply List.filter_congr
    intro i hi
    have hi := List.mem_range.1 hi
    unfold hasB
    rw [Int.toNat_natCast, Int.toNat_natCast, Nat.testBit_mod_two_pow]
    have : bitI ((i : Int)).toNat ((j : Int)).toNat < b := by
      rw [Int.toNat_natCast, Int.toNat_natCast]
      unfold bitI
      rw [if_pos hi]
      have : j = 0 ∨ j = 1 ∨ j = 2 ∨ j = 3 ∨ j = 4 := by omega
      rcases this with rfl | rfl | rfl | rfl | rfl <;> simp at hb ⊢ <;> omega
    simp only [Int.toNat_natCast] at this ⊢
    simp [this]
theorem grT_mod {n m : Nat} (hn : n ≤ 5) : ∃ k : Nat, graphOk n k = true ∧ grT k n = grT m n := by
  refine ⟨m % 2 ^ (pairsI n).toNat, ?_, ?_⟩
  · unfold graphOk
    refine decide_eq_true ⟨⟨by omega, by omega⟩, ?_⟩
    have := Nat.mod_lt m (Nat.two_pow_pos (pairsI n).toNat)
    exact_mod_cast this
  · unfold grT
    rw [pairsE_mod m _ n ?_ hn]
    have : n = 0 ∨ n = 1 ∨ n = 2 ∨ n = 3 ∨ n = 4 ∨ n = 5 := by omega
    rcases this with rfl | rfl | rfl | rfl | rfl | rfl <;> decide
theorem rgO_text {s : ByteArray} {n m : Nat} (h : rgO s = some (n, m)) : n ≤ 5 ∧ grT m n = s := by
  unfold rgO at h
  split at h
  · rename_i hok
    cases hg : goI (nI s) ((wdI s).drop 1) 0 with
    | none => rw [hg] at h; cases h
    | some k =>
      rw [hg, Option.bind_some] at h
      split at h
      · rename_i he
        rw [ba_eq, decide_eq_true_eq] at he
        injection h with h
        injection h with h1 h2
        subst h1; subst h2
        unfold okI at hok
        simp only [Bool.and_eq_true, decide_eq_true_eq] at hok
        exact ⟨by omega, he⟩
      · cases h
  · cases h
theorem rsO_text {s : ByteArray} {n m : Nat} (h : rsO s = some (n, m)) : graphOk n m = true ∧ grT m n = s := by
  unfold rsO at h
  split at h
  · rename_i hok
    cases hg : goS (nS s) ((splitL s 32).drop 2) 0 with
    | none => rw [hg] at h; cases h
    | some k =>
      rw [hg, Option.bind_some] at h
      split at h
      · rename_i he
        rw [ba_eq, decide_eq_true_eq] at he
        injection h with h
        injection h with h1 h2
        subst h1; subst h2
        have hpos : 0 ≤ nS s := by unfold nS; exact (l01V_in _).1
        have en : ((nS s).toNat : Int) = nS s := by omega
        rw [en]
        unfold graphT at he
        split at he
        · rename_i ho
          exact ⟨ho, he⟩
        · exfalso
          unfold okS at hok
          simp only [Bool.and_eq_true, decide_eq_true_eq] at hok
          have h2 := hok.1.1
          rw [← he] at h2
          have : (splitL noB 32).length = 1 := by decide
          omega
      · cases h
  · cases h
theorem graph_same (s : ByteArray) : rgO s = rsO s := by
  cases h1 : rgO s with
  | some p =>
    obtain ⟨n, m⟩ := p
    obtain ⟨hn, ht⟩ := rgO_text h1
    obtain ⟨k, hk, hkt⟩ := grT_mod (m := m) hn
    have := reads_graph hk
    rw [hkt, ht] at this
    rw [← h1, this.1, this.2]
  | none =>
    cases h2 : rsO s with
    | none => rfl
    | some p =>
      obtain ⟨n, m⟩ := p
      obtain ⟨ho, ht⟩ := rsO_text h2
      have := reads_graph ho
      rw [ht, h1] at this
      cases this.1
end Go.Proofs.YtgophedkejgedaaDoorAi
end
