/- Contracts, joined. -/
import Derived.Test.YtgiakpeneckgfaaMsp2
section
/- Contracts: patterns that are made again. -/
namespace Go.Proofs.YtgiakpeneckgfaaAi
open Go Go.RowKit
set_option linter.unusedVariables false
set_option linter.unusedSimpArgs false
set_option maxRecDepth 20000

abbrev u32R (e l : Int) : Prop := (0 ≤ e ∧ e ≤ 4294967295) ∧ (0 ≤ l ∧ l ≤ 4294967295)
def fiveL (P : List Int) : Prop := (∀ x ∈ P, 0 ≤ x ∧ x < 5) ∧ P.length ≤ 4
theorem fiveL.at {P : List Int} (h : fiveL P) {i : Nat} (hi : i < P.length) : 0 ≤ atI P i ∧ atI P i < 5 := by
  rw [← atI_get hi]
  exact h.1 _ (List.getElem_mem hi)
noncomputable def sp_rem1 : List (Option (List AV)) → List AV → Option (AV × List (Option (List AV))) := pv (pf (ι := (Int) × (Int) × (Int) × (List Fr) × (List Int) × (Cp) × (Int) × (Int)) (α := AV × List (Option (List AV))) (fun ⟨n, e, l, ps, P, t, i, j⟩ => u32R e l ∧ fiveL P ∧ (0 ≤ i ∧ i < P.length) ∧ (0 ≤ j ∧ j < P.length)) (fun i => .agg (((fun ⟨n, e, l, ps, P, t, i, j⟩ => [some [.ptr 2 0], some [.ref 3 1 0 P.length t], some [.int .i64 n, .int .u32 e, .int .u32 l, .sl (frsA ps) false], some (flatA (insA P))] : (Int) × (Int) × (Int) × (List Fr) × (List Int) × (Cp) × (Int) × (Int) → List (Option (List AV))) i).map enO) :: (fun ⟨n, e, l, ps, P, t, i, j⟩ => [.int .i64 i, .int .i64 j, .ptr 0 0, .ptr 1 0] : (Int) × (Int) × (Int) × (List Fr) × (List Int) × (Cp) × (Int) × (Int) → List AV) i) (fun ⟨n, e, l, ps, P, t, i, j⟩ => (.bool (joinB e l (atI P i.toNat) (atI P j.toNat)), [some [.ptr 2 0], some [.ref 3 1 0 P.length t], some [.int .i64 n, .int .u32 e, .int .u32 l, .sl (frsA ps) false], some (flatA (insA P))])))
theorem sp_rem1_eq (n e l : Int) (ps : List Fr) (P : List Int) (t : Cp) (i j : Int) (h : u32R e l ∧ fiveL P ∧ (0 ≤ i ∧ i < P.length) ∧ (0 ≤ j ∧ j < P.length)) : sp_rem1 [some [.ptr 2 0], some [.ref 3 1 0 P.length t], some [.int .i64 n, .int .u32 e, .int .u32 l, .sl (frsA ps) false], some (flatA (insA P))] [.int .i64 i, .int .i64 j, .ptr 0 0, .ptr 1 0] = some (.bool (joinB e l (atI P i.toNat) (atI P j.toNat)), [some [.ptr 2 0], some [.ref 3 1 0 P.length t], some [.int .i64 n, .int .u32 e, .int .u32 l, .sl (frsA ps) false], some (flatA (insA P))]) := by
  unfold sp_rem1 pv
  exact pf_eq (ι := (Int) × (Int) × (Int) × (List Fr) × (List Int) × (Cp) × (Int) × (Int)) (α := AV × List (Option (List AV))) (n, e, l, ps, P, t, i, j) h (by rintro ⟨n', e', l', ps', P', t', i', j'⟩ _ e; simp_all [enO, Int.natCast_inj])
theorem v_impl_Pattern_remade_1 : QV PP 57 sp_rem1 := by
  refine QV_pf fun i h => ?_
  obtain ⟨n, e, l, ps, P, t, i, j⟩ := i
  replace h : u32R e l ∧ fiveL P ∧ (0 ≤ i ∧ i < P.length) ∧ (0 ≤ j ∧ j < P.length) := h
  refine H_code (Quiet.e1 v_impl_Pattern_joined.toE Quiet.nil) hmix k_impl_Pattern_remade_1 rfl (fun b => b) (by simp [AHeap.n]) (fun _ _ => rfl) (by rfl) (by first | rfl | simp) ?_
  show wpc _ PP _ c_impl_Pattern_remade_1 (initSt [.int .i64 i, .int .i64 j, .ptr 0 0, .ptr 1 0] ⟨[some [.ptr 2 0], some [.ref 3 1 0 P.length t], some [.int .i64 n, .int .u32 e, .int .u32 l, .sl (frsA ps) false], some (flatA (insA P))]⟩) (endH (fun b => b) r_impl_Pattern_remade_1 (.bool (joinB e l (atI P i.toNat) (atI P j.toNat))) [some [.ptr 2 0], some [.ref 3 1 0 P.length t], some [.int .i64 n, .int .u32 e, .int .u32 l, .sl (frsA ps) false], some (flatA (insA P))])
  obtain ⟨he, hP, ⟨i0, hi⟩, ⟨j0, hj⟩⟩ := h
  obtain ⟨i, rfl⟩ := Int.eq_ofNat_of_zero_le i0
  obtain ⟨j, rfl⟩ := Int.eq_ofNat_of_zero_le j0
  have hi : i < P.length := by omega
  have hj : j < P.length := by omega
  have hii : (i : Int) < P.length := by omega
  have hji : (j : Int) < P.length := by omega
  have g1 := get_in P i hi
  have g2 := get_in P j hj
  have g1' : ∀ h2, (flatA (insA P))[i]'h2 = .int .i64 P[i] := fun h2 => by rw [List.getElem?_eq_getElem h2] at g1; exact Option.some.inj g1
  have g2' : ∀ h2, (flatA (insA P))[j]'h2 = .int .i64 P[j] := fun h2 => by rw [List.getElem?_eq_getElem h2] at g2; exact Option.some.inj g2
  have hjn := sp_joinP_eq n e l ps (atI P i) (atI P j) ⟨he, hP.at hi, hP.at hj⟩
  rw [atI_get hi] at g1 g1'
  rw [atI_get hj] at g2 g2'
  simp -dsimp -implicitDefEqProofs [c_impl_Pattern_remade_1, r_impl_Pattern_remade_1, hi, hj, hii, hji, g1, g1', g2, g2', hjn, hsub]
theorem e_made_rem : QE PP 56 (spMade 57 (spV sp_rem1)) := QE_made v_impl_Pattern_remade_1.toE
def remE (e l : Int) (P : List Int) : Nat := madeE (fun i j => joinB e l (atI P i) (atI P j)) P.length
theorem lfG_lt (l : Int) (P : List Int) : ∀ i, lfG l P i < 2 ^ i
  | 0 => by simp [lfG]
  | i + 1 => by
    have := lfG_lt l P i
    have h2 : (2 : Nat) ^ (i + 1) = 2 ^ i + 2 ^ i := by rw [Nat.pow_succ]; omega
    rw [lfG]
    split
    · exact Nat.or_lt_two_pow (by omega) (Nat.pow_lt_pow_right (by decide) (by omega))
    · omega
noncomputable def sp_remade : List (Option (List AV)) → List AV → Option (AV × List (Option (List AV))) := pv (pf (ι := (Int) × (Int) × (Int) × (List Fr) × (List Int) × (Cp) × (Cp) × (List Fr)) (α := AV × List (Option (List AV))) (fun ⟨n, e, l, ps, P, t, u, W⟩ => u32R e l ∧ fiveL P) (fun i => .agg (((fun ⟨n, e, l, ps, P, t, u, W⟩ => [some [.int .i64 n, .int .u32 e, .int .u32 l, .sl (frsA ps) false], some (flatA (insA P)), some (flatA (frsA W))] : (Int) × (Int) × (Int) × (List Fr) × (List Int) × (Cp) × (Cp) × (List Fr) → List (Option (List AV))) i).map enO) :: (fun ⟨n, e, l, ps, P, t, u, W⟩ => [.ptr 0 0, .ref 1 1 0 P.length t, .ref 2 2 0 W.length u] : (Int) × (Int) × (Int) × (List Fr) × (List Int) × (Cp) × (Cp) × (List Fr) → List AV) i) (fun ⟨n, e, l, ps, P, t, u, W⟩ => (.agg [.int .i64 P.length, .int .u32 (remE e l P : Nat), .int .u32 (lfG l P P.length : Nat), .ref 2 2 0 W.length u], [some [.int .i64 n, .int .u32 e, .int .u32 l, .sl (frsA ps) false], some (flatA (insA P)), some (flatA (frsA W))])))
theorem sp_remade_eq (n e l : Int) (ps : List Fr) (P : List Int) (t u : Cp) (W : List Fr) (h : u32R e l ∧ fiveL P) : sp_remade [some [.int .i64 n, .int .u32 e, .int .u32 l, .sl (frsA ps) false], some (flatA (insA P)), some (flatA (frsA W))] [.ptr 0 0, .ref 1 1 0 P.length t, .ref 2 2 0 W.length u] = some (.agg [.int .i64 P.length, .int .u32 (remE e l P : Nat), .int .u32 (lfG l P P.length : Nat), .ref 2 2 0 W.length u], [some [.int .i64 n, .int .u32 e, .int .u32 l, .sl (frsA ps) false], some (flatA (insA P)), some (flatA (frsA W))]) := by
  unfold sp_remade pv
  exact pf_eq (ι := (Int) × (Int) × (Int) × (List Fr) × (List Int) × (Cp) × (Cp) × (List Fr)) (α := AV × List (Option (List AV))) (n, e, l, ps, P, t, u, W) h (by rintro ⟨n', e', l', ps', P', t', u', W'⟩ _ e; simp_all [enO, Int.natCast_inj])
set_option maxHeartbeats 1000000 in
theorem v_impl_Pattern_remade : QV PP 31 sp_remade := by
  refine QV_pf fun i h => ?_
  obtain ⟨n, e, l, ps, P, t, u, W⟩ := i
  replace h : u32R e l ∧ fiveL P := h
  refine H_code (Quiet.e1 e_made_rem (Quiet.e1 v_impl_Pattern_loop.toE Quiet.nil)) hmix k_impl_Pattern_remade rfl (fun b => b) (by simp [AHeap.n]) (fun _ _ => rfl) (by rfl) (by first | rfl | simp) ?_
  show wpc _ PP _ c_impl_Pattern_remade (initSt [.ptr 0 0, .ref 1 1 0 P.length t, .ref 2 2 0 W.length u] ⟨[some [.int .i64 n, .int .u32 e, .int .u32 l, .sl (frsA ps) false], some (flatA (insA P)), some (flatA (frsA W))]⟩) (endH (fun b => b) r_impl_Pattern_remade (.agg [.int .i64 P.length, .int .u32 (remE e l P : Nat), .int .u32 (lfG l P P.length : Nat), .ref 2 2 0 W.length u]) [some [.int .i64 n, .int .u32 e, .int .u32 l, .sl (frsA ps) false], some (flatA (insA P)), some (flatA (frsA W))])
  obtain ⟨he, hP⟩ := h
  have hP4 := hP.2
  have hm := spMade_eq (g := 57) (sp := spV sp_rem1) (n := P.length) (caps := [.ptr 3 0, .ptr 4 0]) (A := ⟨[some [.int .i64 n, .int .u32 e, .int .u32 l, .sl (frsA ps) false], some (flatA (insA P)), some (flatA (frsA W)), some [.ptr 0 0], some [.ref 1 1 0 P.length t], some [.int .i64 0, .int .u32 0, .int .u32 0, .sl [] true], some [.int .i64 0, .int .u32 0, .int .u32 0, .ref 2 2 0 W.length u]]⟩) (fun i j => joinB e l (atI P i) (atI P j)) (by omega) (fun i j hi hj => by
    have := sp_rem1_eq n e l ps P t i j ⟨he, hP, by omega, by omega⟩
    simp [this])
  simp -dsimp -implicitDefEqProofs [c_impl_Pattern_remade, r_impl_Pattern_remade, hm]
  refine wpLoop_st (fun (i : Nat) => ⟨tl [(3, .ptr 3 0), (6, .ptr 5 0), (7, .ptr 6 0), (17, .ref 1 1 0 P.length t), (18, .int .i64 P.length), (19, .int .i64 i)], ⟨[some [.int .i64 n, .int .u32 e, .int .u32 l, .sl (frsA ps) false], some (flatA (insA P)), some (flatA (frsA W)), some [.ptr 0 0], some [.ref 1 1 0 P.length t], some [.int .i64 0, .int .u32 0, .int .u32 0, .sl [] true], some [.int .i64 P.length, .int .u32 (remE e l P : Nat), .int .u32 (lfG l P i : Nat), .ref 2 2 0 W.length u]]⟩⟩) (fun i => i ≤ P.length) (fun i => P.length - i) 0 (by omega) (Sub.keep (by simp) (by simp [hsub, lfG, remE]) (by simp)) ?_
  rintro i hi
  simp -dsimp -implicitDefEqProofs
  refine brW_of (fun h => ?_) (fun h => ?_) <;> simp only [decide_eq_true_eq, decide_eq_false_iff_not] at h
  · have hx : i < P.length := by omega
    have hxi : (i : Int) < P.length := by omega
    have hw := wrapNat (i := i) (by omega)
    have g1 := get_in P i hx
    have g1' : ∀ h2, (flatA (insA P))[i]'h2 = .int .i64 P[i] := fun h2 => by rw [List.getElem?_eq_getElem h2] at g1; exact Option.some.inj g1
    have hlp := sp_loopP_eq n e l ps (atI P i) ⟨he.2, hP.at hx⟩
    rw [atI_get hx] at g1 g1'
    have hs : ∀ k : Nat, k < 4 → IntKind.u32.wrap (2 ^ min k IntKind.u32.bits) = 2 ^ k := by decide
    have hk := hs i (by omega)
    have hlt := lfG_lt l P i
    have hl16 : (2 : Nat) ^ i ≤ 8 := by
      have : i = 0 ∨ i = 1 ∨ i = 2 ∨ i = 3 := by omega
      rcases this with rfl | rfl | rfl | rfl <;> decide
    have ho := or32 (a := lfG l P i) (b := 2 ^ i) (by omega) (by omega)
    have hcast : ((2 ^ i : Nat) : Int) = 2 ^ i := by simp
    rw [hcast] at ho
    simp at ho
    cases hb : loopB l (atI P i) with
    | false =>
      have hst : lfG l P (i + 1) = lfG l P i := by rw [lfG, hb, if_neg (by decide)]
      rw [hb] at hlp
      simp -dsimp -implicitDefEqProofs [hx, hxi, g1, g1', hlp, hw]
      exact .mk (i + 1) (by omega) (by omega) (Sub.keep (by simp) (by simp [hsub, hst]) (by simp [hw]))
    | true =>
      have hst : lfG l P (i + 1) = lfG l P i ||| 2 ^ i := by rw [lfG, hb, if_pos rfl]
      rw [hb] at hlp
      have hi0 : ¬ (i : Int) < 0 := by omega
      simp -dsimp -implicitDefEqProofs [hx, hxi, g1, g1', hlp, hk, hi0, ho, hw]
      exact .mk (i + 1) (by omega) (by omega) (Sub.keep (by simp) (by simp [hsub, hst]) (by simp [hw]))
  · have hi' : i = P.length := by omega
    subst hi'
    simp -dsimp -implicitDefEqProofs [hsub]
theorem flat_frs_cons (x : Fr) (l : List Fr) : flatA (frsA (x :: l)) = [.int .i64 x.p, .int .i64 x.q] ++ flatA (frsA l) := rfl
theorem flat_frs_inj0 : ∀ (a b : List Fr), flatA (frsA a) = flatA (frsA b) → a = b
  | [], [], _ => rfl
  | [], y :: b, h => by rw [flat_frs_cons] at h; simp at h
  | x :: a, [], h => by rw [flat_frs_cons] at h; simp at h
  | x :: a, y :: b, h => by
    rw [flat_frs_cons, flat_frs_cons] at h
    simp only [List.cons_append, List.nil_append, List.cons.injEq, AV.int.injEq, true_and] at h
    have := flat_frs_inj0 a b h.2.2
    cases x; cases y
    simp_all
@[simp] theorem flat_frs_inj {a b : List Fr} : flatA (mapA frA a) = flatA (mapA frA b) ↔ a = b := ⟨flat_frs_inj0 a b, fun h => by rw [h]⟩
def toldV (g : Bool) (n e l : Int) (W : List Fr) (k : Nat) (t : Cp) : AV := if g = false ∧ patOk n e l W = true then .tup [.agg [.int .i64 n, .int .u32 e, .int .u32 l, .ref k 2 0 W.length t], .int .i64 0] else noPat 3
@[simp] theorem toldV_lt (g : Bool) (n e l : Int) (W : List Fr) (t : Cp) : AV.lt 2 (toldV g n e l W 1 t) = true := by unfold toldV; split <;> rfl
noncomputable def sp_toldP : List (Option (List AV)) → List AV → Option (AV × List (Option (List AV))) := pv (pf (ι := (Bool) × (Int) × (Int) × (Int) × (List Fr) × (Cp)) (α := AV × List (Option (List AV))) (fun ⟨g, n, e, l, W, t⟩ => u32R e l ∧ W.length ≤ maxLen) (fun i => .agg (((fun ⟨g, n, e, l, W, t⟩ => [some [.bool g], some (flatA (frsA W))] : (Bool) × (Int) × (Int) × (Int) × (List Fr) × (Cp) → List (Option (List AV))) i).map enO) :: (fun ⟨g, n, e, l, W, t⟩ => [.ptr 0 0, .agg [.int .i64 n, .int .u32 e, .int .u32 l, .ref 1 2 0 W.length t]] : (Bool) × (Int) × (Int) × (Int) × (List Fr) × (Cp) → List AV) i) (fun ⟨g, n, e, l, W, t⟩ => (toldV g n e l W 1 t, [some [.bool g], some (flatA (frsA W))])))
theorem sp_toldP_eq (g : Bool) (n e l : Int) (W : List Fr) (t : Cp) (h : u32R e l ∧ W.length ≤ maxLen) : sp_toldP [some [.bool g], some (flatA (frsA W))] [.ptr 0 0, .agg [.int .i64 n, .int .u32 e, .int .u32 l, .ref 1 2 0 W.length t]] = some (toldV g n e l W 1 t, [some [.bool g], some (flatA (frsA W))]) := by
  unfold sp_toldP pv
  exact pf_eq (ι := (Bool) × (Int) × (Int) × (Int) × (List Fr) × (Cp)) (α := AV × List (Option (List AV))) (g, n, e, l, W, t) h (by rintro ⟨g', n', e', l', W', t'⟩ _ e; simp_all [enO, Int.natCast_inj])
theorem v_impl_sums_toldPattern : QV PP 30 sp_toldP := by
  refine QV_pf fun i h => ?_
  obtain ⟨g, n, e, l, W, t⟩ := i
  replace h : u32R e l ∧ W.length ≤ maxLen := h
  refine H_code (Quiet.e1 q_impl_ValidPattern.toR Quiet.nil) hmix k_impl_sums_toldPattern rfl (fun b => b) (by simp [AHeap.n]) (fun _ _ => rfl) (by rfl) (by first | rfl | simp) ?_
  show wpc _ PP _ c_impl_sums_toldPattern (initSt [.ptr 0 0, .agg [.int .i64 n, .int .u32 e, .int .u32 l, .ref 1 2 0 W.length t]] ⟨[some [.bool g], some (flatA (frsA W))]⟩) (endH (fun b => b) r_impl_sums_toldPattern (toldV g n e l W 1 t) [some [.bool g], some (flatA (frsA W))])
  have hv := sp_patOk_eq n e l W ⟨h.1.1, h.1.2, h.2⟩
  unfold toldV
  cases g with
  | true => simp -dsimp -implicitDefEqProofs [c_impl_sums_toldPattern, r_impl_sums_toldPattern, noPat, hsub]
  | false =>
    cases hb : patOk n e l W <;> rw [hb] at hv <;> simp -dsimp -implicitDefEqProofs [c_impl_sums_toldPattern, r_impl_sums_toldPattern, hv, noPat, hsub]
end Go.Proofs.YtgiakpeneckgfaaAi
end

section
/- Contracts: SplitPart of the program. -/
namespace Go.Proofs.YtgiakpeneckgfaaAi
open Go Go.RowKit
set_option linter.unusedVariables false
set_option linter.unusedSimpArgs false
set_option maxRecDepth 20000

/-- The end of a function, where what it makes may have any names. -/
def endX (n : Nat) (rs : List ARes) (r : AV) (os : List (Option (List AV))) (e : Ex) (s : St) : Prop := ∃ π : Nat → Nat, (∀ b, b < n → π b = b) ∧ injB π os.length = true ∧ endH π rs r os e s
theorem X_code {P : Program} {S : Spec} (hS : Quiet P S) (hm : P.follows .mixedOrders = true) {f : FuncId} {nargs : Nat} {q : FuncId → Nat} {hints : List Hint} {c : AC} {rs : List ARes} (h : acLin P f nargs q hints = some (c, rs))
    {args : List AV} (ha : args.length = nargs) {A : AHeap} {r : AV} {os : List (Option (List AV))} (hN : A.n ≤ os.length) (hr : r.lt os.length = true)
    (vc : wpc A.n P S c (initSt args A) (endX A.n rs r os)) : T P f args A fun r' A' => r' = r ∧ A' = ⟨os⟩ := by
  refine T_code hS hm h ha (wpc_mono c (fun e s k => ?_) _ vc)
  obtain ⟨π, hπ, hi, k⟩ := k
  cases e with
  | exit id => exact k
  | _ =>
    simp only [endH, optW_iff] at k
    obtain ⟨v, h0, hv, hs⟩ := k
    obtain ⟨h1, h2⟩ := hsub_get hs
    simp only [endW, optW_iff]
    exact ⟨v, h0, r, ⟨os⟩, .view π hN hπ ⟨fun b hb => by simpa using h1 b hb, fun b cs hb => by simpa using h2 b cs hb, fun b b' cs cs' e1 e2 e => injB_spec hi (hget_lt e1) (hget_lt e2) e⟩ ⟨hr, hv⟩, rfl, rfl⟩
theorem allOk_get2 {l : List Fr} (h : allOk l = true) : ∀ x ∈ l, frOk x.p x.q = true := by
  unfold allOk at h
  exact fun x hx => List.all_eq_true.1 h x hx
theorem frOk_fin2 {p q : Int} (h : frOk p q = true) : frIn p q := by
  unfold frOk at h
  have := of_decide_eq_true h
  exact ⟨this.1, this.2.1⟩
def wtP (ps : List Fr) (part : Int) : Fr := ps[part.toNat]?.getD ⟨0, 1⟩
def sqM (ps : List Fr) (part p q : Int) : Option Fr := mulO p q (wtP ps part).p (wtP ps part).q
def sqD (ps : List Fr) (part p q : Int) : Option Fr := subO (wtP ps part).p (wtP ps part).q (valO (sqM ps part p q)).p (valO (sqM ps part p q)).q
def sqW (ps : List Fr) (part p q : Int) : List Fr := ps.set part.toNat (valO (sqD ps part p q)) ++ [valO (sqM ps part p q)]
def sqG (ps : List Fr) (part p q : Int) : Bool := (sqM ps part p q).isNone || (sqD ps part p q).isNone
def spBad (n part p q : Int) : Bool := ((!(decide (0 ≤ part) && decide (part ≤ n - 1)) || !frOk p q) || decide (p < 0)) || decide (q < p)
def spYes (n e l : Int) (ps : List Fr) (part p q : Int) : Prop := (patOk n e l ps = true ∧ spBad n part p q = false) ∧ n ≠ 4 ∧ sqG ps part p q = false ∧ patOk (n + 1) (spE n.toNat e.toNat l.toNat part.toNat : Nat) (spL n.toNat l.toNat part.toNat : Nat) (sqW ps part p q) = true
def spCode (n e l : Int) (ps : List Fr) (part p q : Int) : Int := if patOk n e l ps = false then 1 else if spBad n part p q = true then 2 else 3
open Classical in
noncomputable def splR (n e l : Int) (ps : List Fr) (part p q : Int) : AV × List (Option (List AV)) :=
  if spYes n e l ps part p q then (.tup [.agg [.int .i64 (n + 1), .int .u32 (spE n.toNat e.toNat l.toNat part.toNat : Nat), .int .u32 (spL n.toNat l.toNat part.toNat : Nat), .ref 0 2 0 (sqW ps part p q).length .full], .int .i64 0], [some (flatA (frsA (sqW ps part p q)))])
  else (noPat (spCode n e l ps part p q), [])
theorem splR_no {n e l : Int} {ps : List Fr} {part p q : Int} (h : ¬ spYes n e l ps part p q) : splR n e l ps part p q = (noPat (spCode n e l ps part p q), []) := if_neg h
theorem splR_yes {n e l : Int} {ps : List Fr} {part p q : Int} (h : spYes n e l ps part p q) : splR n e l ps part p q = (.tup [.agg [.int .i64 (n + 1), .int .u32 (spE n.toNat e.toNat l.toNat part.toNat : Nat), .int .u32 (spL n.toNat l.toNat part.toNat : Nat), .ref 0 2 0 (sqW ps part p q).length .full], .int .i64 0], [some (flatA (frsA (sqW ps part p q)))]) := if_pos h
theorem splR_lt (n e l : Int) (ps : List Fr) (part p q : Int) : (splR n e l ps part p q).1.lt (splR n e l ps part p q).2.length = true := by
  unfold splR; split <;> rfl
noncomputable def sp_splP : List AV → Option (AV × List (Option (List AV))) := pf (ι := (Int) × (Int) × (Int) × (List Fr) × (Int) × (Int) × (Int)) (α := AV × List (Option (List AV))) (fun ⟨n, e, l, ps, part, p, q⟩ => u32R e l ∧ ps.length ≤ maxLen) (fun ⟨n, e, l, ps, part, p, q⟩ => [.agg [.int .i64 n, .int .u32 e, .int .u32 l, .sl (frsA ps) false], .int .i64 part, .agg [.int .i64 p, .int .i64 q]]) (fun ⟨n, e, l, ps, part, p, q⟩ => splR n e l ps part p q)
theorem sp_splP_eq (n e l : Int) (ps : List Fr) (part p q : Int) (h : u32R e l ∧ ps.length ≤ maxLen) : sp_splP [.agg [.int .i64 n, .int .u32 e, .int .u32 l, .sl (frsA ps) false], .int .i64 part, .agg [.int .i64 p, .int .i64 q]] = some (splR n e l ps part p q) := by
  unfold sp_splP
  exact pf_eq (ι := (Int) × (Int) × (Int) × (List Fr) × (Int) × (Int) × (Int)) (α := AV × List (Option (List AV))) (n, e, l, ps, part, p, q) h (by rintro ⟨n', e', l', ps', part', p', q'⟩ _ e; simp_all [Int.natCast_inj])
set_option maxHeartbeats 8000000 in
theorem n_impl_SplitPart : QN PP 8 sp_splP := by
  refine QN_pf (fun i h => ?_) fun i h => ?_
  · obtain ⟨n, e, l, ps, part, p, q⟩ := i; first | rfl | simp
  obtain ⟨n, e, l, ps, part, p, q⟩ := i
  replace h : u32R e l ∧ ps.length ≤ maxLen := h
  show T PP 8 [.agg [.int .i64 n, .int .u32 e, .int .u32 l, .sl (frsA ps) false], .int .i64 part, .agg [.int .i64 p, .int .i64 q]] .nil fun r' A' => r' = ((splR n e l ps part p q : AV × List (Option (List AV)))).1 ∧ A' = ⟨((splR n e l ps part p q : AV × List (Option (List AV)))).2⟩
  obtain ⟨hel, hl⟩ := h
  have hv := sp_patOk_eq n e l ps ⟨hel.1, hel.2, hl⟩
  have hlt := splR_lt n e l ps part p q
  obtain ⟨R, hR⟩ : ∃ R, R = splR n e l ps part p q := ⟨_, rfl⟩
  rw [← hR] at hlt ⊢
  refine X_code (Quiet.q1 q_impl_in (Quiet.q1 q_impl_badFraction (Quiet.e1 q_impl_ValidPattern.toR (Quiet.e1 n_slices_Clone_Simpl_Fraction_impl_Fraction.toE (Quiet.e1 m_impl_sums_mul.toE (Quiet.e1 m_impl_sums_sub.toE (Quiet.e1 n_impl_first.toE (Quiet.e1 v_impl_Pattern_remade.toE (Quiet.e1 v_impl_sums_toldPattern.toE Quiet.nil))))))))) hmix k_impl_SplitPart rfl (by simp [AHeap.n, AHeap.nil]) hlt ?_
  have hno : ∀ c, R = (noPat c, []) → ∀ s, endH (fun b => b) r_impl_SplitPart (noPat c) [] .ret s → endX 0 r_impl_SplitPart R.1 R.2 .ret s := fun c h s hs => by
    rw [h]; exact ⟨fun b => b, fun b _ => rfl, rfl, hs⟩
  cases c1 : patOk n e l ps with
  | false =>
    rw [c1] at hv
    have hR1 : R = (noPat 1, []) := by rw [hR, splR_no (fun h => by rw [h.1.1] at c1; cases c1)]; unfold spCode; rw [if_pos c1]
    simp -dsimp -implicitDefEqProofs [c_impl_SplitPart, r_impl_SplitPart, hv]
    refine hno 1 hR1 _ ?_
    simp -dsimp -implicitDefEqProofs [r_impl_SplitPart, noPat, hsub]
  | true =>
    rw [c1] at hv
    obtain ⟨hgo, hn4, hlt2, hps, hall⟩ := patOk_spec c1
    have wn : IntKind.wrap .i64 (n - 1) = n - 1 := wrapI64 (by omega) (by omega)
    have hc0 : spCode n e l ps part p q = if spBad n part p q = true then 2 else 3 := by unfold spCode; rw [if_neg (by rw [c1]; decide)]
    cases c2 : spBad n part p q with
    | true =>
      have hR1 : R = (noPat 2, []) := by rw [hR, splR_no (fun h => by rw [h.1.2] at c2; cases c2), hc0, if_pos c2]
      have fin : ∀ s, endH (fun b => b) r_impl_SplitPart (noPat 2) [] .ret s → endX 0 r_impl_SplitPart R.1 R.2 .ret s := hno 2 hR1
      unfold spBad at c2
      cases b1 : (decide (0 ≤ part) && decide (part ≤ n - 1)) with
      | false =>
        simp -dsimp -implicitDefEqProofs [c_impl_SplitPart, r_impl_SplitPart, hv, wn, b1]
        refine fin _ ?_
        simp -dsimp -implicitDefEqProofs [r_impl_SplitPart, noPat, hsub]
      | true =>
        cases b2 : frOk p q with
        | false =>
          simp -dsimp -implicitDefEqProofs [c_impl_SplitPart, r_impl_SplitPart, hv, wn, b1, b2]
          refine fin _ ?_
          simp -dsimp -implicitDefEqProofs [r_impl_SplitPart, noPat, hsub]
        | true =>
          by_cases b3 : p < 0
          · simp -dsimp -implicitDefEqProofs [c_impl_SplitPart, r_impl_SplitPart, hv, wn, b1, b2, b3]
            refine fin _ ?_
            simp -dsimp -implicitDefEqProofs [r_impl_SplitPart, noPat, hsub]
          · have b4 : q < p := by
              rw [b1, b2, decide_eq_false b3] at c2
              simpa using c2
            simp -dsimp -implicitDefEqProofs [c_impl_SplitPart, r_impl_SplitPart, hv, wn, b1, b2, b3, b4]
            refine fin _ ?_
            simp -dsimp -implicitDefEqProofs [r_impl_SplitPart, noPat, hsub]
    | false =>
      have c2' := c2
      unfold spBad at c2
      simp only [Bool.or_eq_false_iff, Bool.not_eq_false', decide_eq_false_iff_not] at c2
      obtain ⟨⟨⟨b1, b2⟩, b3⟩, b4⟩ := c2
      have b1' := b1
      simp only [Bool.and_eq_true, decide_eq_true_eq] at b1'
      have hc3 : spCode n e l ps part p q = 3 := by rw [hc0, if_neg (by rw [c2']; decide)]
      by_cases c3 : n = 4
      · have hR1 : R = (noPat 3, []) := by rw [hR, splR_no (fun h => h.2.1 c3), hc3]
        subst c3
        have w3 : IntKind.wrap .i64 3 = 3 := rfl
        have p1 := b1'.1
        have p2 : part ≤ 3 := b1'.2
        simp -dsimp -implicitDefEqProofs [c_impl_SplitPart, r_impl_SplitPart, hv, w3, p1, p2, b2, b3, b4]
        refine hno 3 hR1 _ ?_
        simp -dsimp -implicitDefEqProofs [r_impl_SplitPart, noPat, hsub]
      have c3' : (n == 4) = false := by simpa using c3
      obtain ⟨k, hk⟩ := Int.eq_ofNat_of_zero_le (show 0 ≤ n by omega)
      obtain ⟨i, hi⟩ := Int.eq_ofNat_of_zero_le b1'.1
      subst hk hi
      have hpl : ps.length = k := by omega
      have hik : i < ps.length := by omega
      have hiki : (i : Int) < ps.length := by omega
      have hne : ps ≠ [] := fun h => by rw [h] at hik; simp at hik
      have hw : wtP ps i = ps[i] := by unfold wtP; rw [Int.toNat_natCast, List.getElem?_eq_getElem hik]; rfl
      have hwok : frOk ps[i].p ps[i].q = true := allOk_get2 hall _ (List.getElem_mem hik)
      have hcl := sp_cloneFr_eq ps ⟨hne, by omega⟩
      have fS := frOk_fin2 b2
      have fW := frOk_fin2 hwok
      have hmul := sp_mul_eq false p q ps[i].p ps[i].q ⟨fS, fW⟩
      have dM : mulO p q ps[i].p ps[i].q = sqM ps i p q := by unfold sqM; rw [hw]
      rw [dM, Bool.false_or] at hmul
      have mIn : frIn (valO (sqM ps i p q)).p (valO (sqM ps i p q)).q := by
        rw [← dM]; exact valO_in (by have := fS; have := fW; unfold frIn at *; exact Int.mul_ne_zero (by omega) (by omega))
      have hsub2 := sp_sub_eq (sqM ps i p q).isNone ps[i].p ps[i].q (valO (sqM ps i p q)).p (valO (sqM ps i p q)).q ⟨fW, mIn⟩
      have dD : subO ps[i].p ps[i].q (valO (sqM ps i p q)).p (valO (sqM ps i p q)).q = sqD ps i p q := by unfold sqD; rw [hw]
      rw [dD] at hsub2
      have dG : ((sqM ps i p q).isNone || (sqD ps i p q).isNone) = sqG ps i p q := rfl
      rw [dG] at hsub2
      have dW : ps.set i (valO (sqD ps i p q)) ++ [valO (sqM ps i p q)] = sqW ps i p q := by unfold sqW; rw [Int.toNat_natCast]
      generalize valO (sqM ps i p q) = M at *
      generalize valO (sqD ps i p q) = D at *
      have x0 := get_fr0 ps i hik
      have x1 := get_fr1 ps i hik
      have y0 : ∀ h2, (flatA (frsA ps))[i * 2]'h2 = .int .i64 ps[i].p := fun h2 => by rw [List.getElem?_eq_getElem h2] at x0; exact Option.some.inj x0
      have y1 : ∀ h2, (flatA (frsA ps))[i * 2 + 1]'h2 = .int .i64 ps[i].q := fun h2 => by rw [List.getElem?_eq_getElem h2] at x1; exact Option.some.inj x1
      have f1 : i * 2 < ps.length * 2 := by omega
      have f2 : i * 2 + 1 < ps.length * 2 := by omega
      have f3 : i * 2 + 2 ≤ ps.length * 2 := by omega
      have p2 := b1'.2
      have hset := set_fr ps i D.p D.q hik
      have hfi := sp_firstP_eq k (by omega)
      have hfR : firstR k = (.ref 0 1 0 k .full, [some (flatA (insA (upTo k)))]) := if_neg (by omega)
      rw [hfR] at hfi
      have lp : (spP k i).length = k + 1 := by unfold spP; rw [List.length_append, upTo_len]; rfl
      have lW : (sqW ps i p q).length = ps.length + 1 := by rw [← dW]; simp
      have eP : flatA (insA (upTo k)) ++ [.int .i64 (i : Int)] = flatA (insA (spP k i)) := by unfold spP; rw [flatA_append, flatA_one]; rfl
      have eW : flatA (frsA (ps.set i D)) ++ [.int .i64 M.p, .int .i64 M.q] = flatA (frsA (sqW ps i p q)) := by rw [← dW, flatA_append]; rfl
      have hfive : fiveL (spP k i) := by
        refine ⟨fun x hx => ?_, by omega⟩
        unfold spP at hx
        rcases List.mem_append.1 hx with hx | hx
        · have := upTo_mem hx; omega
        · obtain rfl := List.mem_singleton.1 hx; omega
      have hE : (remE e l (spP k i) : Nat) = spE k e.toNat l.toNat i := by
        unfold remE spE
        rw [lp, show ((e.toNat : Nat) : Int) = e by have := hel.1; omega, show ((l.toNat : Nat) : Int) = l by have := hel.2; omega]
      have hL : lfG l (spP k i) (spP k i).length = spL k l.toNat i := by
        unfold spL
        rw [lp, show ((l.toNat : Nat) : Int) = l by have := hel.2; omega]
      have hrem := sp_remade_eq k e l ps (spP k i) .full .full (sqW ps i p q) ⟨hel, hfive⟩
      rw [hE, hL, lp, lW] at hrem
      have hEb : spE k e.toNat l.toNat i < 1024 := by
        have := madeE_tri (fun a b => joinB (e.toNat : Int) (l.toNat : Int) (atI (spP k i) a) (atI (spP k i) b)) (k + 1)
        have h2 : (2 : Nat) ^ ((k + 1) * (k + 1 - 1) / 2) ≤ 64 := by
          have : k = 1 ∨ k = 2 ∨ k = 3 := by omega
          rcases this with rfl | rfl | rfl <;> decide
        unfold spE; omega
      have hLb : spL k l.toNat i < 1024 := by
        have := lfG_lt (l.toNat : Int) (spP k i) (k + 1)
        have h2 : (2 : Nat) ^ (k + 1) ≤ 16 := by
          have : k = 1 ∨ k = 2 ∨ k = 3 := by omega
          rcases this with rfl | rfl | rfl <;> decide
        unfold spL; omega
      have hto := sp_toldP_eq (sqG ps i p q) (k + 1) (spE k e.toNat l.toNat i : Nat) (spL k l.toNat i : Nat) (sqW ps i p q) .full ⟨⟨by omega, by omega⟩, by rw [lW]; simp only [maxLen]; omega⟩
      rw [lW] at hto
      have hYes : spYes k e l ps i p q ↔ (sqG ps i p q = false ∧ patOk ((k : Int) + 1) (spE k e.toNat l.toNat i : Nat) (spL k l.toNat i : Nat) (sqW ps i p q) = true) := by
        unfold spYes
        rw [Int.toNat_natCast, Int.toNat_natCast]
        exact ⟨fun h => h.2.2, fun h => ⟨⟨c1, c2'⟩, c3, h⟩⟩
      have a1 : ¬ (k + 1 ≤ k) := by omega
      have a2 : ¬ ((ps.length + 1) * 2 ≤ ps.length * 2) := by omega
      have a3 : (k + 1) * 9 ≤ mostBytes := by simp only [mostBytes]; omega
      have a4 : (ps.length + 1) * 17 ≤ mostBytes := by simp only [mostBytes]; omega
      have a5 : (flatA (insA (upTo k))).take k = flatA (insA (upTo k)) := List.take_of_length_le (by simp [upTo_len])
      have a6 : (flatA (frsA (ps.set i D))).take (ps.length * 2) = flatA (frsA (ps.set i D)) := List.take_of_length_le (by simp)
      generalize ps[i].p = wp at *
      generalize ps[i].q = wq at *
      unfold toldV at hto
      rw [lW] at hto
      by_cases c5 : sqG ps i p q = false ∧ patOk ((k : Int) + 1) (spE k e.toNat l.toNat i : Nat) (spL k l.toNat i : Nat) (sqW ps i p q) = true
      · rw [if_pos c5] at hto
        have hRy := splR_yes (hYes.2 c5)
        rw [← hR] at hRy
        simp -dsimp -implicitDefEqProofs [c_impl_SplitPart, r_impl_SplitPart, hv, wn, p2, b2, b3, b4, c3, c3', hcl, hik, hiki, hmul, hsub2, x0, x1, y0, y1, f1, f2, f3, hset, hfi, a1, a2, a3, a4, a5, a6, eP, eW, hrem, hto]
        have e1 : R.1 = .tup [.agg [.int .i64 ((k : Int) + 1), .int .u32 (spE k e.toNat l.toNat i : Nat), .int .u32 (spL k l.toNat i : Nat), .ref 0 2 0 (ps.length + 1) .full], .int .i64 0] := by rw [hRy, lW, Int.toNat_natCast, Int.toNat_natCast]
        have e2 : R.2 = [some (flatA (frsA (sqW ps i p q)))] := by rw [hRy]
        rw [e1, e2]
        clear hR hRy hYes hlt hno
        repeat' (apply And.intro)
        all_goals first
          | (refine ⟨fun _ => 9, fun b hb => absurd hb (Nat.not_lt_zero _), rfl, ?_⟩; simp -dsimp -implicitDefEqProofs [hsub]; done)
          | (refine ⟨fun _ => 10, fun b hb => absurd hb (Nat.not_lt_zero _), rfl, ?_⟩; simp -dsimp -implicitDefEqProofs [hsub]; done)
          | (refine ⟨fun _ => 8, fun b hb => absurd hb (Nat.not_lt_zero _), rfl, ?_⟩; simp -dsimp -implicitDefEqProofs [hsub]; done)
          | (refine ⟨fun _ => 7, fun b hb => absurd hb (Nat.not_lt_zero _), rfl, ?_⟩; simp -dsimp -implicitDefEqProofs [hsub]; done)
      · rw [if_neg c5] at hto
        have hR1 : R = (noPat 3, []) := by rw [hR, splR_no (fun h => c5 (hYes.1 h)), hc3]
        simp -dsimp -implicitDefEqProofs [c_impl_SplitPart, r_impl_SplitPart, hv, wn, p2, b2, b3, b4, c3, c3', hcl, hik, hiki, hmul, hsub2, x0, x1, y0, y1, f1, f2, f3, hset, hfi, a1, a2, a3, a4, a5, a6, eP, eW, hrem, hto, noPat]
        repeat' (apply And.intro)
        all_goals (refine hno 3 hR1 _ ?_; simp -dsimp -implicitDefEqProofs [r_impl_SplitPart, noPat, hsub])
end Go.Proofs.YtgiakpeneckgfaaAi
end

section
/- Contracts: SplitPart of the reference. -/
namespace Go.Proofs.YtgiakpeneckgfaaAi
open Go Go.RowKit
set_option linter.unusedVariables false
set_option linter.unusedSimpArgs false
set_option maxRecDepth 20000

/-- The weights are seen by value from here on. -/
theorem Shift.weights {N : Nat} {tm : Nat → AV} {o2 : Option (List AV)} {x y z : AV} {W : List Fr} {t : Cp} : Shift N ⟨tm, ⟨[some (flatA (frsA W)), some [x, y, z, .ref 0 2 0 W.length t], o2]⟩⟩ ⟨fun i => if i = 0 then .any else tm i, ⟨[none, some [x, y, z, .sl (frsA W) false], o2]⟩⟩ := by
  refine Shift.freeze (b := 0) (cs := flatA (frsA W)) rfl (fun i => ?_) rfl (fun i l' h => ?_)
  · by_cases hi : i = 0
    · left; simp [hi]
    · right; simp only [hi, if_false]; exact Fz.refl _ _ _
  match i, h with
  | 0, h => cases h
  | 1, h =>
    have h : some [x, y, z, .sl (frsA W) false] = some l' := h
    injection h with h
    subst h
    refine ⟨by decide, _, rfl, rfl, fun i u u' e1 e2 => ?_⟩
    match i, e1, e2 with
    | 0, e1, e2 => cases e1; cases e2; exact .inl rfl
    | 1, e1, e2 => cases e1; cases e2; exact .inl rfl
    | 2, e1, e2 => cases e1; cases e2; exact .inl rfl
    | 3, e1, e2 =>
      cases e1; cases e2
      exact .inr (.inr ⟨2, 0, W.length, t, frsA W, false, rfl, rfl, (fun h => by cases h), by simp, by simp, frsA_cells W, .inl (by simp; exact (List.take_of_length_le (by simp)).symm)⟩)
    | k + 4, e1, e2 => cases e1
  | 2, h => exact ⟨by decide, l', h, rfl, fun i x x' e1 e2 => .inl (by rw [e1] at e2; exact (Option.some.inj e2).symm)⟩
  | k + 3, h => cases h
def madeV (n e l : Int) (W : List Fr) : AV := if patOk n e l W = true then .tup [.agg [.int .i64 n, .int .u32 e, .int .u32 l, .sl (frsA W) false], .int .i64 0] else noPat 3
@[simp] theorem madeV_lt (n e l : Int) (W : List Fr) (k : Nat) : AV.lt k (madeV n e l W) = true := by unfold madeV; split <;> simp [noPat]
noncomputable def sp_made07 : List (Option (List AV)) → List AV → Option (AV × List (Option (List AV))) := pv (pf (ι := (Int) × (Int) × (Int) × (List Fr) × (Cp)) (α := AV × List (Option (List AV))) (fun ⟨n, e, l, W, t⟩ => u32R e l ∧ W.length ≤ maxLen) (fun i => .agg (((fun ⟨n, e, l, W, t⟩ => [some (flatA (frsA W))] : (Int) × (Int) × (Int) × (List Fr) × (Cp) → List (Option (List AV))) i).map enO) :: (fun ⟨n, e, l, W, t⟩ => [.agg [.int .i64 n, .int .u32 e, .int .u32 l, .ref 0 2 0 W.length t]] : (Int) × (Int) × (Int) × (List Fr) × (Cp) → List AV) i) (fun ⟨n, e, l, W, t⟩ => (madeV n e l W, [none])))
theorem sp_made07_eq (n e l : Int) (W : List Fr) (t : Cp) (h : u32R e l ∧ W.length ≤ maxLen) : sp_made07 [some (flatA (frsA W))] [.agg [.int .i64 n, .int .u32 e, .int .u32 l, .ref 0 2 0 W.length t]] = some (madeV n e l W, [none]) := by
  unfold sp_made07 pv
  exact pf_eq (ι := (Int) × (Int) × (Int) × (List Fr) × (Cp)) (α := AV × List (Option (List AV))) (n, e, l, W, t) h (by rintro ⟨n', e', l', W', t'⟩ _ e; simp_all [enO, Int.natCast_inj])
theorem v_spec_l07Made : QV PP 21 sp_made07 := by
  refine QV_pf fun i h => ?_
  obtain ⟨n, e, l, W, t⟩ := i
  replace h : u32R e l ∧ W.length ≤ maxLen := h
  refine H_code (Quiet.e1 m_spec_l07Ok.toE Quiet.nil) hmix k_spec_l07Made rfl (fun b => b) (by simp [AHeap.n]) (fun _ _ => rfl) (by rfl) (by first | rfl | simp) ?_
  show wpc _ PP _ c_spec_l07Made (initSt [.agg [.int .i64 n, .int .u32 e, .int .u32 l, .ref 0 2 0 W.length t]] ⟨[some (flatA (frsA W))]⟩) (endH (fun b => b) r_spec_l07Made (madeV n e l W) [none])
  have hv := sp_l07Ok_eq n e l W ⟨h.1.1, h.1.2, h.2⟩
  unfold madeV
  simp -dsimp -implicitDefEqProofs [c_spec_l07Made, r_spec_l07Made]
  refine ⟨_, Shift.weights, ?_⟩
  cases hb : patOk n e l W <;> rw [hb] at hv <;> simp -dsimp -implicitDefEqProofs [hv, noPat, hsub]
open Classical in
noncomputable def splS (n e l : Int) (ps : List Fr) (part p q : Int) : AV :=
  if spYes n e l ps part p q then .tup [.agg [.int .i64 (n + 1), .int .u32 (spE n.toNat e.toNat l.toNat part.toNat : Nat), .int .u32 (spL n.toNat l.toNat part.toNat : Nat), .sl (frsA (sqW ps part p q)) false], .int .i64 0]
  else noPat (spCode n e l ps part p q)
theorem splS_no {n e l : Int} {ps : List Fr} {part p q : Int} (h : ¬ spYes n e l ps part p q) : splS n e l ps part p q = noPat (spCode n e l ps part p q) := if_neg h
theorem splS_yes {n e l : Int} {ps : List Fr} {part p q : Int} (h : spYes n e l ps part p q) : splS n e l ps part p q = .tup [.agg [.int .i64 (n + 1), .int .u32 (spE n.toNat e.toNat l.toNat part.toNat : Nat), .int .u32 (spL n.toNat l.toNat part.toNat : Nat), .sl (frsA (sqW ps part p q)) false], .int .i64 0] := if_pos h
@[simp] theorem splS_lt (n e l : Int) (ps : List Fr) (part p q : Int) (k : Nat) : (splS n e l ps part p q).lt k = true := by unfold splS; split <;> simp [noPat]
noncomputable def sp_splSP : List AV → Option (AV × List (Option (List AV))) := pf (ι := (Int) × (Int) × (Int) × (List Fr) × (Int) × (Int) × (Int)) (α := AV × List (Option (List AV))) (fun ⟨n, e, l, ps, part, p, q⟩ => u32R e l ∧ ps.length ≤ maxLen) (fun ⟨n, e, l, ps, part, p, q⟩ => [.agg [.int .i64 n, .int .u32 e, .int .u32 l, .sl (frsA ps) false], .int .i64 part, .agg [.int .i64 p, .int .i64 q]]) (fun ⟨n, e, l, ps, part, p, q⟩ => (splS n e l ps part p q, []))
theorem sp_splSP_eq (n e l : Int) (ps : List Fr) (part p q : Int) (h : u32R e l ∧ ps.length ≤ maxLen) : sp_splSP [.agg [.int .i64 n, .int .u32 e, .int .u32 l, .sl (frsA ps) false], .int .i64 part, .agg [.int .i64 p, .int .i64 q]] = some ((splS n e l ps part p q, [])) := by
  unfold sp_splSP
  exact pf_eq (ι := (Int) × (Int) × (Int) × (List Fr) × (Int) × (Int) × (Int)) (α := AV × List (Option (List AV))) (n, e, l, ps, part, p, q) h (by rintro ⟨n', e', l', ps', part', p', q'⟩ _ e; simp_all [Int.natCast_inj])
theorem bit_1024 {i k : Nat} (hi : i < k) (hk : k < 5) : (2 : Nat) ^ bitI i k < 1024 := Nat.pow_lt_pow_right (by decide) (bitI_lt hi hk)
set_option maxHeartbeats 8000000 in
theorem n_spec_SplitPart : QN PP 5 sp_splSP := by
  refine QN_pf (fun i h => ?_) fun i h => ?_
  · obtain ⟨n, e, l, ps, part, p, q⟩ := i; first | rfl | simp
  obtain ⟨n, e, l, ps, part, p, q⟩ := i
  replace h : u32R e l ∧ ps.length ≤ maxLen := h
  show T PP 5 [.agg [.int .i64 n, .int .u32 e, .int .u32 l, .sl (frsA ps) false], .int .i64 part, .agg [.int .i64 p, .int .i64 q]] .nil fun r' A' => r' = (((splS n e l ps part p q, []) : AV × List (Option (List AV)))).1 ∧ A' = ⟨(((splS n e l ps part p q, []) : AV × List (Option (List AV)))).2⟩
  obtain ⟨hel, hl⟩ := h
  have hv := sp_l07Ok_eq n e l ps ⟨hel.1, hel.2, hl⟩
  obtain ⟨R, hR⟩ : ∃ R, R = splS n e l ps part p q := ⟨_, rfl⟩
  have hlt : R.lt 0 = true := by rw [hR]; simp
  rw [← hR]
  refine H_code (Quiet.q1 q_spec_l00In (Quiet.q1 q_spec_l02Ok (Quiet.q1 q_spec_l02Mul (Quiet.q1 q_spec_l02Sub (Quiet.q1 q_spec_l01Bit (Quiet.e1 m_spec_l07Ok.toE (Quiet.e1 b_spec_l07Copy.toE (Quiet.e1 v_spec_l07Joined.toE (Quiet.e1 v_spec_l07Made.toE Quiet.nil))))))))) hmix k_spec_SplitPart rfl (fun _ => 0) (by simp [AHeap.n, AHeap.nil]) (by intro b hb; simp [AHeap.n, AHeap.nil] at hb) rfl hlt ?_
  cases c1 : patOk n e l ps with
  | false =>
    rw [c1] at hv
    have hR1 : R = noPat 1 := by rw [hR, splS_no (fun h => by rw [h.1.1] at c1; cases c1)]; unfold spCode; rw [if_pos c1]
    subst hR1
    simp -dsimp -implicitDefEqProofs [c_spec_SplitPart, r_spec_SplitPart, hv, noPat, hsub]
  | true =>
    rw [c1] at hv
    obtain ⟨hgo, hn4, hlt2, hps, hall⟩ := patOk_spec c1
    have wn : IntKind.wrap .i64 (n - 1) = n - 1 := wrapI64 (by omega) (by omega)
    have hc0 : spCode n e l ps part p q = if spBad n part p q = true then 2 else 3 := by unfold spCode; rw [if_neg (by rw [c1]; decide)]
    cases c2 : spBad n part p q with
    | true =>
      have hR1 : R = noPat 2 := by rw [hR, splS_no (fun h => by rw [h.1.2] at c2; cases c2), hc0, if_pos c2]
      subst hR1
      unfold spBad at c2
      cases b1 : (decide (0 ≤ part) && decide (part ≤ n - 1)) with
      | false => simp -dsimp -implicitDefEqProofs [c_spec_SplitPart, r_spec_SplitPart, hv, wn, b1, noPat, hsub]
      | true =>
        cases b2 : frOk p q with
        | false => simp -dsimp -implicitDefEqProofs [c_spec_SplitPart, r_spec_SplitPart, hv, wn, b1, b2, noPat, hsub]
        | true =>
          by_cases b3 : p < 0
          · simp -dsimp -implicitDefEqProofs [c_spec_SplitPart, r_spec_SplitPart, hv, wn, b1, b2, b3, noPat, hsub]
          · have b4 : q < p := by
              rw [b1, b2, decide_eq_false b3] at c2
              simpa using c2
            simp -dsimp -implicitDefEqProofs [c_spec_SplitPart, r_spec_SplitPart, hv, wn, b1, b2, b3, b4, noPat, hsub]
    | false =>
      have c2' := c2
      unfold spBad at c2
      simp only [Bool.or_eq_false_iff, Bool.not_eq_false', decide_eq_false_iff_not] at c2
      obtain ⟨⟨⟨b1, b2⟩, b3⟩, b4⟩ := c2
      have b1' := b1
      simp only [Bool.and_eq_true, decide_eq_true_eq] at b1'
      have hc3 : spCode n e l ps part p q = 3 := by rw [hc0, if_neg (by rw [c2']; decide)]
      by_cases c3 : n = 4
      · have hR1 : R = noPat 3 := by rw [hR, splS_no (fun h => h.2.1 c3), hc3]
        subst hR1
        subst c3
        have w3 : IntKind.wrap .i64 3 = 3 := rfl
        have p1 := b1'.1
        have p2 : part ≤ 3 := b1'.2
        simp -dsimp -implicitDefEqProofs [c_spec_SplitPart, r_spec_SplitPart, hv, w3, p1, p2, b2, b3, b4, noPat, hsub]
      have c3' : (n == 4) = false := by simpa using c3
      obtain ⟨k, hk⟩ := Int.eq_ofNat_of_zero_le (show 0 ≤ n by omega)
      obtain ⟨i, hi⟩ := Int.eq_ofNat_of_zero_le b1'.1
      subst hk hi
      have hpl : ps.length = k := by omega
      have hik : i < ps.length := by omega
      have hiki : (i : Int) < ps.length := by omega
      have hne : ps ≠ [] := fun h => by rw [h] at hik; simp at hik
      have hw : wtP ps i = ps[i] := by unfold wtP; rw [Int.toNat_natCast, List.getElem?_eq_getElem hik]; rfl
      have hwok : frOk ps[i].p ps[i].q = true := allOk_get2 hall _ (List.getElem_mem hik)
      have fS := frOk_fin2 b2
      have fW := frOk_fin2 hwok
      have p2 := b1'.2
      have hmul := sp_l02Mul_eq p q ps[i].p ps[i].q ⟨fS, fW⟩
      have dM : mulO p q ps[i].p ps[i].q = sqM ps i p q := by unfold sqM; rw [hw]
      rw [dM] at hmul
      have mIn : frIn (valO (sqM ps i p q)).p (valO (sqM ps i p q)).q := by
        rw [← dM]; exact valO_in (by have := fS; have := fW; unfold frIn at *; exact Int.mul_ne_zero (by omega) (by omega))
      have hsub2 := sp_l02Sub_eq ps[i].p ps[i].q (valO (sqM ps i p q)).p (valO (sqM ps i p q)).q ⟨fW, mIn⟩
      have dD : subO ps[i].p ps[i].q (valO (sqM ps i p q)).p (valO (sqM ps i p q)).q = sqD ps i p q := by unfold sqD; rw [hw]
      rw [dD] at hsub2
      have dG : ((sqM ps i p q).isNone || (sqD ps i p q).isNone) = sqG ps i p q := rfl
      cases m0 : sqM ps i p q with
      | none =>
        have hg : sqG ps i p q = true := by rw [← dG, m0]; rfl
        have hR1 : R = noPat 3 := by rw [hR, splS_no (fun h => by rw [h.2.2.1] at hg; cases hg), hc3]
        subst hR1
        rw [m0] at hmul
        simp -dsimp -implicitDefEqProofs [c_spec_SplitPart, r_spec_SplitPart, hv, wn, p2, b2, b3, b4, c3, c3', hik, hiki, hmul, frO, noPat, hsub]
      | some M =>
        have hM : valO (sqM ps i p q) = M := by rw [m0]; rfl
        rw [hM] at hsub2
        rw [m0] at hmul
        cases d0 : sqD ps i p q with
        | none =>
          have hg : sqG ps i p q = true := by rw [← dG, d0]; simp
          have hR1 : R = noPat 3 := by rw [hR, splS_no (fun h => by rw [h.2.2.1] at hg; cases hg), hc3]
          subst hR1
          rw [d0] at hsub2
          simp -dsimp -implicitDefEqProofs [c_spec_SplitPart, r_spec_SplitPart, hv, wn, p2, b2, b3, b4, c3, c3', hik, hiki, hmul, hsub2, frO, noPat, hsub]
        | some D =>
          rw [d0] at hsub2
          have hD : valO (sqD ps i p q) = D := by rw [d0]; rfl
          have hg : sqG ps i p q = false := by rw [← dG, m0, d0]; rfl
          have dW : ps.set i D ++ [M] = sqW ps i p q := by unfold sqW; rw [Int.toNat_natCast, hM, hD]
          have hcp := sp_l07Copy_eq k e l ps ⟨hne, by omega⟩
          have wk : IntKind.wrap .i64 ((k : Int) + 1) = (k : Int) + 1 := wrapI64 (by omega) (by omega)
          simp -dsimp -implicitDefEqProofs [c_spec_SplitPart, r_spec_SplitPart, hv, wn, p2, b2, b3, b4, c3, c3', hik, hiki, hmul, hsub2, frO, hcp, wk]
          have ee : ((e.toNat : Nat) : Int) = e := by have := hel.1; omega
          have el : ((l.toNat : Nat) : Int) = l := by have := hel.2; omega
          have hgl := graphOk_lt hgo (by have := hel.1; omega)
          have hglt : e.toNat < 2 ^ (k * (k - 1) / 2) := by simpa using hgl.2
          have hllt : l.toNat < 2 ^ k := by
            have h1 : l < 2 ^ k := by simpa using hlt2
            have : ((l.toNat : Nat) : Int) < ((2 ^ k : Nat) : Int) := by rw [el]; simpa using h1
            exact_mod_cast this
          obtain ⟨sE, sL⟩ := split_same (n := k) (e := e.toNat) (l := l.toNat) (part := i) ⟨by omega, by omega⟩ hglt hllt (by omega)
          have k3 : k = 1 ∨ k = 2 ∨ k = 3 := by omega
          have hp3 : (2 : Nat) ^ (k * (k - 1) / 2) ≤ 8 := by rcases k3 with rfl | rfl | rfl <;> decide
          have hp8 : (2 : Nat) ^ k ≤ 8 := by rcases k3 with rfl | rfl | rfl <;> decide
          have seB : ∀ j, j ≤ k → seF k e.toNat l.toNat i j < 1024 := by
            intro j
            induction j with
            | zero => intro _; rw [seF]; omega
            | succ j ih =>
              intro hj
              have := ih (by omega)
              rw [seF]
              split
              · exact Nat.or_lt_two_pow (n := 10) this (bit_1024 (by omega) (by omega))
              · exact this
          refine wpLoop_st (fun (j : Nat) => ⟨tl [(1, .int .i64 i), (3, .ptr 0 0), (6, .ptr 2 0), (8, .ptr 3 0), (10, .ptr 4 0), (12, .ptr 6 0), (13, .int .i64 k), (14, .int .i64 j)], ⟨[some [.int .i64 k, .int .u32 e, .int .u32 l, .sl (frsA ps) false], some [.int .i64 p, .int .i64 q], some [.int .i64 0, .int .u32 0, .int .u32 0, .sl [] true], some [.int .i64 M.p, .int .i64 M.q], some [.int .i64 D.p, .int .i64 D.q], some (flatA (frsA ps)), some [.int .i64 ((k : Int) + 1), .int .u32 (seF k e.toNat l.toNat i j : Nat), .int .u32 l, .ref 5 2 0 ps.length .full]]⟩⟩) (fun j => j ≤ k) (fun j => k - j) 0 (by omega) (Sub.keep (by simp) (by simp [hsub, seF, ee]) (by simp)) ?_
          rintro j hj
          simp -dsimp -implicitDefEqProofs
          refine brW_of (fun h => ?_) (fun h => ?_) <;> simp only [decide_eq_true_eq, decide_eq_false_iff_not] at h
          · have hx : j < k := by omega
            have hwj := wrapNat (i := j) (by omega)
            have hjn := sp_joinP_eq k e l ps j i ⟨hel, by omega, by omega⟩
            have hbt := sp_bit_eq j k ⟨by omega, by omega⟩
            have hb10 := bit_1024 (i := j) (k := k) hx (by omega)
            have hsb := seB j (by omega)
            have ho := or32 (a := seF k e.toNat l.toNat i j) (b := 2 ^ bitI j k) (by omega) (by omega)
            have hcast : ((2 ^ bitI j k : Nat) : Int) = 2 ^ bitI j k := by simp
            rw [hcast] at ho
            simp at ho
            simp only [Int.toNat_natCast] at hbt
            cases hb : joinB e l j i with
            | false =>
              have hst : seF k e.toNat l.toNat i (j + 1) = seF k e.toNat l.toNat i j := by rw [seF, ee, el, hb, if_neg (by decide)]
              rw [hb] at hjn
              simp -dsimp -implicitDefEqProofs [hjn, hwj]
              exact .mk (j + 1) (by omega) (by omega) (Sub.keep (by simp) (by simp [hsub, hst]) (by simp [hwj]))
            | true =>
              have hst : seF k e.toNat l.toNat i (j + 1) = seF k e.toNat l.toNat i j ||| 2 ^ bitI j k := by rw [seF, ee, el, hb, if_pos rfl]
              rw [hb] at hjn
              simp -dsimp -implicitDefEqProofs [hjn, hbt, ho, hwj]
              exact .mk (j + 1) (by omega) (by omega) (Sub.keep (by simp) (by simp [hsub, hst]) (by simp [hwj]))
          · obtain rfl : j = k := by omega
            rw [sE]
            have hjn := sp_joinP_eq j e l ps i i ⟨hel, by omega, by omega⟩
            have hjb : joinB e l i i = loopB l i := if_pos rfl
            rw [hjb] at hjn
            have f3 : i * 2 + 2 ≤ ps.length * 2 := by omega
            have hset := set_fr ps i D.p D.q hik
            have a2 : ¬ ((ps.length + 1) * 2 ≤ ps.length * 2) := by omega
            have a4 : (ps.length + 1) * 17 ≤ mostBytes := by simp only [mostBytes]; omega
            have a6 : (flatA (frsA (ps.set i D))).take (ps.length * 2) = flatA (frsA (ps.set i D)) := List.take_of_length_le (by simp)
            have eW : flatA (frsA (ps.set i D)) ++ [.int .i64 M.p, .int .i64 M.q] = flatA (frsA (sqW ps i p q)) := by rw [← dW, flatA_append]; rfl
            have lW : (sqW ps i p q).length = ps.length + 1 := by rw [← dW]; simp
            have hEb : spE j e.toNat l.toNat i < 1024 := by rw [← sE]; exact seB j (Nat.le_refl _)
            have hLb : spL j l.toNat i < 1024 := by
              rw [← sL]; unfold slF
              split
              · exact Nat.or_lt_two_pow (n := 10) (by omega) (by omega)
              · omega
            have hmd := sp_made07_eq (j + 1) (spE j e.toNat l.toNat i : Nat) (spL j l.toNat i : Nat) (sqW ps i p q) .full ⟨⟨by omega, by omega⟩, by rw [lW]; simp only [maxLen]; omega⟩
            rw [lW] at hmd
            have hYes : spYes j e l ps i p q ↔ patOk ((j : Int) + 1) (spE j e.toNat l.toNat i : Nat) (spL j l.toNat i : Nat) (sqW ps i p q) = true := by
              unfold spYes
              rw [Int.toNat_natCast, Int.toNat_natCast]
              exact ⟨fun h => h.2.2.2, fun h => ⟨⟨c1, c2'⟩, c3, hg, h⟩⟩
            have hRm : R = madeV ((j : Int) + 1) (spE j e.toNat l.toNat i : Nat) (spL j l.toNat i : Nat) (sqW ps i p q) := by
              rw [hR]
              unfold madeV
              by_cases c5 : patOk ((j : Int) + 1) (spE j e.toNat l.toNat i : Nat) (spL j l.toNat i : Nat) (sqW ps i p q) = true
              · rw [if_pos c5, splS_yes (hYes.2 c5), Int.toNat_natCast, Int.toNat_natCast]
              · rw [if_neg c5, splS_no (fun h => c5 (hYes.1 h)), hc3]
            have hs : ∀ k : Nat, k < 4 → IntKind.u32.wrap (2 ^ min k IntKind.u32.bits) = 2 ^ k := by decide
            have hk4 := hs j (by omega)
            have hu : IntKind.u64.wrap (j : Int) = j := wrapU64 (by omega) (by omega)
            have hj0 : ¬ (j : Int) < 0 := by omega
            have ho := or32 (a := l.toNat) (b := 2 ^ j) (by omega) (by omega)
            have hcast : ((2 ^ j : Nat) : Int) = 2 ^ j := by simp
            rw [hcast, el] at ho
            simp at ho
            cases hb : loopB l i with
            | false =>
              have hsl : (spL j l.toNat i : Int) = l := by rw [← sL]; unfold slF; rw [el, hb, if_neg (by decide), el]
              rw [hb] at hjn
              rw [hsl] at hmd hRm
              rw [hRm]
              unfold madeV at hmd ⊢
              by_cases c5 : patOk ((j : Int) + 1) (spE j e.toNat l.toNat i : Nat) l (sqW ps i p q) = true
              · rw [if_pos c5] at hmd ⊢
                simp -dsimp -implicitDefEqProofs [hjn, hik, hiki, f3, hset, a2, a4, a6, eW, hmd, hsub]
              · rw [if_neg c5] at hmd ⊢
                simp -dsimp -implicitDefEqProofs [hjn, hik, hiki, f3, hset, a2, a4, a6, eW, hmd, noPat, hsub]
            | true =>
              have hsl : (spL j l.toNat i : Nat) = (l.toNat ||| 2 ^ j : Nat) := by rw [← sL]; unfold slF; rw [el, hb, if_pos rfl]
              rw [hb] at hjn
              rw [hsl] at hmd hRm
              rw [hRm]
              unfold madeV at hmd ⊢
              by_cases c5 : patOk ((j : Int) + 1) (spE j e.toNat l.toNat i : Nat) (l.toNat ||| 2 ^ j : Nat) (sqW ps i p q) = true
              · rw [if_pos c5] at hmd ⊢
                simp -dsimp -implicitDefEqProofs [hjn, hik, hiki, hk4, hu, hj0, ho, f3, hset, a2, a4, a6, eW, hmd, hsub]
              · rw [if_neg c5] at hmd ⊢
                simp -dsimp -implicitDefEqProofs [hjn, hik, hiki, hk4, hu, hj0, ho, f3, hset, a2, a4, a6, eW, hmd, noPat, hsub]
end Go.Proofs.YtgiakpeneckgfaaAi
end

section
/- The law of SplitPart. -/
namespace Go.Proofs.YtgiakpeneckgfaaAi
open Go Go.RowKit
set_option linter.unusedVariables false
set_option linter.unusedSimpArgs false
set_option maxRecDepth 20000

noncomputable def sp_splSV : List (Option (List AV)) → List AV → Option (AV × List (Option (List AV))) := pv (pf (ι := (Int) × (Int) × (Int) × (List Fr) × (Int) × (Int) × (Int) × (Cp)) (α := AV × List (Option (List AV))) (fun ⟨n, e, l, ps, part, p, q, t⟩ => u32R e l ∧ ps.length ≤ maxLen) (fun i => .agg (((fun ⟨n, e, l, ps, part, p, q, t⟩ => [some (flatA (frsA ps))] : (Int) × (Int) × (Int) × (List Fr) × (Int) × (Int) × (Int) × (Cp) → List (Option (List AV))) i).map enO) :: (fun ⟨n, e, l, ps, part, p, q, t⟩ => [.agg [.int .i64 n, .int .u32 e, .int .u32 l, .ref 0 2 0 ps.length t], .int .i64 part, .agg [.int .i64 p, .int .i64 q]] : (Int) × (Int) × (Int) × (List Fr) × (Int) × (Int) × (Int) × (Cp) → List AV) i) (fun ⟨n, e, l, ps, part, p, q, t⟩ => (splS n e l ps part p q, [none])))
theorem sp_splSV_eq (n e l : Int) (ps : List Fr) (part p q : Int) (t : Cp) (h : u32R e l ∧ ps.length ≤ maxLen) : sp_splSV [some (flatA (frsA ps))] [.agg [.int .i64 n, .int .u32 e, .int .u32 l, .ref 0 2 0 ps.length t], .int .i64 part, .agg [.int .i64 p, .int .i64 q]] = some (splS n e l ps part p q, [none]) := by
  unfold sp_splSV pv
  exact pf_eq (ι := (Int) × (Int) × (Int) × (List Fr) × (Int) × (Int) × (Int) × (Cp)) (α := AV × List (Option (List AV))) (n, e, l, ps, part, p, q, t) h (by rintro ⟨n', e', l', ps', part', p', q', t'⟩ _ e; simp_all [enO, Int.natCast_inj])
theorem v_spec_SplitPart : QV PP 5 sp_splSV := by
  refine QV_pf fun i h => ?_
  obtain ⟨n, e, l, ps, part, p, q, t⟩ := i
  replace h : u32R e l ∧ ps.length ≤ maxLen := h
  show T PP _ [.agg [.int .i64 n, .int .u32 e, .int .u32 l, .ref 0 2 0 ps.length t], .int .i64 part, .agg [.int .i64 p, .int .i64 q]] ⟨[some (flatA (frsA ps))]⟩ fun r A' => r = splS n e l ps part p q ∧ A' = ⟨[none]⟩
  have h0 := n_spec_SplitPart.toE _ ⟨[none]⟩ _ _ (show spN sp_splSP [.agg [.int .i64 n, .int .u32 e, .int .u32 l, .sl (frsA ps) false], .int .i64 part, .agg [.int .i64 p, .int .i64 q]] ⟨[none]⟩ = some (_, _) by unfold spN; rw [sp_splSP_eq n e l ps part p q h]; rfl)
  rw [ren_low _ _ (splS_lt n e l ps part p q 0)] at h0
  refine T.freeze (b := 0) (cs := flatA (frsA ps)) (args' := [.agg [.int .i64 n, .int .u32 e, .int .u32 l, .sl (frsA ps) false], .int .i64 part, .agg [.int .i64 p, .int .i64 q]]) rfl rfl (fun i x x' hx hx' => ?_) h0
  match i, hx, hx' with
  | 0, hx, hx' =>
    cases hx; cases hx'
    refine .inr (.inl ⟨_, _, rfl, rfl, rfl, fun i u u' e1 e2 => ?_⟩)
    match i, e1, e2 with
    | 0, e1, e2 => cases e1; cases e2; exact .inl rfl
    | 1, e1, e2 => cases e1; cases e2; exact .inl rfl
    | 2, e1, e2 => cases e1; cases e2; exact .inl rfl
    | 3, e1, e2 =>
      cases e1; cases e2
      exact .inr (.inr ⟨2, 0, ps.length, t, frsA ps, false, rfl, rfl, (fun h => by cases h), by simp, by simp, frsA_cells ps, .inl (by simp; exact (List.take_of_length_le (by simp)).symm)⟩)
    | k + 4, e1, e2 => cases e1
  | 1, hx, hx' => cases hx; cases hx'; exact Fz.refl _ _ _
  | 2, hx, hx' => cases hx; cases hx'; exact Fz.refl _ _ _
  | k + 3, hx, hx' => cases hx
set_option maxHeartbeats 2000000 in
theorem law_splitPart (xs : List AV) (h : WtA [tyPattern, .int .i64, tyFr] xs) : T PP 3 xs .nil fun r _ => r = .bool true := by
  simp only [WtA_cons, WtA_nil] at h
  obtain ⟨x, _, rfl, hx, y, _, rfl, hy, z, _, rfl, hz, rfl⟩ := h
  obtain ⟨n, e, l, ps, rfl, h⟩ := wt_pattern hx
  simp only [WtV_int] at hy
  obtain ⟨part, rfl, _⟩ := hy
  simp only [tyFr, WtV_st, WtL_int, WtL_nil] at hz
  obtain ⟨_, rfl, p, _, rfl, _, q, _, rfl, _, rfl⟩ := hz
  refine (P_code (r := .bool true) (Quiet.q1 q_laws_szPattern (Quiet.q1 q_laws_toFraction (Quiet.e1 v_spec_SplitPart.toE (Quiet.e1 n_laws_toPattern.toE (Quiet.e1 n_impl_SplitPart.toR (Quiet.e1 q_laws_eqPattern.toR (Quiet.e1 e_laws_markPattern (Quiet.e1 q_laws_heldPattern.toR Quiet.nil)))))))) hmix k_laws_FnExactSplitPart rfl rfl ?_).mono fun r A' h => h.1
  by_cases c : (ps.length : Int) ≤ 1048576
  · have c2 : ¬ ((1048576 : Int) - ps.length < 0) := by omega
    have hT := sp_toPatN_eq n e l ps (by omega)
    have hF := sp_toFraction_eq p q
    have hO := sp_splP_eq n e l ps part p q ⟨⟨h.1, h.2.1⟩, h.2.2⟩
    have hS := fun t => sp_splSV_eq n e l ps part p q t ⟨⟨h.1, h.2.1⟩, h.2.2⟩
    have hq := eqPat_refl n e l ps h.2.2
    have hm := fun t => sp_markPat_eq n e l ps 1 t ⟨k1_ok, by omega⟩
    have hneg : ¬ (1 + 2 * (ps.length : Int) < 0) := by omega
    have hz := sp_szPattern_eq n e l ps 1048576 ⟨by omega, by omega, h.2.2⟩
    by_cases hv : spYes n e l ps part p q
    · rw [splR_yes hv] at hO
      simp only [splS_yes hv] at hS
      have hlen : (sqW ps part p q).length ≤ 1048576 := by
        have h5 := hv.2.2.2
        simp only [patOk, graphOk, Bool.and_eq_true, decide_eq_true_eq] at h5
        omega
      generalize sqW ps part p q = W at hO hS hlen
      generalize ((spE n.toNat e.toNat l.toNat part.toNat : Nat) : Int) = E at hO hS
      generalize ((spL n.toNat l.toNat part.toNat : Nat) : Int) = L at hO hS
      generalize n + 1 = N at hO hS
      have hq2 := eqPat_refl N E L W (by simp only [maxLen]; omega)
      have hm2 := fun t => sp_markPat_eq N E L W 1 t ⟨k1_ok, by omega⟩
      have hneg2 : ¬ (1 + 2 * (W.length : Int) < 0) := by omega
      have hh := sp_heldPat_eq N E L W.length 1 ⟨k1_ok, by omega⟩
      simp -dsimp -implicitDefEqProofs [c_laws_FnExactSplitPart, r_laws_FnExactSplitPart, hz, c, c2, hT, hF, hO, hS, hq, hm, hneg, hneg2, hq2, hm2, hh]
    · rw [splR_no hv] at hO
      simp only [splS_no hv] at hS
      simp only [noPat] at hO hS
      simp -dsimp -implicitDefEqProofs [c_laws_FnExactSplitPart, r_laws_FnExactSplitPart, hz, c, c2, hT, hF, hO, hS, hq, hm, hneg, eqPat_nil, heldPat_nil, k1_ok]
  · simp -dsimp -implicitDefEqProofs [c_laws_FnExactSplitPart, r_laws_FnExactSplitPart, sp_szPattern_eq n e l ps 1048576 ⟨by omega, by omega, h.2.2⟩, c]
end Go.Proofs.YtgiakpeneckgfaaAi
end
