/- Contracts: the chance of a graph. -/
import Derived.Test.YtkgodhdpcomjbaaAdB25
import Derived.Test.YtkgodhdpcomjbaaAdB22
namespace Go.Proofs.YtkgodhdpcomjbaaAi
open Go Go.RowKit
set_option linter.unusedVariables false
set_option linter.unusedSimpArgs false
set_option maxRecDepth 20000

def prodG (ps : List Fr) : Fr → Bool → List Int → Fr × Bool
  | x, g, [] => (x, g)
  | x, g, i :: r => prodG ps (valO (mul2 x (wAt ps i))) (g || (mul2 x (wAt ps i)).isNone) r
theorem prodG_in {ps : List Fr} (h : allIn ps) : ∀ (L : List Int) (x : Fr) (g : Bool), frIn x.p x.q → frIn (prodG ps x g L).1.p (prodG ps x g L).1.q
  | [], x, g, hx => hx
  | i :: r, x, g, hx => prodG_in h r _ _ (mul2_in hx (wAt_in h i))
theorem prodG_true {ps : List Fr} : ∀ (L : List Int) (x : Fr), (prodG ps x true L).2 = true
  | [], x => rfl
  | i :: r, x => by rw [prodG, Bool.true_or]; exact prodG_true r _
theorem prodO_G {ps : List Fr} : ∀ (L : List Int) (x : Fr) (g : Bool), (∀ v, prodO ps x L = some v → prodG ps x g L = (v, g)) ∧ (prodO ps x L = none → (prodG ps x g L).2 = true)
  | [], x, g => by simp [prodO, prodG]
  | i :: r, x, g => by
    rw [prodO, prodG]
    cases hm : mul2 x (wAt ps i) with
    | none => simp [prodG_true]
    | some y => simpa [valO] using prodO_G r y g
def chG (ps : List Fr) : Fr → Bool → List (List Int) → Fr × Bool
  | a, g, [] => (a, g)
  | a, g, L :: r => chG ps (valO (add2 a (prodG ps ⟨1, 1⟩ g L).1)) ((prodG ps ⟨1, 1⟩ g L).2 || (add2 a (prodG ps ⟨1, 1⟩ g L).1).isNone) r
theorem chG_true {ps : List Fr} : ∀ (AL : List (List Int)) (a : Fr), (chG ps a true AL).2 = true
  | [], a => rfl
  | L :: r, a => by rw [chG, prodG_true, Bool.true_or]; exact chG_true r _
theorem chF_G {fit : List Int → Bool} {ps : List Fr} : ∀ (AL : List (List Int)) (a : Fr) (g : Bool), (∀ v, chF fit ps a AL = some v → chG ps a g (AL.filter fit) = (v, g)) ∧ (chF fit ps a AL = none → (chG ps a g (AL.filter fit)).2 = true)
  | [], a, g => by simp [chF, chG]
  | L :: r, a, g => by
    rw [chF, List.filter_cons]
    cases hf : fit L with
    | false => simpa using chF_G r a g
    | true =>
      simp only [if_true]
      rw [chG]
      obtain ⟨p1, p2⟩ := prodO_G (ps := ps) L ⟨1, 1⟩ g
      cases hp : prodO ps ⟨1, 1⟩ L with
      | none => simp [p2 hp, chG_true]
      | some w =>
        rw [p1 w hp]
        cases ha : add2 a w with
        | none => simp [ha, chG_true]
        | some s => simpa [ha, valO] using chF_G r s g

noncomputable def sp_chance1 : List (Option (List AV)) → List AV → Option (AV × List (Option (List AV))) := pv (pf (ι := (Nat) × (Int) × (Int) × (Int) × (Bool)) (α := AV × List (Option (List AV))) (fun ⟨m, he, i, j, b⟩ => (0 ≤ he ∧ he ≤ 4294967295) ∧ vx i j) (fun i => .agg (((fun ⟨m, he, i, j, b⟩ => [some [.int .i64 m, .int .u32 he]] : (Nat) × (Int) × (Int) × (Int) × (Bool) → List (Option (List AV))) i).map enO) :: (fun ⟨m, he, i, j, b⟩ => [.int .i64 i, .int .i64 j, .bool b, .ptr 0 0] : (Nat) × (Int) × (Int) × (Int) × (Bool) → List AV) i) (fun ⟨m, he, i, j, b⟩ => (.bool (b == hasB he i j), [some [.int .i64 m, .int .u32 he]])))
theorem sp_chance1_eq (m : Nat) (he : Int) (i j : Int) (b : Bool) (h : (0 ≤ he ∧ he ≤ 4294967295) ∧ vx i j) : sp_chance1 [some [.int .i64 m, .int .u32 he]] [.int .i64 i, .int .i64 j, .bool b, .ptr 0 0] = some (.bool (b == hasB he i j), [some [.int .i64 m, .int .u32 he]]) := by
  unfold sp_chance1 pv
  exact pf_eq (ι := (Nat) × (Int) × (Int) × (Int) × (Bool)) (α := AV × List (Option (List AV))) (m, he, i, j, b) h (by rintro ⟨m', he', i', j', b'⟩ _ e; simp_all [enO, Int.natCast_inj])
theorem v_impl_sums_chance_1 : QV PP 140 sp_chance1 := by
  refine QV_pf fun i h => ?_
  obtain ⟨m, he, i, j, b⟩ := i
  replace h : (0 ≤ he ∧ he ≤ 4294967295) ∧ vx i j := h
  refine H_code (Quiet.q1 q_impl_Graph_has Quiet.nil) hmix k_impl_sums_chance_1 rfl (fun b => b) (by simp [AHeap.n]) (fun _ _ => rfl) (by rfl) (by first | rfl | simp) ?_
  show wpc _ PP _ c_impl_sums_chance_1 (initSt [.int .i64 i, .int .i64 j, .bool b, .ptr 0 0] ⟨[some [.int .i64 m, .int .u32 he]]⟩) (endH (fun b => b) r_impl_sums_chance_1 (.bool (b == hasB he i j)) [some [.int .i64 m, .int .u32 he]])
  simp -dsimp -implicitDefEqProofs [c_impl_sums_chance_1, r_impl_sums_chance_1, sp_has_eq m he i j h, hsub]
noncomputable def sp_chance2 : List (Option (List AV)) → List AV → Option (AV × List (Option (List AV))) := pv (pf (ι := (Int) × (Int) × (Int) × (List Fr) × (List Int) × (Int) × (Int) × (Bool)) (α := AV × List (Option (List AV))) (fun ⟨n, e, l, ps, L, p, q, g⟩ => allIn ps ∧ (∀ x ∈ L, 0 ≤ x ∧ x < ps.length) ∧ L.length ≤ 5 ∧ frIn p q) (fun i => .agg (((fun ⟨n, e, l, ps, L, p, q, g⟩ => [some [.ptr 3 0], some [.ptr 4 0], some [.int .i64 p, .int .i64 q], some [.bool g], some [.int .i64 n, .int .u32 e, .int .u32 l, .sl (frsA ps) false]] : (Int) × (Int) × (Int) × (List Fr) × (List Int) × (Int) × (Int) × (Bool) → List (Option (List AV))) i).map enO) :: (fun ⟨n, e, l, ps, L, p, q, g⟩ => [.sl (insA L) false, .ptr 0 0, .ptr 1 0, .ptr 2 0] : (Int) × (Int) × (Int) × (List Fr) × (List Int) × (Int) × (Int) × (Bool) → List AV) i) (fun ⟨n, e, l, ps, L, p, q, g⟩ => (.bool false, [some [.ptr 3 0], some [.ptr 4 0], some [.int .i64 (valO (add2 ⟨p, q⟩ (prodG ps ⟨1, 1⟩ g L).1)).p, .int .i64 (valO (add2 ⟨p, q⟩ (prodG ps ⟨1, 1⟩ g L).1)).q], some [.bool ((prodG ps ⟨1, 1⟩ g L).2 || (add2 ⟨p, q⟩ (prodG ps ⟨1, 1⟩ g L).1).isNone)], some [.int .i64 n, .int .u32 e, .int .u32 l, .sl (frsA ps) false]])))
theorem sp_chance2_eq (n e l : Int) (ps : List Fr) (L : List Int) (p q : Int) (g : Bool) (h : allIn ps ∧ (∀ x ∈ L, 0 ≤ x ∧ x < ps.length) ∧ L.length ≤ 5 ∧ frIn p q) : sp_chance2 [some [.ptr 3 0], some [.ptr 4 0], some [.int .i64 p, .int .i64 q], some [.bool g], some [.int .i64 n, .int .u32 e, .int .u32 l, .sl (frsA ps) false]] [.sl (insA L) false, .ptr 0 0, .ptr 1 0, .ptr 2 0] = some (.bool false, [some [.ptr 3 0], some [.ptr 4 0], some [.int .i64 (valO (add2 ⟨p, q⟩ (prodG ps ⟨1, 1⟩ g L).1)).p, .int .i64 (valO (add2 ⟨p, q⟩ (prodG ps ⟨1, 1⟩ g L).1)).q], some [.bool ((prodG ps ⟨1, 1⟩ g L).2 || (add2 ⟨p, q⟩ (prodG ps ⟨1, 1⟩ g L).1).isNone)], some [.int .i64 n, .int .u32 e, .int .u32 l, .sl (frsA ps) false]]) := by
  unfold sp_chance2 pv
  exact pf_eq (ι := (Int) × (Int) × (Int) × (List Fr) × (List Int) × (Int) × (Int) × (Bool)) (α := AV × List (Option (List AV))) (n, e, l, ps, L, p, q, g) h (by rintro ⟨n', e', l', ps', L', p', q', g'⟩ _ e; simp_all [enO, Int.natCast_inj])
theorem v_impl_sums_chance_2 : QV PP 141 sp_chance2 := by
  refine QV_pf fun i h => ?_
  obtain ⟨n, e, l, ps, L, p, q, g⟩ := i
  replace h : allIn ps ∧ (∀ x ∈ L, 0 ≤ x ∧ x < ps.length) ∧ L.length ≤ 5 ∧ frIn p q := h
  refine H_code (Quiet.q1 q_impl_one (Quiet.e1 m_impl_sums_mul.toE (Quiet.e1 m_impl_sums_add.toE Quiet.nil))) hmix k_impl_sums_chance_2 rfl (fun b => b) (by simp [AHeap.n]) (fun _ _ => rfl) (by rfl) (by first | rfl | simp) ?_
  show wpc _ PP _ c_impl_sums_chance_2 (initSt [.sl (insA L) false, .ptr 0 0, .ptr 1 0, .ptr 2 0] ⟨[some [.ptr 3 0], some [.ptr 4 0], some [.int .i64 p, .int .i64 q], some [.bool g], some [.int .i64 n, .int .u32 e, .int .u32 l, .sl (frsA ps) false]]⟩) (endH (fun b => b) r_impl_sums_chance_2 (.bool false) [some [.ptr 3 0], some [.ptr 4 0], some [.int .i64 (valO (add2 ⟨p, q⟩ (prodG ps ⟨1, 1⟩ g L).1)).p, .int .i64 (valO (add2 ⟨p, q⟩ (prodG ps ⟨1, 1⟩ g L).1)).q], some [.bool ((prodG ps ⟨1, 1⟩ g L).2 || (add2 ⟨p, q⟩ (prodG ps ⟨1, 1⟩ g L).1).isNone)], some [.int .i64 n, .int .u32 e, .int .u32 l, .sl (frsA ps) false]])
  obtain ⟨hin, hL, hl5, ha⟩ := h
  simp -dsimp -implicitDefEqProofs [c_impl_sums_chance_2, r_impl_sums_chance_2]
  refine wpLoop_st (fun (c : Nat × Fr × Bool) => ⟨tl [(1, .ptr 0 0), (2, .ptr 1 0), (3, .ptr 2 0), (6, .ptr 5 0), (10, .sl (insA L) false), (11, .int .i64 L.length), (12, .int .i64 c.1)], ⟨[some [.ptr 3 0], some [.ptr 4 0], some [.int .i64 p, .int .i64 q], some [.bool c.2.2], some [.int .i64 n, .int .u32 e, .int .u32 l, .sl (frsA ps) false], some [.int .i64 c.2.1.p, .int .i64 c.2.1.q]]⟩⟩)
    (fun c => c.1 ≤ L.length ∧ frIn c.2.1.p c.2.1.q ∧ prodG ps c.2.1 c.2.2 (L.drop c.1) = prodG ps ⟨1, 1⟩ g L) (fun c => L.length - c.1) (0, ⟨1, 1⟩, g) ⟨by omega, one_in, by simp⟩ (Sub.keep (by simp) (by simp [hsub]) (by simp)) ?_
  rintro ⟨c, x, b⟩ ⟨c1, c2, c3⟩
  simp only at c1 c2 c3
  simp -dsimp -implicitDefEqProofs
  refine brW_of (fun h => ?_) (fun h => ?_) <;> simp only [decide_eq_true_eq, decide_eq_false_iff_not] at h
  · have hc : c < L.length := by omega
    have hwc := wrapNat (i := c) (by omega)
    have hx := hL _ (List.getElem_mem hc)
    obtain ⟨y, hy⟩ := Int.eq_ofNat_of_zero_le hx.1
    have hyp : y < ps.length := by omega
    have hw : wAt ps L[c] = ps[y] := by simp [wAt, hy, hyp]
    have hm1 := sp_mul_eq b x.p x.q ps[y].p ps[y].q ⟨c2, hin.get hyp⟩
    have hz := mul2_in (x := x) (y := ps[y]) c2 (hin.get hyp)
    rw [drop_cons hc, prodG, hw] at c3
    simp -dsimp -implicitDefEqProofs [hc, hy, hyp, hm1, hwc]
    exact .mk (c + 1, valO (mul2 x ps[y]), (b || (mul2 x ps[y]).isNone)) ⟨by simp only; omega, hz, c3⟩ (by simp only; omega) (Sub.keep (by simp) (by simp [hsub, mul2]) (by simp [hwc]))
  · have hc : c = L.length := by omega
    subst hc
    rw [drop_end (by omega), prodG] at c3
    have ha1 := sp_add_eq b p q x.p x.q ⟨ha, c2⟩
    rw [← c3]
    simp -dsimp -implicitDefEqProofs [ha1, hsub, add2]
def chV (n e l : Int) (ps : List Fr) (m : Nat) (he : Int) (g : Bool) : Fr × Bool := chG ps ⟨0, 1⟩ g ((allL n.toNat m).filter fun L => fitL true he e l L m)
theorem fitS_eq (E J : Bool) : fitS true E J = (J == E) := by cases E <;> cases J <;> rfl
theorem dfs_fit (he e l : Int) (k m : Nat) : dfsL (fitM (fun i j b => b == hasB he i j) e l) k m [] = (allL k m).filter fun L => fitL true he e l L m := by
  rw [dfsL_filter _ _ _ _ rfl]
  unfold allL
  apply List.filter_congr
  intro L hL
  have hl : L.length = m := allL_len hL
  rw [fits_pairs _ _ _ _ _ (Nat.le_refl _), hl, fitL]
  simp only [fitS_eq]
abbrev ChSt := { q : Fr × Bool // frIn q.1.p q.1.q }
def chEn (ps : List Fr) (h : allIn ps) (L : List Int) (s : ChSt) : Bool × ChSt := (false, ⟨(valO (add2 s.1.1 (prodG ps ⟨1, 1⟩ s.1.2 L).1), (prodG ps ⟨1, 1⟩ s.1.2 L).2 || (add2 s.1.1 (prodG ps ⟨1, 1⟩ s.1.2 L).1).isNone), add2_in s.2 (prodG_in h L _ _ one_in)⟩)
theorem goL_ch (ps : List Fr) (h : allIn ps) : ∀ (AL : List (List Int)) (s : ChSt), (goL (chEn ps h) AL s).1 = false ∧ (goL (chEn ps h) AL s).2.1 = chG ps s.1.1 s.1.2 AL
  | [], s => ⟨rfl, rfl⟩
  | L :: r, s => by
    rw [goL, chG]
    have : (chEn ps h L s).1 = false := rfl
    rw [this]
    simp only [Bool.false_eq_true, if_false]
    exact goL_ch ps h r _
noncomputable def sp_chanceI : List (Option (List AV)) → List AV → Option (AV × List (Option (List AV))) := pv (pf (ι := (Int) × (Int) × (Int) × (List Fr) × (Nat) × (Int) × (Bool)) (α := AV × List (Option (List AV))) (fun ⟨n, e, l, ps, m, he, g⟩ => ((0 ≤ e ∧ e ≤ 4294967295) ∧ (0 ≤ l ∧ l ≤ 4294967295)) ∧ (m ≤ 5 ∧ 0 ≤ he ∧ he ≤ 4294967295) ∧ (1 ≤ n ∧ n ≤ 4) ∧ (ps.length : Int) = n ∧ allIn ps) (fun i => .agg (((fun ⟨n, e, l, ps, m, he, g⟩ => [some [.bool g], some [.int .i64 n, .int .u32 e, .int .u32 l, .sl (frsA ps) false]] : (Int) × (Int) × (Int) × (List Fr) × (Nat) × (Int) × (Bool) → List (Option (List AV))) i).map enO) :: (fun ⟨n, e, l, ps, m, he, g⟩ => [.ptr 0 0, .ptr 1 0, .agg [.int .i64 m, .int .u32 he]] : (Int) × (Int) × (Int) × (List Fr) × (Nat) × (Int) × (Bool) → List AV) i) (fun ⟨n, e, l, ps, m, he, g⟩ => (frA (chV n e l ps m he g).1, [some [.bool (chV n e l ps m he g).2], some [.int .i64 n, .int .u32 e, .int .u32 l, .sl (frsA ps) false]])))
theorem sp_chanceI_eq (n e l : Int) (ps : List Fr) (m : Nat) (he : Int) (g : Bool) (h : ((0 ≤ e ∧ e ≤ 4294967295) ∧ (0 ≤ l ∧ l ≤ 4294967295)) ∧ (m ≤ 5 ∧ 0 ≤ he ∧ he ≤ 4294967295) ∧ (1 ≤ n ∧ n ≤ 4) ∧ (ps.length : Int) = n ∧ allIn ps) : sp_chanceI [some [.bool g], some [.int .i64 n, .int .u32 e, .int .u32 l, .sl (frsA ps) false]] [.ptr 0 0, .ptr 1 0, .agg [.int .i64 m, .int .u32 he]] = some (frA (chV n e l ps m he g).1, [some [.bool (chV n e l ps m he g).2], some [.int .i64 n, .int .u32 e, .int .u32 l, .sl (frsA ps) false]]) := by
  unfold sp_chanceI pv
  exact pf_eq (ι := (Int) × (Int) × (Int) × (List Fr) × (Nat) × (Int) × (Bool)) (α := AV × List (Option (List AV))) (n, e, l, ps, m, he, g) h (by rintro ⟨n', e', l', ps', m', he', g'⟩ _ e; simp_all [enO, Int.natCast_inj])
theorem v_impl_sums_chance : QV PP 72 sp_chanceI := by
  refine QV_pf fun i h => ?_
  obtain ⟨n, e, l, ps, m, he, g⟩ := i
  replace h : ((0 ≤ e ∧ e ≤ 4294967295) ∧ (0 ≤ l ∧ l ≤ 4294967295)) ∧ (m ≤ 5 ∧ 0 ≤ he ∧ he ≤ 4294967295) ∧ (1 ≤ n ∧ n ≤ 4) ∧ (ps.length : Int) = n ∧ allIn ps := h
  refine H_code (Quiet.q1 q_impl_zero Quiet.nil) hmix k_impl_sums_chance rfl (fun b => b) (by simp [AHeap.n]) (fun _ _ => rfl) (by rfl) (by first | rfl | simp) ?_
  show wpc _ PP _ c_impl_sums_chance (initSt [.ptr 0 0, .ptr 1 0, .agg [.int .i64 m, .int .u32 he]] ⟨[some [.bool g], some [.int .i64 n, .int .u32 e, .int .u32 l, .sl (frsA ps) false]]⟩) (endH (fun b => b) r_impl_sums_chance (frA (chV n e l ps m he g).1) [some [.bool (chV n e l ps m he g).2], some [.int .i64 n, .int .u32 e, .int .u32 l, .sl (frsA ps) false]])
  obtain ⟨hel, ⟨hm, hhe⟩, hn, hps, hin⟩ := h
  let H : ChSt → List (Option (List AV)) := fun s => [some [.bool s.1.2], some [.int .i64 n, .int .u32 e, .int .u32 l, .sl (frsA ps) false], some [.ptr 0 0], some [.ptr 1 0], some [.int .i64 m, .int .u32 he], some [.int .i64 0, .int .i64 0], some [.int .i64 s.1.1.p, .int .i64 s.1.1.q]]
  have hmaps := T_maps (ι := ChSt) (H := H) (N := 7) (pb := 1) (n := n) (e := e) (l := l) (ps := ps) (g1 := 140) (g2 := 141) (caps1 := [.ptr 4 0]) (caps2 := [.ptr 2 0, .ptr 3 0, .ptr 6 0]) (fitB := fun i j b => b == hasB he i j) (en := chEn ps hin) (fun s => rfl) (by omega)
    (fun s b hb => by
      have h7 : b = 0 ∨ b = 1 ∨ b = 2 ∨ b = 3 ∨ b = 4 ∨ b = 5 ∨ b = 6 := by omega
      rcases h7 with rfl | rfl | rfl | rfl | rfl | rfl | rfl <;> rfl)
    (fun s b cs hb => by
      have hb7 := hget_lt hb
      have h7 : b = 0 ∨ b = 1 ∨ b = 2 ∨ b = 3 ∨ b = 4 ∨ b = 5 ∨ b = 6 := by
        have : (H s).length = 7 := rfl
        omega
      rcases h7 with rfl | rfl | rfl | rfl | rfl | rfl | rfl <;> simp [H, hget] at hb <;> subst hb <;> simp [H])
    (fun s => rfl) (by simp) (by simp) hm hn hel
    (fun s i j b hij hj => by
      refine v_impl_sums_chance_1.toE _ _ _ _ ?_
      have := sp_chance1_eq m he i j b ⟨hhe, by unfold vx; omega⟩
      simp [H, this])
    (fun s k hk hr => by
      refine v_impl_sums_chance_2.toE _ _ _ _ ?_
      have := sp_chance2_eq n e l ps k s.1.1.p s.1.1.q s.1.2 ⟨hin, fun x hx => by have := hr x hx; omega, by omega, s.2⟩
      simp [H, this, chEn]) m [] ⟨(⟨0, 1⟩, g), zero_in⟩ (by simp) (by simp)
  simp -dsimp -implicitDefEqProofs [c_impl_sums_chance, r_impl_sums_chance]
  rw [dfs_fit] at hmaps
  obtain ⟨_, hG⟩ := goL_ch ps hin ((allL n.toNat m).filter fun L => fitL true he e l L m) ⟨(⟨0, 1⟩, g), zero_in⟩
  have hG : (goL (chEn ps hin) ((allL n.toNat m).filter fun L => fitL true he e l L m) ⟨(⟨0, 1⟩, g), zero_in⟩).2.1 = chV n e l ps m he g := hG
  generalize goL (chEn ps hin) ((allL n.toNat m).filter fun L => fitL true he e l L m) ⟨(⟨0, 1⟩, g), zero_in⟩ = G at hmaps hG
  rw [← hG]
  refine T.loose (T.mono hmaps ?_)
  rintro r A' ⟨rfl, rfl⟩
  simp only [H]
  simp -dsimp -implicitDefEqProofs [hsub]

def noFr (c : Int) : AV := .tup [.agg [.int .i64 0, .int .i64 0], .int .i64 c]
def chanceR (n e l : Int) (ps : List Fr) (hn he : Int) : AV := if patOk n e l ps = true ∧ graphOk hn he = true then frO (chanceO n e l ps hn.toNat he) else noFr 1
@[simp] theorem chanceR_lt (n e l : Int) (ps : List Fr) (hn he : Int) (k : Nat) : (chanceR n e l ps hn he).lt k = true := by unfold chanceR; split; exact frO_lt _ _; rfl
noncomputable def sp_chanceP : List AV → Option (AV) := pf (ι := (Int) × (Int) × (Int) × (List Fr) × (Int) × (Int)) (α := AV) (fun ⟨n, e, l, ps, hn, he⟩ => ((0 ≤ e ∧ e ≤ 4294967295) ∧ (0 ≤ l ∧ l ≤ 4294967295) ∧ ps.length ≤ maxLen) ∧ (0 ≤ he ∧ he ≤ 4294967295)) (fun ⟨n, e, l, ps, hn, he⟩ => [.agg [.int .i64 n, .int .u32 e, .int .u32 l, .sl (frsA ps) false], .agg [.int .i64 hn, .int .u32 he]]) (fun ⟨n, e, l, ps, hn, he⟩ => chanceR n e l ps hn he)
theorem sp_chanceP_eq (n e l : Int) (ps : List Fr) (hn he : Int) (h : ((0 ≤ e ∧ e ≤ 4294967295) ∧ (0 ≤ l ∧ l ≤ 4294967295) ∧ ps.length ≤ maxLen) ∧ (0 ≤ he ∧ he ≤ 4294967295)) : sp_chanceP [.agg [.int .i64 n, .int .u32 e, .int .u32 l, .sl (frsA ps) false], .agg [.int .i64 hn, .int .u32 he]] = some (chanceR n e l ps hn he) := by
  unfold sp_chanceP
  exact pf_eq (ι := (Int) × (Int) × (Int) × (List Fr) × (Int) × (Int)) (α := AV) (n, e, l, ps, hn, he) h (by rintro ⟨n', e', l', ps', hn', he'⟩ _ e; simp_all [Int.natCast_inj])
theorem told_ch (n e l : Int) (ps : List Fr) (m : Nat) (he : Int) : toldA (chV n e l ps m he false).2 (chV n e l ps m he false).1.p (chV n e l ps m he false).1.q = frO (chanceO n e l ps m he) := by
  obtain ⟨h1, h2⟩ := chF_G (fit := fun L => fitL true he e l L m) (ps := ps) (allL n.toNat m) ⟨0, 1⟩ false
  unfold chV chanceO
  cases hc : chF (fun L => fitL true he e l L m) ps ⟨0, 1⟩ (allL n.toNat m) with
  | none => rw [toldA, h2 hc]; rfl
  | some v => rw [h1 v hc]; rfl
theorem q_spec_ChanceIn : QP PP 21 sp_chanceP := by
  refine QP_pf (fun i h => ?_) fun i h => ?_
  · obtain ⟨n, e, l, ps, hn, he⟩ := i; exact ⟨by first | rfl | simp, by first | rfl | simp⟩
  obtain ⟨n, e, l, ps, hn, he⟩ := i
  replace h : ((0 ≤ e ∧ e ≤ 4294967295) ∧ (0 ≤ l ∧ l ≤ 4294967295) ∧ ps.length ≤ maxLen) ∧ (0 ≤ he ∧ he ≤ 4294967295) := h
  refine P_code (Quiet.q1 q_spec_l01Ok (Quiet.e1 m_spec_l07Ok.toE (Quiet.e1 v_spec_l07Chance.toE Quiet.nil))) hmix k_spec_ChanceIn rfl ?_ ?_
  · first | rfl | simp
  show wpc 0 PP _ c_spec_ChanceIn (initSt [.agg [.int .i64 n, .int .u32 e, .int .u32 l, .sl (frsA ps) false], .agg [.int .i64 hn, .int .u32 he]] .nil) (endP r_spec_ChanceIn (chanceR n e l ps hn he))
  obtain ⟨hp, hhe⟩ := h
  unfold chanceR
  have h1 := sp_l07Ok_eq n e l ps hp
  have h2 := sp_graphOk_eq hn he hhe
  cases hpo : patOk n e l ps with
  | false => simp -dsimp -implicitDefEqProofs [c_spec_ChanceIn, r_spec_ChanceIn, h1, h2, hpo, noFr]
  | true =>
    cases hg : graphOk hn he with
    | false => simp -dsimp -implicitDefEqProofs [c_spec_ChanceIn, r_spec_ChanceIn, h1, h2, hpo, hg, noFr]
    | true =>
      obtain ⟨_, hn4, _, hlen, hall⟩ := patOk_spec hpo
      obtain ⟨⟨m0, m5⟩, _⟩ := graphOk_lt hg hhe.1
      obtain ⟨m, rfl⟩ := Int.eq_ofNat_of_zero_le m0
      have h3 := sp_chanceS_eq n e l ps m he ⟨⟨hp.1, hp.2.1⟩, ⟨by omega, hhe⟩, hn4, hlen, allOk_in hall⟩
      cases hc : chanceO n e l ps m he with
      | none => rw [hc] at h3; simp -dsimp -implicitDefEqProofs [c_spec_ChanceIn, r_spec_ChanceIn, h1, h2, hpo, hg, h3, hc, frO]
      | some v => rw [hc] at h3; simp -dsimp -implicitDefEqProofs [c_spec_ChanceIn, r_spec_ChanceIn, h1, h2, hpo, hg, h3, hc, frO]
theorem q_impl_ChanceIn : QP PP 23 sp_chanceP := by
  refine QP_pf (fun i h => ?_) fun i h => ?_
  · obtain ⟨n, e, l, ps, hn, he⟩ := i; exact ⟨by first | rfl | simp, by first | rfl | simp⟩
  obtain ⟨n, e, l, ps, hn, he⟩ := i
  replace h : ((0 ≤ e ∧ e ≤ 4294967295) ∧ (0 ≤ l ∧ l ≤ 4294967295) ∧ ps.length ≤ maxLen) ∧ (0 ≤ he ∧ he ≤ 4294967295) := h
  refine P_code (Quiet.q1 q_impl_ValidPattern (Quiet.q1 q_impl_badGraph (Quiet.e1 v_impl_sums_chance.toE (Quiet.e1 m_impl_sums_told.toE Quiet.nil)))) hmix k_impl_ChanceIn rfl ?_ ?_
  · first | rfl | simp
  show wpc 0 PP _ c_impl_ChanceIn (initSt [.agg [.int .i64 n, .int .u32 e, .int .u32 l, .sl (frsA ps) false], .agg [.int .i64 hn, .int .u32 he]] .nil) (endP r_impl_ChanceIn (chanceR n e l ps hn he))
  obtain ⟨hp, hhe⟩ := h
  unfold chanceR
  have h1 := sp_patOk_eq n e l ps hp
  have h2 := sp_badGraph_eq hn he hhe
  cases hpo : patOk n e l ps with
  | false => simp -dsimp -implicitDefEqProofs [c_impl_ChanceIn, r_impl_ChanceIn, h1, h2, hpo, noFr]
  | true =>
    cases hg : graphOk hn he with
    | false => simp -dsimp -implicitDefEqProofs [c_impl_ChanceIn, r_impl_ChanceIn, h1, h2, hpo, hg, noFr]
    | true =>
      obtain ⟨_, hn4, _, hlen, hall⟩ := patOk_spec hpo
      obtain ⟨⟨m0, m5⟩, _⟩ := graphOk_lt hg hhe.1
      obtain ⟨m, rfl⟩ := Int.eq_ofNat_of_zero_le m0
      have h3 := sp_chanceI_eq n e l ps m he false ⟨⟨hp.1, hp.2.1⟩, ⟨by omega, hhe⟩, hn4, hlen, allOk_in hall⟩
      have h4 := told_ch n e l ps m he
      rw [Int.toNat_natCast, ← h4]
      cases hc : (chV n e l ps m he false).2 <;> rw [hc] at h3 <;> simp -dsimp -implicitDefEqProofs [c_impl_ChanceIn, r_impl_ChanceIn, h1, h2, hpo, hg, h3, hc, toldA]

set_option maxHeartbeats 2000000 in
theorem law_chanceIn (xs : List AV) (h : WtA [tyPattern, tyGraph] xs) : T PP 4 xs .nil fun r _ => r = .bool true := by
  simp only [WtA_cons, WtA_nil] at h
  obtain ⟨x, _, rfl, hx, y, _, rfl, hy, rfl⟩ := h
  obtain ⟨n, e, l, ps, rfl, h⟩ := wt_pattern hx
  simp only [tyGraph, WtV_st, WtL_int, WtL_nil] at hy
  obtain ⟨_, rfl, hn, _, rfl, _, he, _, rfl, hhe, rfl⟩ := hy
  have hhe : 0 ≤ he ∧ he ≤ 4294967295 := ⟨by simpa [IntKind.min, IntKind.signed] using hhe.1, by simpa [IntKind.max, IntKind.signed, IntKind.bits] using hhe.2⟩
  refine (P_code (r := .bool true) (Quiet.q1 q_laws_szPattern (Quiet.q1 q_laws_toGraph (Quiet.q1 q_laws_eqFraction (Quiet.e1 q_spec_ChanceIn.toR (Quiet.e1 n_laws_toPattern.toE (Quiet.e1 q_impl_ChanceIn.toR (Quiet.e1 q_laws_eqPattern.toR Quiet.nil))))))) hmix k_laws_FnExactChanceIn rfl rfl ?_).mono fun r A' h => h.1
  by_cases c : (ps.length : Int) ≤ 1048576
  · have c2 : ¬ ((1048576 : Int) - ps.length < 0) := by omega
    have hT := sp_toPatN_eq n e l ps (by omega)
    have hq := eqPat_refl n e l ps h.2.2
    have hB := sp_chanceP_eq n e l ps hn he ⟨⟨h.1, h.2.1, h.2.2⟩, hhe⟩
    have hR : ∃ p q c, chanceR n e l ps hn he = .tup [.agg [.int .i64 p, .int .i64 q], .int .i64 c] := by
      unfold chanceR noFr
      split
      · cases chanceO n e l ps hn.toNat he with
        | none => exact ⟨_, _, _, rfl⟩
        | some v => exact ⟨_, _, _, rfl⟩
      · exact ⟨_, _, _, rfl⟩
    obtain ⟨p, q, cd, hR⟩ := hR
    rw [hR] at hB
    simp -dsimp -implicitDefEqProofs [c_laws_FnExactChanceIn, r_laws_FnExactChanceIn, sp_szPattern_eq n e l ps 1048576 ⟨by omega, by omega, h.2.2⟩, c, c2, hT, hq, hB]
  · simp -dsimp -implicitDefEqProofs [c_laws_FnExactChanceIn, r_laws_FnExactChanceIn, sp_szPattern_eq n e l ps 1048576 ⟨by omega, by omega, h.2.2⟩, c]
end Go.Proofs.YtkgodhdpcomjbaaAi
