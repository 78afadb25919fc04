/- Contracts, joined. -/
import Derived.Test.YtkgodhdpcomjbaaMds3
import Derived.Test.YtkgodhdpcomjbaaAiX
import Derived.Test.YtkgodhdpcomjbaaProg
section
/- Contracts: all lists of different numbers, in order; orders of vertices. -/
namespace Go.Proofs.YtkgodhdpcomjbaaAi
open Go Go.RowKit
set_option linter.unusedVariables false
set_option linter.unusedSimpArgs false
set_option maxRecDepth 20000

noncomputable def sp_indexI : List AV → Option (AV) := pf (ι := (List Int) × (Int)) (α := AV) (fun ⟨k, v⟩ => k.length ≤ 1048576) (fun ⟨k, v⟩ => [.sl (insA k) false, .int .i64 v]) (fun ⟨k, v⟩ => .int .i64 (idxF (fun x => v == x) k 0))
theorem sp_indexI_eq (k : List Int) (v : Int) (h : k.length ≤ 1048576) : sp_indexI [.sl (insA k) false, .int .i64 v] = some (.int .i64 (idxF (fun x => v == x) k 0)) := by
  unfold sp_indexI
  exact pf_eq (ι := (List Int) × (Int)) (α := AV) (k, v) h (by rintro ⟨k', v'⟩ _ e; simp_all [Int.natCast_inj])
theorem q_slices_Index_Sint64_int64 : QP PP 190 sp_indexI := by
  refine QP_pf (fun i h => ?_) fun i h => ?_
  · obtain ⟨k, v⟩ := i; exact ⟨by first | rfl | simp, by first | rfl | simp⟩
  obtain ⟨k, v⟩ := i
  replace h : k.length ≤ 1048576 := h
  refine P_code Quiet.nil hmix k_slices_Index_Sint64_int64 rfl ?_ ?_
  · first | rfl | simp
  show wpc 0 PP _ c_slices_Index_Sint64_int64 (initSt [.sl (insA k) false, .int .i64 v] .nil) (endP r_slices_Index_Sint64_int64 (.int .i64 (idxF (fun x => v == x) k 0)))
  simp -dsimp -implicitDefEqProofs [c_slices_Index_Sint64_int64, r_slices_Index_Sint64_int64]
  refine wpLoop_st (fun (i : Nat) => ⟨tl [(0, .sl (insA k) false), (1, .int .i64 v), (7, .int .i64 k.length), (8, .int .i64 i)], ⟨[]⟩⟩) (fun i => i ≤ k.length ∧ idxF (fun x => v == x) (k.drop i) i = idxF (fun x => v == x) k 0) (fun i => k.length - i) 0 ⟨by omega, rfl⟩ (Sub.keep (by simp) (by simp [hsub]) (by simp)) ?_
  rintro i ⟨hi, hx⟩
  simp -dsimp -implicitDefEqProofs
  refine brW_of (fun h => ?_) (fun h => ?_) <;> simp only [decide_eq_true_eq, decide_eq_false_iff_not] at h
  · have hi' : i < k.length := by omega
    have hw := wrapNat (i := i) (by omega)
    rw [drop_cons hi', idxF] at hx
    by_cases hv : v = k[i]
    · have hv' : (v == k[i]) = true := by simp [hv]
      rw [hv', if_pos rfl] at hx
      simp -dsimp -implicitDefEqProofs [hi', hw, hv', ← hx]
    · have hv' : (v == k[i]) = false := by simp [hv]
      rw [hv'] at hx
      simp only [Bool.false_eq_true, if_false] at hx
      simp -dsimp -implicitDefEqProofs [hi', hw, hv']
      exact .mk (i + 1) ⟨by omega, hx⟩ (by omega) (Sub.keep (by simp) (by simp [hsub]) (by simp [hw]))
  · have : i = k.length := by omega
    subst this
    simp [idxF] at hx
    simp -dsimp -implicitDefEqProofs [← hx]
def inL (k : List Int) (v : Int) : Bool := k.any fun x => v == x
noncomputable def sp_containsI : List AV → Option (AV) := pf (ι := (List Int) × (Int)) (α := AV) (fun ⟨k, v⟩ => k.length ≤ 1048576) (fun ⟨k, v⟩ => [.sl (insA k) false, .int .i64 v]) (fun ⟨k, v⟩ => .bool (inL k v))
theorem sp_containsI_eq (k : List Int) (v : Int) (h : k.length ≤ 1048576) : sp_containsI [.sl (insA k) false, .int .i64 v] = some (.bool (inL k v)) := by
  unfold sp_containsI
  exact pf_eq (ι := (List Int) × (Int)) (α := AV) (k, v) h (by rintro ⟨k', v'⟩ _ e; simp_all [Int.natCast_inj])
theorem q_slices_Contains_Sint64_int64 : QP PP 189 sp_containsI := by
  refine QP_pf (fun i h => ?_) fun i h => ?_
  · obtain ⟨k, v⟩ := i; exact ⟨by first | rfl | simp, by first | rfl | simp⟩
  obtain ⟨k, v⟩ := i
  replace h : k.length ≤ 1048576 := h
  refine P_code (Quiet.q1 q_slices_Index_Sint64_int64 Quiet.nil) hmix k_slices_Contains_Sint64_int64 rfl ?_ ?_
  · first | rfl | simp
  show wpc 0 PP _ c_slices_Contains_Sint64_int64 (initSt [.sl (insA k) false, .int .i64 v] .nil) (endP r_slices_Contains_Sint64_int64 (.bool (inL k v)))
  have h1 := sp_indexI_eq k v h
  have h2 := idxF_ge (fun x => v == x) k 0
  have h3 : (k.any fun x => v == x) = inL k v := rfl
  rw [h3] at h2
  simp -dsimp -implicitDefEqProofs [c_slices_Contains_Sint64_int64, r_slices_Contains_Sint64_int64, h1, h2]

def newM (now : List Int) (x : Int) : Bool := !inL now x
theorem nodup_snoc {now : List Int} {x : Int} (h : now.Nodup) (hx : inL now x = false) : (now ++ [x]).Nodup := by
  rw [List.nodup_append]
  refine ⟨h, by simp, fun a ha b hb e => ?_⟩
  rw [List.mem_singleton] at hb
  subst hb; subst e
  unfold inL at hx
  rw [List.any_eq_false] at hx
  exact hx a ha (by simp)
theorem T_listed {ι : Type} {H : ι → List (Option (List AV))} {N : Nat} {g2 : FuncId} {caps2 : List AV} {en : List Int → ι → Bool × ι}
    (hN : ∀ s, (H s).length = N) (hall : ∀ s b, b < N → (hget (H s) b).isSome = true) (ho : ∀ s, ClosedH (H s))
    (hc2 : ltL N caps2 = true) {m k : Nat} (hm : m ≤ 5) (hk : k ≤ 5)
    (hen : ∀ s (K : List Int), K.length = m → (∀ x ∈ K, 0 ≤ x ∧ x < (k : Int)) → K.Nodup → T PP g2 ([.sl (insA K) false] ++ caps2) ⟨H s⟩ fun r A' => r = .bool (en K s).1 ∧ A' = ⟨H (en K s).2⟩) :
    ∀ (d : Nat) (now : List Int) (s : ι), now.length + d = m → (∀ x ∈ now, 0 ≤ x ∧ x < (k : Int)) → now.Nodup →
      T PP 185 [.int .i64 k, .int .i64 m, .sl (insA now) false, .fn g2 caps2] ⟨H s⟩ fun r A' => r = .bool (goL en (dfsL newM k d now) s).1 ∧ A' = ⟨H (goL en (dfsL newM k d now) s).2⟩ := by
  intro d
  induction d with
  | zero =>
    intro now s hd hr hnd
    refine H_code (Quiet.q1 q_slices_Clip_Sint64_int64 (Quiet.q1 q_slices_Contains_Sint64_int64 Quiet.nil)) hmix k_impl_listed rfl (fun b => b) (by simp [AHeap.n, hN]) (fun _ _ => rfl) (injB_id _) (by rfl) ?_
    show wpc (H s).length PP _ c_impl_listed (initSt [.int .i64 k, .int .i64 m, .sl (insA now) false, .fn g2 caps2] ⟨H s⟩) _
    have hb : ((now.length : Int) == (m : Int)) = true := by simp; omega
    simp -dsimp -implicitDefEqProofs [c_impl_listed, r_impl_listed, hb]
    refine (hen s now (by omega) hr hnd).mono ?_
    rintro r A' ⟨rfl, rfl⟩
    simp -dsimp -implicitDefEqProofs [dfsL, goL_one, hsub_all (ho _)]
  | succ d ih =>
    intro now s hd hr hnd
    refine H_code (Quiet.q1 q_slices_Clip_Sint64_int64 (Quiet.q1 q_slices_Contains_Sint64_int64 Quiet.nil)) hmix k_impl_listed rfl (fun b => b) (by simp [AHeap.n, hN]) (fun _ _ => rfl) (injB_id _) (by rfl) ?_
    show wpc (H s).length PP _ c_impl_listed (initSt [.int .i64 k, .int .i64 m, .sl (insA now) false, .fn g2 caps2] ⟨H s⟩) _
    rw [hN s]
    have hb : ((now.length : Int) == (m : Int)) = false := by simp; omega
    simp -dsimp -implicitDefEqProofs [c_impl_listed, r_impl_listed, hb]
    refine wpLoop_st (fun (q : ι × Nat) => ⟨tl [(0, .int .i64 k), (1, .int .i64 m), (2, .sl (insA now) false), (3, .fn g2 caps2), (17, .int .i64 k), (18, .int .i64 q.2)], ⟨H q.1⟩⟩) (fun q => q.2 ≤ k ∧ goL en (restL newM k d now q.2) q.1 = goL en (dfsL newM k (d + 1) now) s) (fun q => k - q.2) (s, 0) ⟨Nat.zero_le _, by rw [restL_zero]⟩ (Sub.preN (hN _) (ho _) (by simp [hc2])) ?_
    rintro ⟨s1, x⟩ ⟨hx, hg⟩
    simp only at hx hg
    simp -dsimp -implicitDefEqProofs
    refine brW_of (fun h => ?_) (fun h => ?_) <;> simp only [decide_eq_true_eq, decide_eq_false_iff_not] at h
    · have hx' : x < k := by omega
      have hwx := wrapNat (i := x) (by omega)
      have hct := sp_containsI_eq now x (by omega)
      rw [restL_step _ _ _ _ _ hx'] at hg
      cases hv : inL now x with
      | true =>
        have hv' : newM now x = false := by unfold newM; rw [hv]; rfl
        rw [hv] at hct
        rw [hv'] at hg
        simp only [Bool.false_eq_true, if_false, List.nil_append] at hg
        simp -dsimp -implicitDefEqProofs [hwx, hct]
        exact .mk (s1, x + 1) ⟨by simp only; omega, hg⟩ (by simp only; omega) (Sub.preN (hN _) (ho _) (by simp [hc2, hwx]))
      | false =>
        have hv' : newM now x = true := by unfold newM; rw [hv]; rfl
        rw [hv] at hct
        rw [hv', if_pos rfl, goL_append] at hg
        have hmb : (now.length + 1) * 9 ≤ mostBytes := by simp only [mostBytes]; omega
        have hcat : flatA (insA now) ++ [.int .i64 (x : Int)] = flatA (insA (now ++ [(x : Int)])) := by rw [flatA_append, flatA_one]; rfl
        simp -dsimp -implicitDefEqProofs [hwx, hct, hmb, hcat, hN]
        have hrec := ih (now ++ [(x : Int)]) s1 (by simp; omega) (fun y hy => by
          rw [List.mem_append, List.mem_singleton] at hy
          rcases hy with hy | rfl
          · exact hr y hy
          · omega) (nodup_snoc hnd hv)
        have hT := T_ref (c0 := [.int .i64 (x : Int)]) (t := .full) (a1 := [.int .i64 k, .int .i64 m]) (a2 := [.fn g2 caps2]) hrec (ho s1) (by rw [hN, hN]) (ho _) (fun b hb => hall _ b (by rw [← hN s1]; exact hb)) (by simp [hN]) (by simp [hN, hc2]) rfl
        simp only [hN, List.length_append, List.length_cons, List.length_nil, Nat.zero_add, List.cons_append, List.nil_append] at hT
        refine hT.mono ?_
        rintro r A' ⟨rfl, rfl⟩
        cases hgo : (goL en (dfsL newM k d (now ++ [(x : Int)])) s1).1 with
        | true =>
          rw [hgo, if_pos rfl] at hg
          have hg1 := congrArg Prod.fst hg
          have hg2 := congrArg Prod.snd hg
          simp only [hgo] at hg1
          simp -dsimp -implicitDefEqProofs [hgo, ← hg2, ← hg1, hsub_all (ho _)]
          exact hsub_pre (ho _) (Nat.le_refl _)
        | false =>
          rw [hgo] at hg
          simp only [Bool.false_eq_true, if_false] at hg
          simp -dsimp -implicitDefEqProofs [hgo, hwx]
          exact .mk (_, x + 1) ⟨by simp only; omega, hg⟩ (by simp only; omega) (Sub.preR (hN _) (ho _) (by simp [hc2, hwx]))
    · have : x = k := by omega
      subst this
      rw [restL_end] at hg
      simp -dsimp -implicitDefEqProofs [← hg, goL, hsub_all (ho _)]
end Go.Proofs.YtkgodhdpcomjbaaAi
end

section
/- Contracts: graphs on lists of vertices; orders; how many orders make a graph itself. -/
namespace Go.Proofs.YtkgodhdpcomjbaaAi
open Go Go.RowKit
set_option linter.unusedVariables false
set_option linter.unusedSimpArgs false
set_option maxRecDepth 20000

/-- A list of different vertices. -/
def distL (L : List Int) : Prop := L.Nodup ∧ L.length ≤ 5 ∧ allPart L
theorem distL.ne {L : List Int} (h : distL L) {i j : Nat} (hi : i < L.length) (hj : j < L.length) (hij : i ≠ j) : atI L i ≠ atI L j := by
  rw [← atI_get hi, ← atI_get hj]
  intro e
  exact hij ((List.getElem_inj h.1).1 e)
def onE (e : Int) (L : List Int) : Nat := madeE (fun i j => hasB e (atI L i) (atI L j)) L.length
noncomputable def sp_on1 : List (Option (List AV)) → List AV → Option (AV × List (Option (List AV))) := pv (pf (ι := (Int) × (Int) × (List Int) × (Int) × (Int)) (α := AV × List (Option (List AV))) (fun ⟨n, e, L, i, j⟩ => (0 ≤ e ∧ e ≤ 4294967295) ∧ distL L ∧ (0 ≤ i ∧ i < L.length) ∧ (0 ≤ j ∧ j < L.length) ∧ i ≠ j) (fun i => .agg (((fun ⟨n, e, L, i, j⟩ => [some [.int .i64 n, .int .u32 e], some [.sl (insA L) false]] : (Int) × (Int) × (List Int) × (Int) × (Int) → List (Option (List AV))) i).map enO) :: (fun ⟨n, e, L, i, j⟩ => [.int .i64 i, .int .i64 j, .ptr 0 0, .ptr 1 0] : (Int) × (Int) × (List Int) × (Int) × (Int) → List AV) i) (fun ⟨n, e, L, i, j⟩ => (.bool (hasB e (atI L i.toNat) (atI L j.toNat)), [some [.int .i64 n, .int .u32 e], some [.sl (insA L) false]])))
theorem sp_on1_eq (n e : Int) (L : List Int) (i j : Int) (h : (0 ≤ e ∧ e ≤ 4294967295) ∧ distL L ∧ (0 ≤ i ∧ i < L.length) ∧ (0 ≤ j ∧ j < L.length) ∧ i ≠ j) : sp_on1 [some [.int .i64 n, .int .u32 e], some [.sl (insA L) false]] [.int .i64 i, .int .i64 j, .ptr 0 0, .ptr 1 0] = some (.bool (hasB e (atI L i.toNat) (atI L j.toNat)), [some [.int .i64 n, .int .u32 e], some [.sl (insA L) false]]) := by
  unfold sp_on1 pv
  exact pf_eq (ι := (Int) × (Int) × (List Int) × (Int) × (Int)) (α := AV × List (Option (List AV))) (n, e, L, i, j) h (by rintro ⟨n', e', L', i', j'⟩ _ e; simp_all [enO, Int.natCast_inj])
theorem v_impl_Graph_on_1 : QV PP 186 sp_on1 := by
  refine QV_pf fun i h => ?_
  obtain ⟨n, e, L, i, j⟩ := i
  replace h : (0 ≤ e ∧ e ≤ 4294967295) ∧ distL L ∧ (0 ≤ i ∧ i < L.length) ∧ (0 ≤ j ∧ j < L.length) ∧ i ≠ j := h
  refine H_code (Quiet.q1 q_impl_Graph_has Quiet.nil) hmix k_impl_Graph_on_1 rfl (fun b => b) (by simp [AHeap.n]) (fun _ _ => rfl) (by rfl) (by first | rfl | simp) ?_
  show wpc _ PP _ c_impl_Graph_on_1 (initSt [.int .i64 i, .int .i64 j, .ptr 0 0, .ptr 1 0] ⟨[some [.int .i64 n, .int .u32 e], some [.sl (insA L) false]]⟩) (endH (fun b => b) r_impl_Graph_on_1 (.bool (hasB e (atI L i.toNat) (atI L j.toNat))) [some [.int .i64 n, .int .u32 e], some [.sl (insA L) false]])
  obtain ⟨he, hL, ⟨i0, hi⟩, ⟨j0, hj⟩, hij⟩ := h
  obtain ⟨i, rfl⟩ := Int.eq_ofNat_of_zero_le i0
  obtain ⟨j, rfl⟩ := Int.eq_ofNat_of_zero_le j0
  have hi : i < L.length := by omega
  have hj : j < L.length := by omega
  have hij : i ≠ j := by omega
  have hh := sp_has_eq n e (atI L i) (atI L j) ⟨he, hL.2.2.at hi, hL.2.2.at hj, hL.ne hi hj hij⟩
  simp -dsimp -implicitDefEqProofs [c_impl_Graph_on_1, r_impl_Graph_on_1, hi, hj, atI_get hi, atI_get hj, hh, hsub]
theorem e_made_on : QE PP 80 (spMade 186 (spV sp_on1)) := QE_made v_impl_Graph_on_1.toE
noncomputable def sp_on : List AV → Option (AV) := pf (ι := (Int) × (Int) × (List Int)) (α := AV) (fun ⟨n, e, L⟩ => (0 ≤ e ∧ e ≤ 4294967295) ∧ distL L) (fun ⟨n, e, L⟩ => [.agg [.int .i64 n, .int .u32 e], .sl (insA L) false]) (fun ⟨n, e, L⟩ => .agg [.int .i64 L.length, .int .u32 (onE e L)])
theorem sp_on_eq (n e : Int) (L : List Int) (h : (0 ≤ e ∧ e ≤ 4294967295) ∧ distL L) : sp_on [.agg [.int .i64 n, .int .u32 e], .sl (insA L) false] = some (.agg [.int .i64 L.length, .int .u32 (onE e L)]) := by
  unfold sp_on
  exact pf_eq (ι := (Int) × (Int) × (List Int)) (α := AV) (n, e, L) h (by rintro ⟨n', e', L'⟩ _ e; simp_all [Int.natCast_inj])
theorem q_impl_Graph_on : QP PP 178 sp_on := by
  refine QP_pf (fun i h => ?_) fun i h => ?_
  · obtain ⟨n, e, L⟩ := i; exact ⟨by first | rfl | simp, by first | rfl | simp⟩
  obtain ⟨n, e, L⟩ := i
  replace h : (0 ≤ e ∧ e ≤ 4294967295) ∧ distL L := h
  refine P_code (Quiet.e1 e_made_on Quiet.nil) hmix k_impl_Graph_on rfl ?_ ?_
  · first | rfl | simp
  show wpc 0 PP _ c_impl_Graph_on (initSt [.agg [.int .i64 n, .int .u32 e], .sl (insA L) false] .nil) (endP r_impl_Graph_on (.agg [.int .i64 L.length, .int .u32 (onE e L)]))
  obtain ⟨he, hL⟩ := h
  have hm := spMade_eq (g := 186) (sp := spV sp_on1) (n := L.length) (caps := [.ptr 0 0, .ptr 1 0]) (A := ⟨[some [.int .i64 n, .int .u32 e], some [.sl (insA L) false], some [.int .i64 0, .int .u32 0]]⟩) (fun i j => hasB e (atI L i) (atI L j)) (by have := hL.2.1; omega) (fun i j hi hj => by
    have := sp_on1_eq n e L i j ⟨he, hL, by omega, by omega, by omega⟩
    simp [this])
  simp -dsimp -implicitDefEqProofs [c_impl_Graph_on, r_impl_Graph_on, hm, onE]
theorem q_spec_l01On : QP PP 104 sp_on := by
  refine QP_pf (fun i h => ?_) fun i h => ?_
  · obtain ⟨n, e, L⟩ := i; exact ⟨by first | rfl | simp, by first | rfl | simp⟩
  obtain ⟨n, e, L⟩ := i
  replace h : (0 ≤ e ∧ e ≤ 4294967295) ∧ distL L := h
  refine P_code (Quiet.q1 q_spec_l01Joined (Quiet.q1 q_spec_l01Bit Quiet.nil)) hmix k_spec_l01On rfl ?_ ?_
  · first | rfl | simp
  show wpc 0 PP _ c_spec_l01On (initSt [.agg [.int .i64 n, .int .u32 e], .sl (insA L) false] .nil) (endP r_spec_l01On (.agg [.int .i64 L.length, .int .u32 (onE e L)]))
  obtain ⟨he, hL⟩ := h
  have hl5 := hL.2.1
  simp -dsimp -implicitDefEqProofs [c_spec_l01On, r_spec_l01On]
  refine wpLoop_st (fun (j : Nat) => ⟨tl [(1, .sl (insA L) false), (2, .ptr 0 0), (4, .ptr 1 0), (5, .ptr 2 0), (6, .int .i64 j)], ⟨[some [.int .i64 n, .int .u32 e], some [.int .i64 0, .int .u32 0], some [.int .i64 L.length, .int .u32 (madeE (fun i j => hasB e (atI L i) (atI L j)) j)]]⟩⟩) (fun j => 1 ≤ j ∧ j ≤ max L.length 1) (fun j => max L.length 1 - j) 1 ⟨by omega, by omega⟩ (Sub.keep (by simp) (by simp [hsub, madeE, rowE]) (by simp)) ?_
  rintro j ⟨j1, hj⟩
  simp -dsimp -implicitDefEqProofs
  refine brW_of (fun h => ?_) (fun h => ?_) <;> simp only [decide_eq_true_eq, decide_eq_false_iff_not] at h
  · have hj' : j < L.length := by omega
    have hwj := wrapNat (i := j) (by omega)
    simp -dsimp -implicitDefEqProofs
    refine wpLoop_st (fun (i : Nat) => ⟨tl [(1, .sl (insA L) false), (2, .ptr 0 0), (4, .ptr 1 0), (5, .ptr 2 0), (6, .int .i64 j), (7, .int .i64 i)], ⟨[some [.int .i64 n, .int .u32 e], some [.int .i64 0, .int .u32 0], some [.int .i64 L.length, .int .u32 (rowE (fun i j => hasB e (atI L i) (atI L j)) j (madeE (fun i j => hasB e (atI L i) (atI L j)) j) i)]]⟩⟩) (fun i => i ≤ j) (fun i => j - i) 0 (by omega) (Sub.keep (by simp) (by simp [hsub, rowE]) (by simp)) ?_
    intro i hi
    simp -dsimp -implicitDefEqProofs
    refine brW_of (fun h => ?_) (fun h => ?_) <;> simp only [decide_eq_true_eq, decide_eq_false_iff_not] at h
    · have hi' : i < L.length := by omega
      have hwi := wrapNat (i := i) (by omega)
      have hJ := sp_l01Joined_eq n e (atI L i) (atI L j) ⟨he, hL.2.2.at hi', hL.2.2.at hj'⟩
      have hq2 : joinedB e (atI L i) (atI L j) = hasB e (atI L i) (atI L j) := by
        have := hL.ne hi' hj' (by omega)
        simp only [joinedB, ne_eq, this, not_false_eq_true, decide_true, Bool.true_and]
      rw [hq2] at hJ
      have hb := sp_bit_eq i j (by omega)
      have hor := orBit (rowE_lt (J := fun i j => hasB e (atI L i) (atI L j)) (j := j) (i := i) (madeE_lt (J := fun i j => hasB e (atI L i) (atI L j)) (n := j) (by omega)) (by omega) hi) (bitI_lt (i := i) (j := j) h (by omega))
      cases hv : hasB e (atI L i) (atI L j) with
      | false =>
        rw [hv] at hJ
        simp -dsimp -implicitDefEqProofs [hi', hj', atI_get hi', atI_get hj', hJ, hwi]
        exact .mk (i + 1) (by omega) (by omega) (Sub.keep (by simp) (by simp [hsub, rowE, hv]) (by simp [hwi]))
      | true =>
        rw [hv] at hJ
        simp -dsimp -implicitDefEqProofs [hi', hj', atI_get hi', atI_get hj', hJ, hwi, hb]
        exact .mk (i + 1) (by omega) (by omega) (Sub.keep (by simp) (by simp [hsub, rowE, hv, hor]) (by simp [hwi]))
    · have : i = j := by omega
      subst this
      simp -dsimp -implicitDefEqProofs [hwj]
      exact .mk (i + 1) (by omega) (by omega) (Sub.keep (by simp) (by simp [hsub, madeE]) (by simp [hwj]))
  · rcases Nat.eq_zero_or_pos L.length with h0 | h0
    · have hL0 : L = [] := List.eq_nil_of_length_eq_zero h0
      subst hL0
      have : j = 1 := by simp at hj; omega
      subst this
      simp -dsimp -implicitDefEqProofs [onE, madeE, rowE]
    · have : j = L.length := by omega
      subst this
      simp -dsimp -implicitDefEqProofs [onE]

/-! ### the first numbers -/
def upTo : Nat → List Int
  | 0 => []
  | n + 1 => upTo n ++ [(n : Int)]
@[simp] theorem upTo_len : ∀ n, (upTo n).length = n
  | 0 => rfl
  | n + 1 => by simp [upTo, upTo_len n]
theorem upTo_mem : ∀ {n : Nat} {x : Int}, x ∈ upTo n → 0 ≤ x ∧ x < n
  | 0, x, h => by cases h
  | n + 1, x, h => by
    rw [upTo, List.mem_append, List.mem_singleton] at h
    rcases h with h | rfl
    · have := upTo_mem h; omega
    · omega
theorem upTo_ne {n : Nat} (h : 0 < n) : upTo n ≠ [] := by
  intro e
  have := congrArg List.length e
  simp at this
  omega
theorem upTo_nodup : ∀ n, (upTo n).Nodup
  | 0 => by simp [upTo]
  | n + 1 => by
    rw [upTo]
    refine nodup_snoc (upTo_nodup n) ?_
    unfold inL
    rw [List.any_eq_false]
    intro x hx e
    have := upTo_mem hx
    have e : (n : Int) = x := by simpa using e
    omega
def firstR (n : Nat) : AV × List (Option (List AV)) := if n = 0 then (.sl [] true, []) else (.ref 0 1 0 n .full, [some (flatA (insA (upTo n)))])
noncomputable def sp_firstP : List AV → Option (AV × List (Option (List AV))) := pf (ι := (Nat)) (α := AV × List (Option (List AV))) (fun n => n ≤ 1000) (fun n => [.int .i64 n]) (fun n => firstR n)
theorem sp_firstP_eq (n : Nat) (h : n ≤ 1000) : sp_firstP [.int .i64 n] = some (firstR n) := by
  unfold sp_firstP
  exact pf_eq (ι := (Nat)) (α := AV × List (Option (List AV))) n h (by rintro n' _ e; simp_all [Int.natCast_inj])
theorem first_step (i : Nat) : flatA (insA (upTo i)) ++ [.int .i64 (i : Int)] = flatA (insA (upTo (i + 1))) := by rw [upTo, flatA_append, flatA_one]; rfl
theorem n_impl_first : QN PP 93 sp_firstP := by
  refine QN_pf (fun n h => ?_) fun n h => ?_
  · first | rfl | simp
  replace h : n ≤ 1000 := h
  show T PP 93 [.int .i64 n] .nil fun r' A' => r' = ((firstR n : AV × List (Option (List AV)))).1 ∧ A' = ⟨((firstR n : AV × List (Option (List AV)))).2⟩
  rcases Nat.eq_zero_or_pos n with rfl | hn
  · rw [show firstR 0 = (.sl [] true, []) from rfl]
    refine H_code Quiet.nil hmix k_impl_first rfl (fun _ => 0) (by simp [AHeap.n, AHeap.nil]) (by intro b hb; simp [AHeap.n, AHeap.nil] at hb <;> subst hb <;> rfl) (by rfl) (by first | rfl | simp) ?_
    simp -dsimp -implicitDefEqProofs [c_impl_first, r_impl_first]
    refine wpLoop_st (fun (i : Unit) => ⟨tl [(3, .sl [] true), (6, .int .i64 0), (7, .int .i64 0)], ⟨[]⟩⟩) (fun _ => True) (fun _ => 0) () trivial (Sub.keep (by simp) (by simp [hsub]) (by simp)) ?_
    rintro _ _
    simp -dsimp -implicitDefEqProofs [hsub]
  · rw [show firstR n = (.ref 0 1 0 n .full, [some (flatA (insA (upTo n)))]) from if_neg (by omega)]
    refine H_code Quiet.nil hmix k_impl_first rfl (fun _ => 0) (by simp [AHeap.n, AHeap.nil]) (by intro b hb; simp [AHeap.n, AHeap.nil] at hb <;> subst hb <;> rfl) (by rfl) (by first | rfl | simp) ?_
    simp -dsimp -implicitDefEqProofs [c_impl_first, r_impl_first]
    refine wpLoop_st (fun (i : Nat) => ⟨tl [(3, cellL 0 (upTo i)), (6, .int .i64 n), (7, .int .i64 i)], ⟨objL (upTo i)⟩⟩) (fun i => i ≤ n) (fun i => n - i) 0 (by omega) (Sub.keep (by simp) (by simp [hsub, upTo, objL_nil]) (by simp [upTo, objL_nil, cellL_nil])) ?_
    intro i hi
    rcases Nat.eq_zero_or_pos i with rfl | hi0
    · simp only [upTo, cellL_nil, objL_nil]
      have hm : 1 * 9 ≤ mostBytes := by decide
      have hw : IntKind.i64.wrap 1 = 1 := rfl
      simp -dsimp -implicitDefEqProofs [hn, hm, hw]
      refine .mk 1 (by omega) (by omega) ?_
      rw [cellL_cons (upTo_ne (by omega)), objL_cons (upTo_ne (by omega))]
      exact Sub.mk' (fun b => if b = 0 then 1 else b) (by simp) (by intro b hb; omega) (by rfl) (by simp [hsub, upTo, flat_in]) (by simp [hw])
    · rw [cellL_cons (upTo_ne hi0), objL_cons (upTo_ne hi0)]
      simp -dsimp -implicitDefEqProofs
      refine brW_of (fun h => ?_) (fun h => ?_) <;> simp only [decide_eq_true_eq, decide_eq_false_iff_not] at h
      · have hw := wrapNat (i := i) (by omega)
        have hm : (i + 1) * 9 ≤ mostBytes := by simp only [mostBytes]; omega
        have hfit : ¬ (i + 1 ≤ i) := by omega
        have htl : (flatA (insA (upTo i))).take i = flatA (insA (upTo i)) := List.take_of_length_le (by simp)
        have hst := first_step i
        simp -dsimp -implicitDefEqProofs [hw, hm, hfit, htl, hst]
        refine .mk (i + 1) (by omega) (by omega) ?_
        rw [cellL_cons (upTo_ne (by omega)), objL_cons (upTo_ne (by omega))]
        exact Sub.mk' (fun b => if b = 0 then 2 else b) (by simp) (by intro b hb; omega) (by rfl) (by simp [hsub]) (by simp [hw])
      · have : i = n := by omega
        subst this
        simp -dsimp -implicitDefEqProofs [hsub]
end Go.Proofs.YtkgodhdpcomjbaaAi
end

section
/- Contracts: orders; how many orders make a graph itself; whether a graph is least. -/
namespace Go.Proofs.YtkgodhdpcomjbaaAi
open Go Go.RowKit
set_option linter.unusedVariables false
set_option linter.unusedSimpArgs false
set_option maxRecDepth 20000

def ordersL (n stay : Nat) : List (List Int) := dfsL newM n (n - stay) (upTo stay)
theorem ClosedH.snoc {os : List (Option (List AV))} {c : List AV} (h : ClosedH os) (hc : ltL os.length c = true) : ClosedH (os ++ [some c]) := by
  intro b cs hb
  rw [hget_append] at hb
  have hle : os.length ≤ (os ++ [some c]).length := by simp
  split at hb
  · exact ltL_mono hle _ (h b cs hb)
  · rename_i hlt
    have : b - os.length = 0 := by
      have := hget_lt hb
      simp at this
      omega
    rw [this] at hb
    simp [hget] at hb
    subst hb
    exact ltL_mono hle _ hc
@[simp] theorem leL_app : ∀ (os r r' : List (Option (List AV))), leL (os ++ r) (os ++ r') ↔ leL r r'
  | [], r, r' => Iff.rfl
  | none :: os, r, r' => by simp only [List.cons_append, leL]; exact leL_app os r r'
  | some c :: os, r, r' => by simp only [List.cons_append, leL, true_and]; exact leL_app os r r'
theorem T_orders {ι : Type} {H : ι → List (Option (List AV))} {N : Nat} {g2 : FuncId} {caps2 : List AV} {en : List Int → ι → Bool × ι} {e : Int}
    (hN : ∀ s, (H s).length = N) (hall : ∀ s b, b < N → (hget (H s) b).isSome = true) (ho : ∀ s, ClosedH (H s))
    (hc2 : ltL N caps2 = true) (hcl : looseL caps2 = caps2) {n stay : Nat} (hn : n ≤ 5) (hst : stay ≤ n)
    (hen : ∀ s (K : List Int), K.length = n → (∀ x ∈ K, 0 ≤ x ∧ x < (n : Int)) → K.Nodup → T PP g2 ([.sl (insA K) false] ++ caps2) ⟨H s⟩ fun r A' => r = .bool (en K s).1 ∧ A' = ⟨H (en K s).2⟩) (s : ι) :
      T PP 176 [.agg [.int .i64 n, .int .u32 e], .int .i64 stay, .fn g2 caps2] ⟨H s⟩ fun r A' => r = .bool (goL en (ordersL n stay) s).1 ∧ A' = ⟨H (goL en (ordersL n stay) s).2⟩ := by
  have hL := T_listed hN hall ho hc2 (m := n) (k := n) hn hn hen (n - stay) (upTo stay) s (by simp; omega) (fun x hx => by have := upTo_mem hx; omega) (upTo_nodup stay)
  have hf := sp_firstP_eq stay (by omega)
  unfold firstR at hf
  refine H_code (Quiet.e1 n_impl_first.toE Quiet.nil) hmix k_impl_Graph_orders rfl (fun b => b) (by simp [AHeap.n, hN]) (fun _ _ => rfl) (injB_id _) (by rfl) ?_
  show wpc (H s).length PP _ c_impl_Graph_orders (initSt [.agg [.int .i64 n, .int .u32 e], .int .i64 stay, .fn g2 caps2] ⟨H s⟩) _
  have hG : goL en (dfsL newM n (n - stay) (upTo stay)) s = goL en (ordersL n stay) s := rfl
  rw [hG] at hL
  generalize goL en (ordersL n stay) s = G at hL ⊢
  obtain ⟨gb, gs⟩ := G
  simp only at hL ⊢
  rcases Nat.eq_zero_or_pos stay with rfl | h0
  · rw [if_pos rfl] at hf
    have hf0 : sp_firstP [.int .i64 0] = some (.sl [] true, []) := hf
    have hE := hL.seesE (ho s) (by rw [hN, hN]) (ho gs) (fun b hb => hall _ b (by rw [← hN s]; exact hb)) (by simp [hN, hc2]) rfl [some [.int .i64 n, .int .u32 e]]
    simp -dsimp -implicitDefEqProofs [c_impl_Graph_orders, r_impl_Graph_orders, hf0, leL, renL]
    refine T.loose ?_
    rw [show looseL [AV.int .i64 n, .int .i64 n, .sl [] true, .fn g2 caps2] = [.int .i64 n, .int .i64 n, .sl (insA (upTo 0)) false, .fn g2 caps2] by simp [looseL, AV.loose, hcl, upTo, mapA]]
    refine T.mono hE ?_
    rintro r A' ⟨rfl, rfl⟩
    simp -dsimp -implicitDefEqProofs [hN, hsub_pre (ho gs)]
  · rw [if_neg (by omega)] at hf
    have hT := T_ref (c0 := [.int .i64 n, .int .u32 e]) (t := .full) (a1 := [.int .i64 n, .int .i64 n]) (a2 := [.fn g2 caps2]) hL (ho s) (by rw [hN, hN]) (ho gs) (fun b hb => hall _ b (by rw [← hN s]; exact hb)) (by simp [hN]) (by simp [hN, hc2]) rfl
    rw [upTo_len] at hT
    simp -dsimp -implicitDefEqProofs [c_impl_Graph_orders, r_impl_Graph_orders, hf, leL, shiftN]
    refine T.mono hT ?_
    rintro r A' ⟨rfl, rfl⟩
    simp -dsimp -implicitDefEqProofs [hN, hsub_pre (ho gs)]
end Go.Proofs.YtkgodhdpcomjbaaAi
end

section
/- Contracts: how many orders make a graph itself; whether a graph is least. -/
namespace Go.Proofs.YtkgodhdpcomjbaaAi
open Go Go.RowKit
set_option linter.unusedVariables false
set_option linter.unusedSimpArgs false
set_option maxRecDepth 20000

def selfB (e : Int) (K : List Int) : Bool := decide ((onE e K : Int) = e)
def cntW (p : List Int → Bool) : Int → List (List Int) → Int
  | c, [] => c
  | c, L :: r => cntW p (if p L = true then IntKind.i64.wrap (c + 1) else c) r
theorem cntW_eq (p : List Int → Bool) : ∀ (AL : List (List Int)) (c : Int), 0 ≤ c → c + AL.length ≤ 1000000 → cntW p c AL = c + (AL.filter p).length
  | [], c, h0, h => by simp [cntW]
  | L :: r, c, h0, h => by
    rw [List.length_cons] at h
    rw [cntW, List.filter_cons]
    have hw : IntKind.i64.wrap (c + 1) = c + 1 := wrapI64 (by omega) (by omega)
    cases hp : p L with
    | false => simp only [Bool.false_eq_true, if_false]; exact cntW_eq p r c h0 (by omega)
    | true =>
      simp only [if_true, hw, List.length_cons]
      rw [cntW_eq p r (c + 1) (by omega) (by omega)]
      omega
noncomputable def sp_selves1 : List (Option (List AV)) → List AV → Option (AV × List (Option (List AV))) := pv (pf (ι := (Nat) × (Int) × (Int) × (List Int)) (α := AV × List (Option (List AV))) (fun ⟨n, e, c, K⟩ => (0 ≤ e ∧ e ≤ 4294967295) ∧ distL K ∧ K.length = n) (fun i => .agg (((fun ⟨n, e, c, K⟩ => [some [.int .i64 n, .int .u32 e], some [.int .i64 c]] : (Nat) × (Int) × (Int) × (List Int) → List (Option (List AV))) i).map enO) :: (fun ⟨n, e, c, K⟩ => [.sl (insA K) false, .ptr 0 0, .ptr 1 0] : (Nat) × (Int) × (Int) × (List Int) → List AV) i) (fun ⟨n, e, c, K⟩ => (.bool false, [some [.int .i64 n, .int .u32 e], some [.int .i64 (if selfB e K = true then IntKind.i64.wrap (c + 1) else c)]])))
theorem sp_selves1_eq (n : Nat) (e c : Int) (K : List Int) (h : (0 ≤ e ∧ e ≤ 4294967295) ∧ distL K ∧ K.length = n) : sp_selves1 [some [.int .i64 n, .int .u32 e], some [.int .i64 c]] [.sl (insA K) false, .ptr 0 0, .ptr 1 0] = some (.bool false, [some [.int .i64 n, .int .u32 e], some [.int .i64 (if selfB e K = true then IntKind.i64.wrap (c + 1) else c)]]) := by
  unfold sp_selves1 pv
  exact pf_eq (ι := (Nat) × (Int) × (Int) × (List Int)) (α := AV × List (Option (List AV))) (n, e, c, K) h (by rintro ⟨n', e', c', K'⟩ _ e; simp_all [enO, Int.natCast_inj])
theorem v_impl_Graph_selves_1 : QV PP 177 sp_selves1 := by
  refine QV_pf fun i h => ?_
  obtain ⟨n, e, c, K⟩ := i
  replace h : (0 ≤ e ∧ e ≤ 4294967295) ∧ distL K ∧ K.length = n := h
  refine H_code (Quiet.e1 q_impl_Graph_on.toR Quiet.nil) hmix k_impl_Graph_selves_1 rfl (fun b => b) (by simp [AHeap.n]) (fun _ _ => rfl) (by rfl) (by first | rfl | simp) ?_
  show wpc _ PP _ c_impl_Graph_selves_1 (initSt [.sl (insA K) false, .ptr 0 0, .ptr 1 0] ⟨[some [.int .i64 n, .int .u32 e], some [.int .i64 c]]⟩) (endH (fun b => b) r_impl_Graph_selves_1 (.bool false) [some [.int .i64 n, .int .u32 e], some [.int .i64 (if selfB e K = true then IntKind.i64.wrap (c + 1) else c)]])
  obtain ⟨he, hK, hl⟩ := h
  have ho := sp_on_eq n e K ⟨he, hK⟩
  rw [hl] at ho
  cases hv : selfB e K with
  | false =>
    have hb : ((onE e K : Int) == e) = false := by simpa [selfB] using hv
    simp -dsimp -implicitDefEqProofs [c_impl_Graph_selves_1, r_impl_Graph_selves_1, ho, hb, hsub]
  | true =>
    have hb : ((onE e K : Int) == e) = true := by simpa [selfB] using hv
    simp -dsimp -implicitDefEqProofs [c_impl_Graph_selves_1, r_impl_Graph_selves_1, ho, hb, hsub]
def selfEn (e : Int) (K : List Int) (c : Int) : Bool × Int := (false, if selfB e K = true then IntKind.i64.wrap (c + 1) else c)
theorem goL_self (e : Int) : ∀ (AL : List (List Int)) (c : Int), (goL (selfEn e) AL c).2 = cntW (selfB e) c AL
  | [], c => rfl
  | L :: r, c => by
    rw [goL, cntW]
    have : (selfEn e L c).1 = false := rfl
    rw [this]
    simp only [Bool.false_eq_true, if_false]
    exact goL_self e r _
theorem hget2 {a b : Option (List AV)} {i : Nat} {cs : List AV} (h : hget [a, b] i = some cs) : (i = 0 ∧ a = some cs) ∨ (i = 1 ∧ b = some cs) := by
  have := hget_lt h
  simp at this
  have h2 : i = 0 ∨ i = 1 := by omega
  rcases h2 with rfl | rfl
  · exact .inl ⟨rfl, by simpa [hget] using h⟩
  · exact .inr ⟨rfl, by simpa [hget] using h⟩
def selvesV (n stay : Nat) (e : Int) : Int := cntW (selfB e) 0 (ordersL n stay)
noncomputable def sp_selves : List AV → Option (AV) := pf (ι := (Nat) × (Nat) × (Int)) (α := AV) (fun ⟨n, stay, e⟩ => (n ≤ 5 ∧ stay ≤ n) ∧ (0 ≤ e ∧ e ≤ 4294967295)) (fun ⟨n, stay, e⟩ => [.agg [.int .i64 n, .int .u32 e], .int .i64 stay]) (fun ⟨n, stay, e⟩ => .int .i64 (selvesV n stay e))
theorem sp_selves_eq (n stay : Nat) (e : Int) (h : (n ≤ 5 ∧ stay ≤ n) ∧ (0 ≤ e ∧ e ≤ 4294967295)) : sp_selves [.agg [.int .i64 n, .int .u32 e], .int .i64 stay] = some (.int .i64 (selvesV n stay e)) := by
  unfold sp_selves
  exact pf_eq (ι := (Nat) × (Nat) × (Int)) (α := AV) (n, stay, e) h (by rintro ⟨n', stay', e'⟩ _ e; simp_all [Int.natCast_inj])
theorem q_impl_Graph_selves : QP PP 158 sp_selves := by
  refine QP_pf (fun i h => ?_) fun i h => ?_
  · obtain ⟨n, stay, e⟩ := i; exact ⟨by first | rfl | simp, by first | rfl | simp⟩
  obtain ⟨n, stay, e⟩ := i
  replace h : (n ≤ 5 ∧ stay ≤ n) ∧ (0 ≤ e ∧ e ≤ 4294967295) := h
  refine P_code Quiet.nil hmix k_impl_Graph_selves rfl ?_ ?_
  · first | rfl | simp
  show wpc 0 PP _ c_impl_Graph_selves (initSt [.agg [.int .i64 n, .int .u32 e], .int .i64 stay] .nil) (endP r_impl_Graph_selves (.int .i64 (selvesV n stay e)))
  obtain ⟨⟨hn, hst⟩, he⟩ := h
  let H : Int → List (Option (List AV)) := fun c => [some [.int .i64 n, .int .u32 e], some [.int .i64 c]]
  have hT := T_orders (ι := Int) (H := H) (N := 2) (g2 := 177) (caps2 := [.ptr 0 0, .ptr 1 0]) (en := selfEn e) (e := e) (fun s => rfl)
    (fun s b hb => by
      have h2 : b = 0 ∨ b = 1 := by omega
      rcases h2 with rfl | rfl <;> rfl)
    (fun s b cs hb => by
      rcases hget2 hb with ⟨_, h⟩ | ⟨_, h⟩ <;> (obtain rfl := Option.some.inj h; simp [H]))
    (by simp) rfl hn hst
    (fun s K hK hr hnd => by
      refine v_impl_Graph_selves_1.toE _ _ _ _ ?_
      have := sp_selves1_eq n e s K ⟨he, ⟨hnd, by omega, fun x hx => by have := hr x hx; omega⟩, hK⟩
      simp [H, this, selfEn]) 0
  have hG : (goL (selfEn e) (ordersL n stay) 0).2 = selvesV n stay e := goL_self e _ _
  rw [← hG]
  simp -dsimp -implicitDefEqProofs [c_impl_Graph_selves, r_impl_Graph_selves]
  refine T.mono hT ?_
  rintro r A' ⟨rfl, rfl⟩
  simp only [H]
  simp -dsimp -implicitDefEqProofs

/-! ### least graphs -/
def lessB (e : Int) (K : List Int) : Bool := decide ((onE e K : Int) < e)
noncomputable def sp_least1 : List (Option (List AV)) → List AV → Option (AV × List (Option (List AV))) := pv (pf (ι := (Nat) × (Int) × (List Int)) (α := AV × List (Option (List AV))) (fun ⟨n, e, K⟩ => (0 ≤ e ∧ e ≤ 4294967295) ∧ distL K ∧ K.length = n) (fun i => .agg (((fun ⟨n, e, K⟩ => [some [.int .i64 n, .int .u32 e]] : (Nat) × (Int) × (List Int) → List (Option (List AV))) i).map enO) :: (fun ⟨n, e, K⟩ => [.sl (insA K) false, .ptr 0 0] : (Nat) × (Int) × (List Int) → List AV) i) (fun ⟨n, e, K⟩ => (.bool (lessB e K), [some [.int .i64 n, .int .u32 e]])))
theorem sp_least1_eq (n : Nat) (e : Int) (K : List Int) (h : (0 ≤ e ∧ e ≤ 4294967295) ∧ distL K ∧ K.length = n) : sp_least1 [some [.int .i64 n, .int .u32 e]] [.sl (insA K) false, .ptr 0 0] = some (.bool (lessB e K), [some [.int .i64 n, .int .u32 e]]) := by
  unfold sp_least1 pv
  exact pf_eq (ι := (Nat) × (Int) × (List Int)) (α := AV × List (Option (List AV))) (n, e, K) h (by rintro ⟨n', e', K'⟩ _ e; simp_all [enO, Int.natCast_inj])
theorem v_impl_Graph_isLeast_1 : QV PP 187 sp_least1 := by
  refine QV_pf fun i h => ?_
  obtain ⟨n, e, K⟩ := i
  replace h : (0 ≤ e ∧ e ≤ 4294967295) ∧ distL K ∧ K.length = n := h
  refine H_code (Quiet.e1 q_impl_Graph_on.toR Quiet.nil) hmix k_impl_Graph_isLeast_1 rfl (fun b => b) (by simp [AHeap.n]) (fun _ _ => rfl) (by rfl) (by first | rfl | simp) ?_
  show wpc _ PP _ c_impl_Graph_isLeast_1 (initSt [.sl (insA K) false, .ptr 0 0] ⟨[some [.int .i64 n, .int .u32 e]]⟩) (endH (fun b => b) r_impl_Graph_isLeast_1 (.bool (lessB e K)) [some [.int .i64 n, .int .u32 e]])
  obtain ⟨he, hK, hl⟩ := h
  have ho := sp_on_eq n e K ⟨he, hK⟩
  rw [hl] at ho
  simp -dsimp -implicitDefEqProofs [c_impl_Graph_isLeast_1, r_impl_Graph_isLeast_1, ho, lessB, hsub]
def leastV (n stay : Nat) (e : Int) : Bool := !(ordersL n stay).any (lessB e)
theorem goL_any (e : Int) : ∀ (AL : List (List Int)) (c : Unit), (goL (fun K (c : Unit) => (lessB e K, c)) AL c).1 = AL.any (lessB e)
  | [], c => rfl
  | L :: r, c => by
    rw [goL, List.any_cons]
    cases h : lessB e L with
    | true => simp
    | false => simp only [Bool.false_eq_true, if_false, Bool.false_or]; exact goL_any e r _
noncomputable def sp_least : List AV → Option (AV) := pf (ι := (Nat) × (Nat) × (Int)) (α := AV) (fun ⟨n, stay, e⟩ => (n ≤ 5 ∧ stay ≤ n) ∧ (0 ≤ e ∧ e ≤ 4294967295)) (fun ⟨n, stay, e⟩ => [.agg [.int .i64 n, .int .u32 e], .int .i64 stay]) (fun ⟨n, stay, e⟩ => .bool (leastV n stay e))
theorem sp_least_eq (n stay : Nat) (e : Int) (h : (n ≤ 5 ∧ stay ≤ n) ∧ (0 ≤ e ∧ e ≤ 4294967295)) : sp_least [.agg [.int .i64 n, .int .u32 e], .int .i64 stay] = some (.bool (leastV n stay e)) := by
  unfold sp_least
  exact pf_eq (ι := (Nat) × (Nat) × (Int)) (α := AV) (n, stay, e) h (by rintro ⟨n', stay', e'⟩ _ e; simp_all [Int.natCast_inj])
theorem q_impl_Graph_isLeast : QP PP 181 sp_least := by
  refine QP_pf (fun i h => ?_) fun i h => ?_
  · obtain ⟨n, stay, e⟩ := i; exact ⟨by first | rfl | simp, by first | rfl | simp⟩
  obtain ⟨n, stay, e⟩ := i
  replace h : (n ≤ 5 ∧ stay ≤ n) ∧ (0 ≤ e ∧ e ≤ 4294967295) := h
  refine P_code Quiet.nil hmix k_impl_Graph_isLeast rfl ?_ ?_
  · first | rfl | simp
  show wpc 0 PP _ c_impl_Graph_isLeast (initSt [.agg [.int .i64 n, .int .u32 e], .int .i64 stay] .nil) (endP r_impl_Graph_isLeast (.bool (leastV n stay e)))
  obtain ⟨⟨hn, hst⟩, he⟩ := h
  let H : Unit → List (Option (List AV)) := fun c => [some [.int .i64 n, .int .u32 e]]
  have hT := T_orders (ι := Unit) (H := H) (N := 1) (g2 := 187) (caps2 := [.ptr 0 0]) (en := fun K c => (lessB e K, c)) (e := e) (fun s => rfl)
    (fun s b hb => by
      have h2 : b = 0 := by omega
      rcases h2 with rfl <;> rfl)
    (fun s b cs hb => by
      have := hget_lt hb
      have h2 : b = 0 := by simp [H] at this; omega
      subst h2
      simp [H, hget] at hb
      subst hb
      simp [H])
    (by simp) rfl hn hst
    (fun s K hK hr hnd => by
      refine v_impl_Graph_isLeast_1.toE _ _ _ _ ?_
      have := sp_least1_eq n e K ⟨he, ⟨hnd, by omega, fun x hx => by have := hr x hx; omega⟩, hK⟩
      simp [H, this]) ()
  have hG : (goL (fun K (c : Unit) => (lessB e K, c)) (ordersL n stay) ()).1 = (ordersL n stay).any (lessB e) := goL_any e _ _
  unfold leastV
  rw [← hG]
  simp -dsimp -implicitDefEqProofs [c_impl_Graph_isLeast, r_impl_Graph_isLeast]
  refine T.mono hT ?_
  rintro r A' ⟨rfl, rfl⟩
  simp -dsimp -implicitDefEqProofs
end Go.Proofs.YtkgodhdpcomjbaaAi
end

section
/- Contracts: the reference's lists of different vertices, one behind another. -/
namespace Go.Proofs.YtkgodhdpcomjbaaAi
open Go Go.RowKit
set_option linter.unusedVariables false
set_option linter.unusedSimpArgs false
set_option maxRecDepth 20000

theorem n_spec_l01First : QN PP 174 sp_firstP := by
  refine QN_pf (fun n h => ?_) fun n h => ?_
  · first | rfl | simp
  replace h : n ≤ 1000 := h
  show T PP 174 [.int .i64 n] .nil fun r' A' => r' = ((firstR n : AV × List (Option (List AV)))).1 ∧ A' = ⟨((firstR n : AV × List (Option (List AV)))).2⟩
  rcases Nat.eq_zero_or_pos n with rfl | hn
  · rw [show firstR 0 = (.sl [] true, []) from rfl]
    refine H_code Quiet.nil hmix k_spec_l01First rfl (fun _ => 0) (by simp [AHeap.n, AHeap.nil]) (by intro b hb; simp [AHeap.n, AHeap.nil] at hb <;> subst hb <;> rfl) (by rfl) (by first | rfl | simp) ?_
    simp -dsimp -implicitDefEqProofs [c_spec_l01First, r_spec_l01First]
    refine wpLoop_st (fun (i : Unit) => ⟨tl [(0, .int .i64 0), (3, .sl [] true), (4, .int .i64 0)], ⟨[]⟩⟩) (fun _ => True) (fun _ => 0) () trivial (Sub.keep (by simp) (by simp [hsub]) (by simp)) ?_
    rintro _ _
    simp -dsimp -implicitDefEqProofs [hsub]
  · rw [show firstR n = (.ref 0 1 0 n .full, [some (flatA (insA (upTo n)))]) from if_neg (by omega)]
    refine H_code Quiet.nil hmix k_spec_l01First rfl (fun _ => 0) (by simp [AHeap.n, AHeap.nil]) (by intro b hb; simp [AHeap.n, AHeap.nil] at hb <;> subst hb <;> rfl) (by rfl) (by first | rfl | simp) ?_
    simp -dsimp -implicitDefEqProofs [c_spec_l01First, r_spec_l01First]
    refine wpLoop_st (fun (i : Nat) => ⟨tl [(0, .int .i64 n), (3, cellL 0 (upTo i)), (4, .int .i64 i)], ⟨objL (upTo i)⟩⟩) (fun i => i ≤ n) (fun i => n - i) 0 (by omega) (Sub.keep (by simp) (by simp [hsub, upTo, objL_nil]) (by simp [upTo, objL_nil, cellL_nil])) ?_
    intro i hi
    rcases Nat.eq_zero_or_pos i with rfl | hi0
    · simp only [upTo, cellL_nil, objL_nil]
      have hm : 1 * 9 ≤ mostBytes := by decide
      have hw : IntKind.i64.wrap 1 = 1 := rfl
      simp -dsimp -implicitDefEqProofs [hn, hm, hw]
      refine .mk 1 (by omega) (by omega) ?_
      rw [cellL_cons (upTo_ne (by omega)), objL_cons (upTo_ne (by omega))]
      exact Sub.mk' (fun b => if b = 0 then 1 else b) (by simp) (by intro b hb; omega) (by rfl) (by simp [hsub, upTo, flat_in]) (by simp [hw])
    · rw [cellL_cons (upTo_ne hi0), objL_cons (upTo_ne hi0)]
      simp -dsimp -implicitDefEqProofs
      refine brW_of (fun h => ?_) (fun h => ?_) <;> simp only [decide_eq_true_eq, decide_eq_false_iff_not] at h
      · have hw := wrapNat (i := i) (by omega)
        have hm : (i + 1) * 9 ≤ mostBytes := by simp only [mostBytes]; omega
        have hfit : ¬ (i + 1 ≤ i) := by omega
        have htl : (flatA (insA (upTo i))).take i = flatA (insA (upTo i)) := List.take_of_length_le (by simp)
        have hst := first_step i
        simp -dsimp -implicitDefEqProofs [hw, hm, hfit, htl, hst]
        refine .mk (i + 1) (by omega) (by omega) ?_
        rw [cellL_cons (upTo_ne (by omega)), objL_cons (upTo_ne (by omega))]
        exact Sub.mk' (fun b => if b = 0 then 2 else b) (by simp) (by intro b hb; omega) (by rfl) (by simp [hsub]) (by simp [hw])
      · have : i = n := by omega
        subst this
        simp -dsimp -implicitDefEqProofs [hsub]
theorem inL_take {k : List Int} {v : Int} {i : Nat} (hi : i < k.length) : inL (k.take (i + 1)) v = (inL (k.take i) v || (v == k[i])) := by
  unfold inL
  rw [take_snoc k i hi, List.any_append]
  simp
theorem inL_of {k : List Int} {v : Int} (h : inL k v = true) : v ∈ k := by
  unfold inL at h
  obtain ⟨x, hx, e⟩ := List.any_eq_true.1 h
  have : v = x := by simpa using e
  rw [this]; exact hx
theorem q_spec_l01Among : QP PP 184 sp_containsI := by
  refine QP_pf (fun i h => ?_) fun i h => ?_
  · obtain ⟨k, v⟩ := i; exact ⟨by first | rfl | simp, by first | rfl | simp⟩
  obtain ⟨k, v⟩ := i
  replace h : k.length ≤ 1048576 := h
  refine P_code Quiet.nil hmix k_spec_l01Among rfl ?_ ?_
  · first | rfl | simp
  show wpc 0 PP _ c_spec_l01Among (initSt [.sl (insA k) false, .int .i64 v] .nil) (endP r_spec_l01Among (.bool (inL k v)))
  simp -dsimp -implicitDefEqProofs [c_spec_l01Among, r_spec_l01Among]
  refine wpLoop_st (fun (i : Nat) => ⟨tl [(0, .sl (insA k) false), (1, .int .i64 v), (5, .int .i64 i)], ⟨[]⟩⟩) (fun i => i ≤ k.length ∧ inL (k.take i) v = false) (fun i => k.length - i) 0 ⟨by omega, rfl⟩ (Sub.keep (by simp) (by simp [hsub]) (by simp)) ?_
  rintro i ⟨hi, hx⟩
  simp -dsimp -implicitDefEqProofs
  refine brW_of (fun h => ?_) (fun h => ?_) <;> simp only [decide_eq_true_eq, decide_eq_false_iff_not] at h
  · have hi' : i < k.length := by omega
    have hw := wrapNat (i := i) (by omega)
    have hst := inL_take (v := v) hi'
    rw [hx, Bool.false_or] at hst
    by_cases hv : k[i] = v
    · have hv' : (k[i] == v) = true := by simp [hv]
      have hin : inL k v = true := by
        unfold inL; rw [List.any_eq_true]; exact ⟨k[i], List.getElem_mem hi', by simp [hv]⟩
      simp -dsimp -implicitDefEqProofs [hi', hv', hin]
    · have hv' : (k[i] == v) = false := by simp [hv]
      have hv2 : (v == k[i]) = false := by simp; exact fun e => hv e.symm
      rw [hv2] at hst
      simp -dsimp -implicitDefEqProofs [hi', hv', hw]
      exact .mk (i + 1) ⟨by omega, hst⟩ (by omega) (Sub.keep (by simp) (by simp [hsub]) (by simp [hw]))
  · have : i = k.length := by omega
    subst this
    rw [List.take_length] at hx
    simp -dsimp -implicitDefEqProofs [hx]

/-! ### the next list of different vertices -/
def freeF (K : List Int) : Nat → Int → Int
  | 0, w => w
  | f + 1, w => if inL K w = true then freeF K f (w + 1) else w
theorem freeF_le {K : List Int} {B : Int} (hB : ∀ x ∈ K, x ≤ B) : ∀ (f : Nat) (w : Int), w ≤ B + 1 → freeF K f w ≤ B + 1
  | 0, w, h => h
  | f + 1, w, h => by
    rw [freeF]
    split
    · rename_i hin
      have := hB w (inL_of hin)
      exact freeF_le hB f (w + 1) (by omega)
    · exact h
theorem freeF_ge {K : List Int} : ∀ (f : Nat) (w : Int), w ≤ freeF K f w
  | 0, w => Int.le_refl _
  | f + 1, w => by
    rw [freeF]
    split
    · have := freeF_ge (K := K) f (w + 1); omega
    · omega
def fillF (k : Nat) : Nat → List Int → List Int
  | 0, L => L
  | f + 1, L => fillF k f (L.set (k - (f + 1)) (freeF (L.take (k - (f + 1))) 12 0))
theorem fillF_len (k : Nat) : ∀ (f : Nat) (L : List Int), (fillF k f L).length = L.length
  | 0, L => rfl
  | f + 1, L => by rw [fillF, fillF_len k f]; simp
def tryF (n : Int) (L : List Int) (i : Nat) : Nat → Int → Option (List Int)
  | 0, v => none
  | f + 1, v => if v < n then (if inL (L.take i) v = true then tryF n L i f (v + 1) else some (fillF L.length (L.length - (i + 1)) (L.set i v))) else none
def nextF (n : Int) (L : List Int) : Nat → List Int × Bool
  | 0 => (L, false)
  | i + 1 => match tryF n L i 6 (L.getD i 0 + 1) with
    | some L' => (L', true)
    | none => nextF n L i
theorem tryF_len {n : Int} {L : List Int} {i : Nat} : ∀ {f : Nat} {v : Int} {L' : List Int}, tryF n L i f v = some L' → L'.length = L.length
  | 0, v, L', h => by cases h
  | f + 1, v, L', h => by
    rw [tryF] at h
    split at h
    · split at h
      · exact tryF_len h
      · obtain rfl := Option.some.inj h
        rw [fillF_len]; simp
    · cases h
theorem nextF_len (n : Int) (L : List Int) : ∀ i, (nextF n L i).1.length = L.length
  | 0 => rfl
  | i + 1 => by
    rw [nextF]
    split
    · rename_i h; exact tryF_len h
    · exact nextF_len n L i
theorem gath_take (L : List Int) (j : Nat) (hj : j ≤ L.length) : gath 1 j (flatA (mapA inA L)) = mapA inA (L.take j) := by
  have h1 : flatA (mapA inA L) = flatA (mapA inA (L.take j)) ++ flatA (mapA inA (L.drop j)) := by rw [← flatA_append, List.take_append_drop]
  rw [h1]
  have key : ∀ (A : List Int) (r : List AV), gath 1 A.length (flatA (mapA inA A) ++ r) = mapA inA A := by
    intro A
    induction A with
    | nil => intro r; rfl
    | cons x A ih =>
      intro r
      rw [flatA_cons]
      show elemA 1 _ :: gath 1 A.length _ = _
      have := ih r
      simp only [List.cons_append, List.nil_append, AV.cells, List.drop_succ_cons, List.drop_zero]
      rw [this]; rfl
  have := key (L.take j) (flatA (mapA inA (L.drop j)))
  rw [List.length_take, Nat.min_eq_left hj] at this
  exact this
noncomputable def sp_nextP : List (Option (List AV)) → List AV → Option (AV × List (Option (List AV))) := pv (pf (ι := (Nat) × (List Int) × (Cp)) (α := AV × List (Option (List AV))) (fun ⟨n, L, t⟩ => n ≤ 5 ∧ L.length ≤ 5 ∧ (∀ x ∈ L, 0 ≤ x ∧ x ≤ 5)) (fun i => .agg (((fun ⟨n, L, t⟩ => [some (flatA (insA L))] : (Nat) × (List Int) × (Cp) → List (Option (List AV))) i).map enO) :: (fun ⟨n, L, t⟩ => [.ref 0 1 0 L.length t, .int .i64 n] : (Nat) × (List Int) × (Cp) → List AV) i) (fun ⟨n, L, t⟩ => (.bool (nextF n L L.length).2, [some (flatA (insA (nextF n L L.length).1))])))
theorem sp_nextP_eq (n : Nat) (L : List Int) (t : Cp) (h : n ≤ 5 ∧ L.length ≤ 5 ∧ (∀ x ∈ L, 0 ≤ x ∧ x ≤ 5)) : sp_nextP [some (flatA (insA L))] [.ref 0 1 0 L.length t, .int .i64 n] = some (.bool (nextF n L L.length).2, [some (flatA (insA (nextF n L L.length).1))]) := by
  unfold sp_nextP pv
  exact pf_eq (ι := (Nat) × (List Int) × (Cp)) (α := AV × List (Option (List AV))) (n, L, t) h (by rintro ⟨n', L', t'⟩ _ e; simp_all [enO, Int.natCast_inj])
set_option maxHeartbeats 1000000 in
theorem v_spec_l01Next : QV PP 175 sp_nextP := by
  refine QV_pf fun i h => ?_
  obtain ⟨n, L, t⟩ := i
  replace h : n ≤ 5 ∧ L.length ≤ 5 ∧ (∀ x ∈ L, 0 ≤ x ∧ x ≤ 5) := h
  refine H_code (Quiet.e1 q_spec_l01Among.toR Quiet.nil) hmix k_spec_l01Next rfl (fun b => b) (by simp [AHeap.n]) (fun _ _ => rfl) (by rfl) (by first | rfl | simp) ?_
  show wpc _ PP _ c_spec_l01Next (initSt [.ref 0 1 0 L.length t, .int .i64 n] ⟨[some (flatA (insA L))]⟩) (endH (fun b => b) r_spec_l01Next (.bool (nextF n L L.length).2) [some (flatA (insA (nextF n L L.length).1))])
  obtain ⟨hn, hl, hL⟩ := h
  have w0 : IntKind.i64.wrap ((L.length : Int) - 1) = (L.length : Int) - 1 := wrapI64 (by omega) (by omega)
  simp -dsimp -implicitDefEqProofs [c_spec_l01Next, r_spec_l01Next, w0]
  refine wpLoop_st (fun (i : Nat) => ⟨tl [(0, .ref 0 1 0 L.length t), (1, .int .i64 n), (5, .int .i64 L.length), (6, .int .i64 ((i : Int) - 1))], ⟨[some (flatA (insA L))]⟩⟩) (fun i => i ≤ L.length ∧ nextF n L i = nextF n L L.length) (fun i => i) L.length ⟨Nat.le_refl _, rfl⟩ (Sub.keep (by simp) (by simp [hsub]) (by simp)) ?_
  rintro i ⟨h1, h4⟩
  simp -dsimp -implicitDefEqProofs
  refine brW_of (fun h => ?_) (fun h => ?_) <;> simp only [decide_eq_true_eq, decide_eq_false_iff_not] at h
  · obtain ⟨j, rfl⟩ : ∃ j, i = j + 1 := ⟨i - 1, by omega⟩
    have hj : j < L.length := by omega
    have hjle : j ≤ L.length := by omega
    have hx := hL _ (List.getElem_mem hj)
    have hg : L.getD j 0 = L[j] := by simp [hj]
    have w1 : IntKind.i64.wrap (L[j] + 1) = L[j] + 1 := wrapI64 (by omega) (by omega)
    have w2 : IntKind.i64.wrap ((j : Int) - 1) = (j : Int) - 1 := wrapI64 (by omega) (by omega)
    have hji : ((j + 1 : Nat) : Int) - 1 = j := by omega
    rw [nextF, hg] at h4
    simp -dsimp -implicitDefEqProofs [hj, w1]
    refine wpLoop_st (fun (f : Nat) => ⟨tl [(0, .ref 0 1 0 L.length t), (1, .int .i64 n), (5, .int .i64 L.length), (6, .int .i64 j), (7, .int .i64 (L[j] + 1 + (6 - (f : Int))))], ⟨[some (flatA (insA L))]⟩⟩) (fun f => f ≤ 6 ∧ tryF n L j f (L[j] + 1 + (6 - (f : Int))) = tryF n L j 6 (L[j] + 1)) (fun f => f) 6 ⟨by omega, by simp⟩ (Sub.keep (by simp) (by simp [hsub]) (by simp)) ?_
    rintro f ⟨f6, hf⟩
    simp -dsimp -implicitDefEqProofs
    refine brW_of (fun h => ?_) (fun h => ?_) <;> simp only [decide_eq_true_eq, decide_eq_false_iff_not] at h
    · obtain ⟨g, rfl⟩ : ∃ g, f = g + 1 := ⟨f - 1, by omega⟩
      rw [tryF, if_pos h] at hf
      have hv5 : L[j] + 1 + (6 - ((g + 1 : Nat) : Int)) ≤ 4 := by omega
      have hv0 : 0 ≤ L[j] + 1 + (6 - ((g + 1 : Nat) : Int)) := by omega
      have hnx : L[j] + 1 + (6 - (g : Int)) = L[j] + 1 + (6 - ((g + 1 : Nat) : Int)) + 1 := by omega
      generalize L[j] + 1 + (6 - ((g + 1 : Nat) : Int)) = v at hf hv5 hv0 hnx h ⊢
      have hgt := gath_take L j hjle
      have hct := sp_containsI_eq (L.take j) v (by simp; omega)
      have wv : IntKind.i64.wrap (v + 1) = v + 1 := wrapI64 (by omega) (by omega)
      cases hin : inL (L.take j) v with
      | true =>
        rw [hin, if_pos rfl] at hf
        rw [hin] at hct
        simp -dsimp -implicitDefEqProofs [hjle, hgt, hct, wv]
        refine .mk g ⟨by omega, by rw [hnx]; exact hf⟩ (by omega) (Sub.keep (by simp) (by simp [hsub]) (by simp [wv, hnx]))
      | false =>
        rw [hin] at hf hct
        simp only [Bool.false_eq_true, if_false] at hf
        rw [← hf] at h4
        simp only at h4
        have hj1 : j + 1 ≤ L.length := hj
        have hs1 := set_in L j v hj
        have wj := wrapNat (i := j) (by omega)
        simp -dsimp -implicitDefEqProofs [hjle, hgt, hct, hj, hj1, hs1, wj]
        refine wpLoop_st (fun (q : Nat × List Int) => ⟨tl [(0, .ref 0 1 0 L.length t), (5, .int .i64 L.length), (8, .int .i64 q.1)], ⟨[some (flatA (insA q.2))]⟩⟩) (fun q => j + 1 ≤ q.1 ∧ q.1 ≤ L.length ∧ q.2.length = L.length ∧ (∀ x ∈ q.2, x ≤ 5 + (q.1 : Int)) ∧ fillF L.length (L.length - q.1) q.2 = fillF L.length (L.length - (j + 1)) (L.set j v)) (fun q => L.length - q.1) (j + 1, L.set j v) ⟨by omega, by omega, by simp, fun x hx => ?_, rfl⟩ (Sub.keep (by simp) (by simp [hsub]) (by simp [wj])) ?_
        · rcases List.mem_or_eq_of_mem_set hx with hx | rfl
          · have := hL x hx; omega
          · omega
        · rintro ⟨m, M⟩ ⟨m1, m2, m3, m4, m5⟩
          simp only at m1 m2 m3 m4 m5
          simp -dsimp -implicitDefEqProofs
          refine brW_of (fun h => ?_) (fun h => ?_) <;> simp only [decide_eq_true_eq, decide_eq_false_iff_not] at h
          · have hm : m < L.length := by omega
            have hmM : m < M.length := by omega
            have hmle : m ≤ L.length := by omega
            have hmleM : m ≤ M.length := by omega
            have hm1 : m + 1 ≤ M.length := by omega
            have wm := wrapNat (i := m) (by omega)
            have hgtm := gath_take M m hmleM
            obtain ⟨f', hf'⟩ : ∃ f', L.length - m = f' + 1 := ⟨L.length - m - 1, by omega⟩
            rw [hf', fillF, show L.length - (f' + 1) = m by omega, show f' = L.length - (m + 1) by omega] at m5
            have hMt : ∀ x ∈ M.take m, x ≤ 5 + (m : Int) := fun x hx => m4 x (List.mem_of_mem_take hx)
            simp -dsimp -implicitDefEqProofs
            refine wpLoop_st (fun (g : Nat) => ⟨tl [(0, .ref 0 1 0 L.length t), (5, .int .i64 L.length), (8, .int .i64 m), (9, .int .i64 (12 - (g : Int)))], ⟨[some (flatA (insA M))]⟩⟩) (fun g => g ≤ 12 ∧ freeF (M.take m) g (12 - (g : Int)) = freeF (M.take m) 12 0) (fun g => g) 12 ⟨by omega, by simp⟩ (Sub.keep (by simp) (by simp [hsub]) (by simp)) ?_
            rintro g ⟨g12, hg2⟩
            have hctm := sp_containsI_eq (M.take m) (12 - (g : Int)) (by simp; omega)
            cases hin : inL (M.take m) (12 - (g : Int)) with
            | true =>
              rw [hin] at hctm
              have hle := hMt _ (inL_of hin)
              obtain ⟨g', rfl⟩ : ∃ g', g = g' + 1 := ⟨g - 1, by omega⟩
              rw [freeF, hin, if_pos rfl] at hg2
              have hnx : (12 : Int) - (g' : Int) = 12 - ((g' + 1 : Nat) : Int) + 1 := by omega
              have wg : IntKind.i64.wrap (12 - ((g' + 1 : Nat) : Int) + 1) = 12 - ((g' + 1 : Nat) : Int) + 1 := wrapI64 (by omega) (by omega)
              generalize (12 : Int) - ((g' + 1 : Nat) : Int) = w at *
              simp -dsimp -implicitDefEqProofs [hmle, hmleM, hgtm, hctm, wg]
              exact .mk g' ⟨by omega, by rw [hnx]; exact hg2⟩ (by omega) (Sub.keep (by simp) (by simp [hsub]) (by simp [hnx, wg]))
            | false =>
              rw [hin] at hctm
              have hfr : freeF (M.take m) 12 0 = 12 - (g : Int) := by
                rw [← hg2]
                cases g with
                | zero => rfl
                | succ g => rw [freeF, hin]; simp
              have hle := freeF_le (B := 5 + (m : Int)) hMt 12 0 (by omega)
              rw [hfr] at m5 hle
              generalize (12 : Int) - (g : Int) = w at *
              have hs2 := set_in M m w hmM
              simp -dsimp -implicitDefEqProofs [hmle, hmleM, hgtm, hctm, hm, hmM, hm1, hs2, wm]
              refine .mk (m + 1, M.set m w) ⟨by simp only; omega, by simp only; omega, by simp [m3], fun x hx => ?_, m5⟩ (by simp only; omega) (Sub.keep (by simp) (by simp [hsub]) (by simp [wm]))
              rcases List.mem_or_eq_of_mem_set hx with hx | rfl
              · have := m4 x hx; simp only; omega
              · simp only; omega
          · have : m = L.length := by omega
            subst this
            rw [Nat.sub_self, fillF] at m5
            rw [← m5] at h4
            simp -dsimp -implicitDefEqProofs [← h4, hsub]
    · have hn0 : tryF n L j 6 (L[j] + 1) = none := by
        rw [← hf]
        cases f with
        | zero => rfl
        | succ g => rw [tryF, if_neg h]
      rw [hn0] at h4
      simp only at h4
      simp -dsimp -implicitDefEqProofs [w2]
      exact .mk j ⟨by omega, h4⟩ (by omega) (Sub.keep (by simp) (by simp [hsub]) (by simp [w2]))
  · have hi : i = 0 := by omega
    subst hi
    rw [nextF] at h4
    simp -dsimp -implicitDefEqProofs [← h4, hsub]
def nextN (n : Int) (L : List Int) : Option (List Int) := if (nextF n L L.length).2 = true then some (nextF n L L.length).1 else none
/-- All lists of different vertices. -/
def permL (n m : Nat) : List (List Int) := dfsL newM n m []
theorem permL_chain : ∀ n : Nat, n ≤ 5 → ∀ m : Nat, m ≤ n → chainB (nextN n) (permL n m) = true := by
  have : ∀ n : Nat, n < 6 → ∀ m : Nat, m < n + 1 → chainB (nextN n) (permL n m) = true := by decide +kernel
  exact fun n h m h' => this n (by omega) m (by omega)
theorem permL_first : ∀ n : Nat, n ≤ 5 → ∀ m : Nat, m ≤ n → (permL n m)[0]? = some (upTo m) := by
  have : ∀ n : Nat, n < 6 → ∀ m : Nat, m < n + 1 → (permL n m)[0]? = some (upTo m) := by decide +kernel
  exact fun n h m h' => this n (by omega) m (by omega)
theorem dfs_nodup {k : Nat} : ∀ {d : Nat} {now l : List Int}, now.Nodup → l ∈ dfsL newM k d now → l.Nodup
  | 0, now, l, hn, h => by rw [dfsL, List.mem_singleton] at h; rw [h]; exact hn
  | d + 1, now, l, hn, h => by
    rw [dfsL, List.mem_flatMap] at h
    obtain ⟨x, hx0, hx⟩ := h
    split at hx
    · rename_i hf
      refine dfs_nodup (nodup_snoc hn ?_) hx
      unfold newM at hf
      simpa using hf
    · cases hx
theorem permL_dist {n m : Nat} (hn : n ≤ 5) (hm : m ≤ n) {L : List Int} (h : L ∈ permL n m) : distL L ∧ L.length = m ∧ ∀ x ∈ L, 0 ≤ x ∧ x < (n : Int) := by
  have h1 : L.length = m := by have := dfsL_len h; simpa using this
  have h2 : ∀ x ∈ L, 0 ≤ x ∧ x < (n : Int) := dfsL_range (fun x hx => by cases hx) h
  exact ⟨⟨dfs_nodup List.nodup_nil h, by omega, fun x hx => by have := h2 x hx; omega⟩, h1, h2⟩
end Go.Proofs.YtkgodhdpcomjbaaAi
end

section
/- Contracts: the reference's lists of parts, one behind another; maps that fit. -/
namespace Go.Proofs.YtkgodhdpcomjbaaAi
open Go Go.RowKit
set_option linter.unusedVariables false
set_option linter.unusedSimpArgs false
set_option maxRecDepth 20000

/-! ### the next list -/
def odo (k : Int) : Nat → List Int → List Int × Bool
  | 0, L => (L, false)
  | i + 1, L => if L.getD i 0 + 1 < k then (L.set i (L.getD i 0 + 1), true) else odo k i (L.set i 0)
theorem odo_len (k : Int) : ∀ (i : Nat) (L : List Int), (odo k i L).1.length = L.length
  | 0, L => rfl
  | i + 1, L => by
    rw [odo]
    split
    · simp
    · rw [odo_len k i]; simp
noncomputable def sp_l07Map : List (Option (List AV)) → List AV → Option (AV × List (Option (List AV))) := pv (pf (ι := (Int) × (List Int) × (Cp)) (α := AV × List (Option (List AV))) (fun ⟨k, L, t⟩ => L.length ≤ 100 ∧ (0 ≤ k ∧ k ≤ 1000) ∧ (∀ x ∈ L, 0 ≤ x ∧ x ≤ 1000)) (fun i => .agg (((fun ⟨k, L, t⟩ => [some (flatA (insA L))] : (Int) × (List Int) × (Cp) → List (Option (List AV))) i).map enO) :: (fun ⟨k, L, t⟩ => [.ref 0 1 0 L.length t, .int .i64 k] : (Int) × (List Int) × (Cp) → List AV) i) (fun ⟨k, L, t⟩ => (.bool (odo k L.length L).2, [some (flatA (insA (odo k L.length L).1))])))
theorem sp_l07Map_eq (k : Int) (L : List Int) (t : Cp) (h : L.length ≤ 100 ∧ (0 ≤ k ∧ k ≤ 1000) ∧ (∀ x ∈ L, 0 ≤ x ∧ x ≤ 1000)) : sp_l07Map [some (flatA (insA L))] [.ref 0 1 0 L.length t, .int .i64 k] = some (.bool (odo k L.length L).2, [some (flatA (insA (odo k L.length L).1))]) := by
  unfold sp_l07Map pv
  exact pf_eq (ι := (Int) × (List Int) × (Cp)) (α := AV × List (Option (List AV))) (k, L, t) h (by rintro ⟨k', L', t'⟩ _ e; simp_all [enO, Int.natCast_inj])
theorem v_spec_l07Map : QV PP 114 sp_l07Map := by
  refine QV_pf fun i h => ?_
  obtain ⟨k, L, t⟩ := i
  replace h : L.length ≤ 100 ∧ (0 ≤ k ∧ k ≤ 1000) ∧ (∀ x ∈ L, 0 ≤ x ∧ x ≤ 1000) := h
  refine H_code Quiet.nil hmix k_spec_l07Map rfl (fun b => b) (by simp [AHeap.n]) (fun _ _ => rfl) (by rfl) (by first | rfl | simp) ?_
  show wpc _ PP _ c_spec_l07Map (initSt [.ref 0 1 0 L.length t, .int .i64 k] ⟨[some (flatA (insA L))]⟩) (endH (fun b => b) r_spec_l07Map (.bool (odo k L.length L).2) [some (flatA (insA (odo k L.length L).1))])
  obtain ⟨hl, hk, hL⟩ := h
  have w0 : IntKind.i64.wrap ((L.length : Int) - 1) = (L.length : Int) - 1 := wrapI64 (by omega) (by omega)
  simp -dsimp -implicitDefEqProofs [c_spec_l07Map, r_spec_l07Map, w0]
  refine wpLoop_st (fun (q : Nat × List Int) => ⟨tl [(0, .ref 0 1 0 L.length t), (1, .int .i64 k), (5, .int .i64 ((q.1 : Int) - 1))], ⟨[some (flatA (insA q.2))]⟩⟩) (fun q => q.1 ≤ L.length ∧ q.2.length = L.length ∧ (∀ x ∈ q.2, 0 ≤ x ∧ x ≤ 1000) ∧ odo k q.1 q.2 = odo k L.length L) (fun q => q.1) (L.length, L) ⟨Nat.le_refl _, rfl, hL, rfl⟩ (Sub.keep (by simp) (by simp [hsub]) (by simp)) ?_
  rintro ⟨i, M⟩ ⟨h1, h2, h3, h4⟩
  simp only at h1 h2 h3 h4
  simp -dsimp -implicitDefEqProofs
  refine brW_of (fun h => ?_) (fun h => ?_) <;> simp only [decide_eq_true_eq, decide_eq_false_iff_not] at h
  · obtain ⟨j, rfl⟩ : ∃ j, i = j + 1 := ⟨i - 1, by omega⟩
    have hj : j < M.length := by omega
    have hj' : j < L.length := by omega
    have hj1 : j + 1 ≤ M.length := hj
    have hx := h3 _ (List.getElem_mem hj)
    have hg : M.getD j 0 = M[j] := by simp [hj]
    have w1 : IntKind.i64.wrap (M[j] + 1) = M[j] + 1 := wrapI64 (by omega) (by omega)
    have w2 : IntKind.i64.wrap ((j : Int) - 1) = (j : Int) - 1 := wrapI64 (by omega) (by omega)
    rw [odo, hg] at h4
    have hs1 := set_in M j (M[j] + 1) hj
    have hs2 := set_in M j 0 hj
    by_cases hc : M[j] + 1 < k
    · rw [if_pos hc] at h4
      simp -dsimp -implicitDefEqProofs [hj, hj', hj1, w1, hc, hs1, ← h4, hsub]
    · rw [if_neg hc] at h4
      simp -dsimp -implicitDefEqProofs [hj, hj', hj1, w1, hc, hs2, w2]
      refine .mk (j, M.set j 0) ⟨by simp only; omega, by simp [h2], fun x hx => ?_, h4⟩ (by simp only; omega) (Sub.keep (by simp) (by simp [hsub]) (by simp [w2]))
      rcases List.mem_or_eq_of_mem_set hx with hx | rfl
      · exact h3 x hx
      · omega
  · have hi : i = 0 := by omega
    subst hi
    rw [odo] at h4
    simp -dsimp -implicitDefEqProofs [← h4, hsub]
def odoN (k : Int) (L : List Int) : Option (List Int) := if (odo k L.length L).2 = true then some (odo k L.length L).1 else none
/-- All lists. -/
def allL (k m : Nat) : List (List Int) := dfsL (fun _ _ => true) k m []
theorem allL_chain : ∀ k : Nat, 1 ≤ k → k ≤ 4 → ∀ m, m ≤ 5 → chainB (odoN k) (allL k m) = true := by
  have : ∀ k : Nat, k < 5 → ∀ m : Nat, m < 6 → (k == 0 || chainB (odoN k) (allL k m)) = true := by decide +kernel
  intro k h1 h2 m h3
  have := this k (by omega) m (by omega)
  have hk : (k == 0) = false := by simp; omega
  rw [hk, Bool.false_or] at this
  exact this
theorem allL_first : ∀ k : Nat, 1 ≤ k → k ≤ 4 → ∀ m, m ≤ 5 → (allL k m)[0]? = some (List.replicate m 0) := by
  have : ∀ k : Nat, k < 5 → ∀ m : Nat, m < 6 → (k == 0 || decide ((allL k m)[0]? = some (List.replicate m 0))) = true := by decide +kernel
  intro k h1 h2 m h3
  have := this k (by omega) m (by omega)
  have hk : (k == 0) = false := by simp; omega
  rw [hk, Bool.false_or] at this
  exact of_decide_eq_true this
theorem allL_len {k m : Nat} {L : List Int} (h : L ∈ allL k m) : L.length = m := by
  have := dfsL_len h
  simpa using this
theorem allL_range {k m : Nat} {L : List Int} (h : L ∈ allL k m) : ∀ x ∈ L, 0 ≤ x ∧ x < k := dfsL_range (fun x hx => by cases hx) h

/-! ### maps that fit -/
def rowB (f : Nat → Nat → Bool) (j : Nat) : Nat → Bool
  | 0 => true
  | i + 1 => rowB f j i && f i j
def pairsB (f : Nat → Nat → Bool) : Nat → Bool
  | 0 => true
  | j + 1 => pairsB f j && rowB f j j
theorem fitI_row (fitB : Int → Int → Bool → Bool) (e l : Int) (L : List Int) (j : Nat) (hj : j < L.length) : ∀ i, i ≤ j → fitI fitB e l (L.take j) L[j] i = rowB (fun i j => fitB i j (joinB e l (atI L i) (atI L j))) j i
  | 0, _ => rfl
  | i + 1, h => by
    rw [fitI, rowB, fitI_row fitB e l L j hj i (by omega)]
    have h1 : (L.take j).length = j := by simp; omega
    have h2 : atI (L.take j) i = atI L i := by simp [atI, List.getElem?_take, show i < j by omega]
    rw [h1, h2, atI_get hj]
theorem fits_pairs (fitB : Int → Int → Bool → Bool) (e l : Int) (L : List Int) : ∀ j, j ≤ L.length → fitsB (fitM fitB e l) j L = pairsB (fun i j => fitB i j (joinB e l (atI L i) (atI L j))) j
  | 0, _ => rfl
  | j + 1, h => by
    have hj : j < L.length := by omega
    rw [fitsB, pairsB, fits_pairs fitB e l L j (by omega), List.getElem?_eq_getElem hj]
    simp only [fitM]
    rw [fitI_row fitB e l L j hj _ (by simp; omega)]
    congr 2
    simp; omega
theorem rowB_false {f : Nat → Nat → Bool} {j : Nat} : ∀ {i : Nat} (a : Nat), a < i → f a j = false → rowB f j i = false
  | i + 1, a, h, hf => by
    rw [rowB]
    by_cases ha : a = i
    · subst ha; rw [hf, Bool.and_false]
    · rw [rowB_false a (by omega) hf, Bool.false_and]
theorem pairsB_false {f : Nat → Nat → Bool} : ∀ {m : Nat} (a b : Nat), a < b → b < m → f a b = false → pairsB f m = false
  | m + 1, a, b, h, h', hf => by
    rw [pairsB]
    by_cases hb : b = m
    · subst hb; rw [rowB_false a h hf, Bool.and_false]
    · rw [pairsB_false a b h (by omega) hf, Bool.false_and]
end Go.Proofs.YtkgodhdpcomjbaaAi
end

section
/- Contracts: maps that fit, the chance of a graph, as the reference makes them. -/
namespace Go.Proofs.YtkgodhdpcomjbaaAi
open Go Go.RowKit
set_option linter.unusedVariables false
set_option linter.unusedSimpArgs false
set_option maxRecDepth 20000

def fitS (just edge joined : Bool) : Bool := !(edge && !joined || just && joined && !edge)
def fitL (just : Bool) (he e l : Int) (L : List Int) (m : Nat) : Bool := pairsB (fun i j => fitS just (hasB he i j) (joinB e l (atI L i) (atI L j))) m
noncomputable def sp_fitsP : List (Option (List AV)) → List AV → Option (AV × List (Option (List AV))) := pv (pf (ι := (Int) × (Int) × (Int) × (List Fr) × (Nat) × (Int) × (List Int) × (Bool) × (Cp)) (α := AV × List (Option (List AV))) (fun ⟨n, e, l, ps, m, he, L, just, t⟩ => ((0 ≤ e ∧ e ≤ 4294967295) ∧ (0 ≤ l ∧ l ≤ 4294967295)) ∧ (m ≤ 5 ∧ 0 ≤ he ∧ he ≤ 4294967295) ∧ allPart L ∧ L.length = m) (fun i => .agg (((fun ⟨n, e, l, ps, m, he, L, just, t⟩ => [some [.int .i64 n, .int .u32 e, .int .u32 l, .sl (frsA ps) false], some (flatA (insA L))] : (Int) × (Int) × (Int) × (List Fr) × (Nat) × (Int) × (List Int) × (Bool) × (Cp) → List (Option (List AV))) i).map enO) :: (fun ⟨n, e, l, ps, m, he, L, just, t⟩ => [.ptr 0 0, .agg [.int .i64 m, .int .u32 he], .ref 1 1 0 m t, .bool just] : (Int) × (Int) × (Int) × (List Fr) × (Nat) × (Int) × (List Int) × (Bool) × (Cp) → List AV) i) (fun ⟨n, e, l, ps, m, he, L, just, t⟩ => (.bool (fitL just he e l L m), [some [.int .i64 n, .int .u32 e, .int .u32 l, .sl (frsA ps) false], some (flatA (insA L))])))
theorem sp_fitsP_eq (n e l : Int) (ps : List Fr) (m : Nat) (he : Int) (L : List Int) (just : Bool) (t : Cp) (h : ((0 ≤ e ∧ e ≤ 4294967295) ∧ (0 ≤ l ∧ l ≤ 4294967295)) ∧ (m ≤ 5 ∧ 0 ≤ he ∧ he ≤ 4294967295) ∧ allPart L ∧ L.length = m) : sp_fitsP [some [.int .i64 n, .int .u32 e, .int .u32 l, .sl (frsA ps) false], some (flatA (insA L))] [.ptr 0 0, .agg [.int .i64 m, .int .u32 he], .ref 1 1 0 m t, .bool just] = some (.bool (fitL just he e l L m), [some [.int .i64 n, .int .u32 e, .int .u32 l, .sl (frsA ps) false], some (flatA (insA L))]) := by
  unfold sp_fitsP pv
  exact pf_eq (ι := (Int) × (Int) × (Int) × (List Fr) × (Nat) × (Int) × (List Int) × (Bool) × (Cp)) (α := AV × List (Option (List AV))) (n, e, l, ps, m, he, L, just, t) h (by rintro ⟨n', e', l', ps', m', he', L', just', t'⟩ _ e; simp_all [enO, Int.natCast_inj])
set_option maxHeartbeats 1000000 in
theorem v_spec_l07Fits : QV PP 137 sp_fitsP := by
  refine QV_pf fun i h => ?_
  obtain ⟨n, e, l, ps, m, he, L, just, t⟩ := i
  replace h : ((0 ≤ e ∧ e ≤ 4294967295) ∧ (0 ≤ l ∧ l ≤ 4294967295)) ∧ (m ≤ 5 ∧ 0 ≤ he ∧ he ≤ 4294967295) ∧ allPart L ∧ L.length = m := h
  refine H_code (Quiet.q1 q_spec_l01Joined (Quiet.e1 v_spec_l07Joined.toE Quiet.nil)) hmix k_spec_l07Fits rfl (fun b => b) (by simp [AHeap.n]) (fun _ _ => rfl) (by rfl) (by first | rfl | simp) ?_
  show wpc _ PP _ c_spec_l07Fits (initSt [.ptr 0 0, .agg [.int .i64 m, .int .u32 he], .ref 1 1 0 m t, .bool just] ⟨[some [.int .i64 n, .int .u32 e, .int .u32 l, .sl (frsA ps) false], some (flatA (insA L))]⟩) (endH (fun b => b) r_spec_l07Fits (.bool (fitL just he e l L m)) [some [.int .i64 n, .int .u32 e, .int .u32 l, .sl (frsA ps) false], some (flatA (insA L))])
  obtain ⟨hel, ⟨hm, hhe⟩, hpart, hlen⟩ := h
  simp -dsimp -implicitDefEqProofs [c_spec_l07Fits, r_spec_l07Fits]
  generalize hf : (fun (i j : Nat) => fitS just (hasB he i j) (joinB e l (atI L i) (atI L j))) = f
  have hfv : fitL just he e l L m = pairsB f m := by rw [fitL, hf]
  rw [hfv]
  refine wpLoop_st (fun (j : Nat) => ⟨tl [(0, .ptr 0 0), (2, .ref 1 1 0 m t), (3, .bool just), (5, .ptr 2 0), (9, .int .i64 j)], ⟨[some [.int .i64 n, .int .u32 e, .int .u32 l, .sl (frsA ps) false], some (flatA (insA L)), some [.int .i64 m, .int .u32 he]]⟩⟩) (fun j => 1 ≤ j ∧ j ≤ max m 1 ∧ pairsB f j = true) (fun j => max m 1 - j) 1 ⟨by omega, by omega, by simp [pairsB, rowB]⟩ (Sub.keep (by simp) (by simp [hsub]) (by simp)) ?_
  rintro j ⟨j1, j2, j3⟩
  simp -dsimp -implicitDefEqProofs
  refine brW_of (fun h => ?_) (fun h => ?_) <;> simp only [decide_eq_true_eq, decide_eq_false_iff_not] at h
  · have hj : j < m := by omega
    have hwj := wrapNat (i := j) (by omega)
    simp -dsimp -implicitDefEqProofs
    refine wpLoop_st (fun (i : Nat) => ⟨tl [(0, .ptr 0 0), (2, .ref 1 1 0 m t), (3, .bool just), (5, .ptr 2 0), (9, .int .i64 j), (10, .int .i64 i)], ⟨[some [.int .i64 n, .int .u32 e, .int .u32 l, .sl (frsA ps) false], some (flatA (insA L)), some [.int .i64 m, .int .u32 he]]⟩⟩) (fun i => i ≤ j ∧ rowB f j i = true) (fun i => j - i) 0 ⟨by omega, rfl⟩ (Sub.keep (by simp) (by simp [hsub]) (by simp)) ?_
    rintro i ⟨i1, i2⟩
    simp -dsimp -implicitDefEqProofs
    refine brW_of (fun h => ?_) (fun h => ?_) <;> simp only [decide_eq_true_eq, decide_eq_false_iff_not] at h
    · have hwi := wrapNat (i := i) (by omega)
      have hi : i < m := by omega
      have hiL : i < L.length := by omega
      have hjL : j < L.length := by omega
      have hq := sp_l01Joined_eq m he i j ⟨hhe, by omega, by omega⟩
      have hij : (i : Int) ≠ (j : Int) := by omega
      have hq2 : joinedB he i j = hasB he i j := by simp only [joinedB, hij, ne_eq, not_false_eq_true, decide_true, Bool.true_and]
      rw [hq2] at hq
      have hJ := sp_joinP_eq n e l ps (atI L i) (atI L j) ⟨hel, hpart.at hiL, hpart.at hjL⟩
      have hfij : f i j = fitS just (hasB he i j) (joinB e l (atI L i) (atI L j)) := by rw [← hf]
      generalize hasB he i j = E at hq hfij
      generalize joinB e l (atI L i) (atI L j) = J at hJ hfij
      cases hv : f i j with
      | false =>
        have hres := pairsB_false i j h hj hv
        rw [hv] at hfij
        cases just <;> cases E <;> cases J <;> simp [fitS] at hfij <;> simp -dsimp -implicitDefEqProofs [hi, hj, hiL, hjL, atI_get hiL, atI_get hjL, hq, hJ, hres, hsub]
      | true =>
        rw [hv] at hfij
        have hnext : rowB f j (i + 1) = true := by rw [rowB, i2, hv]; rfl
        cases just <;> cases E <;> cases J <;> simp [fitS] at hfij <;> simp -dsimp -implicitDefEqProofs [hi, hj, hiL, hjL, atI_get hiL, atI_get hjL, hq, hJ, hwi] <;> exact .mk (i + 1) ⟨by omega, hnext⟩ (by omega) (Sub.keep (by simp) (by simp [hsub]) (by simp [hwi]))
    · have : i = j := by omega
      subst this
      simp -dsimp -implicitDefEqProofs [hwj]
      exact .mk (i + 1) ⟨by omega, by omega, by rw [pairsB, j3, i2]; rfl⟩ (by omega) (Sub.keep (by simp) (by simp [hsub]) (by simp [hwj]))
  · have hr : pairsB f m = true := by
      rcases Nat.eq_zero_or_pos m with rfl | hm0
      · rfl
      · have : j = m := by omega
        subst this; exact j3
    simp -dsimp -implicitDefEqProofs [hr, hsub]

/-! ### the chance of a graph -/
def wAt (ps : List Fr) (i : Int) : Fr := ps.getD i.toNat ⟨0, 1⟩
theorem wAt_in {ps : List Fr} (h : allIn ps) (i : Int) : frIn (wAt ps i).p (wAt ps i).q := by
  unfold wAt
  by_cases hi : i.toNat < ps.length
  · rw [List.getD_eq_getElem?_getD, List.getElem?_eq_getElem hi]; exact h.get hi
  · rw [List.getD_eq_getElem?_getD, List.getElem?_eq_none (by omega)]; exact zero_in
def prodO (ps : List Fr) : Fr → List Int → Option Fr
  | x, [] => some x
  | x, i :: r => (mul2 x (wAt ps i)).bind fun y => prodO ps y r
theorem prodO_in {ps : List Fr} (h : allIn ps) : ∀ {L : List Int} {x y : Fr}, frIn x.p x.q → prodO ps x L = some y → frIn y.p y.q
  | [], x, y, hx, e => by rw [prodO] at e; obtain rfl := Option.some.inj e; exact hx
  | i :: r, x, y, hx, e => by
    rw [prodO] at e
    obtain ⟨z, hz, e⟩ := Option.bind_eq_some_iff.1 e
    exact prodO_in h (mul2_some hx (wAt_in h i) hz) e
def chF (fit : List Int → Bool) (ps : List Fr) : Fr → List (List Int) → Option Fr
  | a, [] => some a
  | a, L :: r => if fit L = true then (prodO ps ⟨1, 1⟩ L).bind fun w => (add2 a w).bind fun s => chF fit ps s r else chF fit ps a r
theorem one_in : frIn 1 1 := by unfold frIn; decide
def chanceO (n e l : Int) (ps : List Fr) (m : Nat) (he : Int) : Option Fr := chF (fun L => fitL true he e l L m) ps ⟨0, 1⟩ (allL n.toNat m)
noncomputable def sp_chanceS : List (Option (List AV)) → List AV → Option (AV × List (Option (List AV))) := pv (pf (ι := (Int) × (Int) × (Int) × (List Fr) × (Nat) × (Int)) (α := AV × List (Option (List AV))) (fun ⟨n, e, l, ps, m, he⟩ => ((0 ≤ e ∧ e ≤ 4294967295) ∧ (0 ≤ l ∧ l ≤ 4294967295)) ∧ (m ≤ 5 ∧ 0 ≤ he ∧ he ≤ 4294967295) ∧ (1 ≤ n ∧ n ≤ 4) ∧ (ps.length : Int) = n ∧ allIn ps) (fun i => .agg (((fun ⟨n, e, l, ps, m, he⟩ => [some [.int .i64 n, .int .u32 e, .int .u32 l, .sl (frsA ps) false]] : (Int) × (Int) × (Int) × (List Fr) × (Nat) × (Int) → List (Option (List AV))) i).map enO) :: (fun ⟨n, e, l, ps, m, he⟩ => [.ptr 0 0, .agg [.int .i64 m, .int .u32 he]] : (Int) × (Int) × (Int) × (List Fr) × (Nat) × (Int) → List AV) i) (fun ⟨n, e, l, ps, m, he⟩ => (frO (chanceO n e l ps m he), [some [.int .i64 n, .int .u32 e, .int .u32 l, .sl (frsA ps) false]])))
theorem sp_chanceS_eq (n e l : Int) (ps : List Fr) (m : Nat) (he : Int) (h : ((0 ≤ e ∧ e ≤ 4294967295) ∧ (0 ≤ l ∧ l ≤ 4294967295)) ∧ (m ≤ 5 ∧ 0 ≤ he ∧ he ≤ 4294967295) ∧ (1 ≤ n ∧ n ≤ 4) ∧ (ps.length : Int) = n ∧ allIn ps) : sp_chanceS [some [.int .i64 n, .int .u32 e, .int .u32 l, .sl (frsA ps) false]] [.ptr 0 0, .agg [.int .i64 m, .int .u32 he]] = some (frO (chanceO n e l ps m he), [some [.int .i64 n, .int .u32 e, .int .u32 l, .sl (frsA ps) false]]) := by
  unfold sp_chanceS pv
  exact pf_eq (ι := (Int) × (Int) × (Int) × (List Fr) × (Nat) × (Int)) (α := AV × List (Option (List AV))) (n, e, l, ps, m, he) h (by rintro ⟨n', e', l', ps', m', he'⟩ _ e; simp_all [enO, Int.natCast_inj])
set_option maxHeartbeats 1000000 in
theorem v_spec_l07Chance : QV PP 69 sp_chanceS := by
  refine QV_pf fun i h => ?_
  obtain ⟨n, e, l, ps, m, he⟩ := i
  replace h : ((0 ≤ e ∧ e ≤ 4294967295) ∧ (0 ≤ l ∧ l ≤ 4294967295)) ∧ (m ≤ 5 ∧ 0 ≤ he ∧ he ≤ 4294967295) ∧ (1 ≤ n ∧ n ≤ 4) ∧ (ps.length : Int) = n ∧ allIn ps := h
  refine H_code (Quiet.q1 q_spec_l02Zero (Quiet.q1 q_spec_l02One (Quiet.q1 q_spec_l02Mul (Quiet.q1 q_spec_l02Add (Quiet.e1 v_spec_l07Fits.toE (Quiet.e1 v_spec_l07Map.toE Quiet.nil)))))) hmix k_spec_l07Chance rfl (fun b => b) (by simp [AHeap.n]) (fun _ _ => rfl) (by rfl) (by first | rfl | simp) ?_
  show wpc _ PP _ c_spec_l07Chance (initSt [.ptr 0 0, .agg [.int .i64 m, .int .u32 he]] ⟨[some [.int .i64 n, .int .u32 e, .int .u32 l, .sl (frsA ps) false]]⟩) (endH (fun b => b) r_spec_l07Chance (frO (chanceO n e l ps m he)) [some [.int .i64 n, .int .u32 e, .int .u32 l, .sl (frsA ps) false]])
  obtain ⟨hel, ⟨hm, hhe⟩, hn, hps, hin⟩ := h
  obtain ⟨k, rfl⟩ := Int.eq_ofNat_of_zero_le (show 0 ≤ n by omega)
  have hch := allL_chain k (by omega) (by omega) m hm
  have hfi := allL_first k (by omega) (by omega) m hm
  have hmem : ∀ (i : Nat) (L : List Int), (allL k m)[i]? = some L → L.length = m ∧ ∀ x ∈ L, 0 ≤ x ∧ x < (k : Int) := fun i L h => ⟨allL_len (List.mem_of_getElem? h), allL_range (List.mem_of_getElem? h)⟩
  have hco : chanceO k e l ps m he = chF (fun L => fitL true he e l L m) ps ⟨0, 1⟩ (allL k m) := by rw [chanceO]; rfl
  rw [hco]
  clear hco
  generalize allL k m = AL at hch hfi hmem ⊢
  have hm9 : (m : Int) * 9 ≤ (mostBytes : Int) := by simp only [mostBytes]; omega
  have hAL : 0 < AL.length := by
    rcases Nat.eq_zero_or_pos AL.length with h0 | h0
    · rw [List.getElem?_eq_none (by omega)] at hfi; cases hfi
    · exact h0
  simp -dsimp -implicitDefEqProofs [c_spec_l07Chance, r_spec_l07Chance, hm9, news_in1]
  refine wpLoop_st (fun (q : Nat × List Int × Fr) => ⟨tl [(0, .ptr 0 0), (3, .ptr 1 0), (4, .ptr 2 0), (6, .ptr 3 0), (7, .ref 4 1 0 m .tight), (8, .bool (decide (q.1 < AL.length)))], ⟨[some [.int .i64 k, .int .u32 e, .int .u32 l, .sl (frsA ps) false], some [.int .i64 m, .int .u32 he], some [.int .i64 0, .int .i64 0], some [.int .i64 q.2.2.p, .int .i64 q.2.2.q], some (flatA (insA q.2.1))]⟩⟩)
    (fun q => q.1 ≤ AL.length ∧ q.2.1.length = m ∧ (q.1 < AL.length → AL[q.1]? = some q.2.1) ∧ frIn q.2.2.p q.2.2.q ∧ chF (fun L => fitL true he e l L m) ps q.2.2 (AL.drop q.1) = chF (fun L => fitL true he e l L m) ps ⟨0, 1⟩ AL)
    (fun q => AL.length - q.1) (0, List.replicate m 0, ⟨0, 1⟩) ⟨by omega, by simp, fun _ => hfi, zero_in, by simp⟩ (Sub.keep (by simp) (by simp [hsub]) (by simp [hAL])) ?_
  rintro ⟨i, L, a⟩ ⟨h1, h2, h3, h4, h5⟩
  simp only at h1 h2 h3 h4 h5
  by_cases hi : i < AL.length
  · have hL := h3 hi
    obtain ⟨_, hr⟩ := hmem i L hL
    have hpart : allPart L := fun x hx => by have := hr x hx; omega
    have hfit := sp_fitsP_eq k e l ps m he L true .tight ⟨hel, ⟨hm, hhe⟩, hpart, h2⟩
    have hmap := sp_l07Map_eq k L .tight ⟨by omega, by omega, fun x hx => by have := hr x hx; omega⟩
    rw [h2] at hmap
    have hnx := chainB_get hch i L hL
    have hod : (odo k m L).2 = decide (i + 1 < AL.length) ∧ (i + 1 < AL.length → AL[i + 1]? = some (odo k m L).1) := by
      unfold odoN at hnx
      rw [h2] at hnx
      cases ho : (odo k m L).2 with
      | true =>
        rw [ho, if_pos rfl] at hnx
        have := (List.getElem?_eq_some_iff.1 hnx.symm).1
        exact ⟨by simp [this], fun _ => hnx.symm⟩
      | false =>
        rw [ho] at hnx
        simp only [Bool.false_eq_true, if_false] at hnx
        have : ¬ i + 1 < AL.length := fun hlt => by rw [List.getElem?_eq_getElem hlt] at hnx; cases hnx
        exact ⟨by simp [this], fun h => absurd h this⟩
    have hod1 := hod.1
    have hlen2 : (odo k m L).1.length = m := by rw [odo_len]; exact h2
    have hL0 : AL[i] = L := by rw [List.getElem?_eq_getElem hi] at hL; exact Option.some.inj hL
    rw [drop_cons hi, hL0, chF] at h5
    cases hv : fitL true he e l L m with
    | false =>
      rw [hv] at hfit h5
      simp only [Bool.false_eq_true, if_false] at h5
      simp -dsimp -implicitDefEqProofs [hi, hfit, hmap, hod1]
      exact .mk (i + 1, (odo k m L).1, a) ⟨by simp only; omega, hlen2, hod.2, h4, h5⟩ (by simp only; omega) (Sub.keep (by simp) (by simp [hsub]) (by simp))
    | true =>
      rw [hv] at hfit h5
      simp only [if_true] at h5
      simp -dsimp -implicitDefEqProofs [hi, hfit]
      refine wpLoop_st (fun (c : Nat × Fr) => ⟨tl [(0, .ptr 0 0), (3, .ptr 1 0), (4, .ptr 2 0), (6, .ptr 3 0), (7, .ref 4 1 0 m .tight), (9, .ptr 5 0), (10, .int .i64 c.1)], ⟨[some [.int .i64 k, .int .u32 e, .int .u32 l, .sl (frsA ps) false], some [.int .i64 m, .int .u32 he], some [.int .i64 0, .int .i64 0], some [.int .i64 a.p, .int .i64 a.q], some (flatA (insA L)), some [.int .i64 c.2.p, .int .i64 c.2.q]]⟩⟩)
        (fun c => c.1 ≤ m ∧ frIn c.2.p c.2.q ∧ prodO ps c.2 (L.drop c.1) = prodO ps ⟨1, 1⟩ L) (fun c => m - c.1) (0, ⟨1, 1⟩) ⟨by omega, one_in, by simp⟩ (Sub.keep (by simp) (by simp [hsub]) (by simp)) ?_
      rintro ⟨c, x⟩ ⟨c1, c2, c3⟩
      simp only at c1 c2 c3
      simp -dsimp -implicitDefEqProofs
      refine brW_of (fun h => ?_) (fun h => ?_) <;> simp only [decide_eq_true_eq, decide_eq_false_iff_not] at h
      · have hc : c < L.length := by omega
        have hcm : c < m := by omega
        have hwc := wrapNat (i := c) (by omega)
        have hx := hr _ (List.getElem_mem hc)
        obtain ⟨y, hy⟩ := Int.eq_ofNat_of_zero_le hx.1
        have hyp : y < ps.length := by omega
        have hw : wAt ps L[c] = ps[y] := by simp [wAt, hy, hyp]
        have hm1 := sp_l02Mul_eq x.p x.q ps[y].p ps[y].q ⟨c2, hin.get hyp⟩
        rw [drop_cons hc, prodO, hw] at c3
        unfold mul2 at c3
        cases hmu : mulO x.p x.q ps[y].p ps[y].q with
        | none =>
          rw [hmu] at hm1 c3
          simp only [Option.bind_none] at c3
          rw [← c3] at h5
          simp only [Option.bind_none] at h5
          simp -dsimp -implicitDefEqProofs [hc, hcm, hy, hyp, hm1, frO, ← h5, hsub]
        | some z =>
          rw [hmu] at hm1 c3
          simp only [Option.bind_some] at c3
          have hz := mul2_some (x := x) (y := ps[y]) c2 (hin.get hyp) hmu
          simp -dsimp -implicitDefEqProofs [hc, hcm, hy, hyp, hm1, frO, hwc]
          exact .mk (c + 1, z) ⟨by simp only; omega, hz, c3⟩ (by simp only; omega) (Sub.keep (by simp) (by simp [hsub]) (by simp [hwc]))
      · have hc : c = m := by omega
        subst hc
        rw [drop_end (by omega), prodO] at c3
        rw [← c3] at h5
        simp only [Option.bind_some] at h5
        have ha1 := sp_l02Add_eq a.p a.q x.p x.q ⟨h4, c2⟩
        unfold add2 at h5
        cases hadd : addO a.p a.q x.p x.q with
        | none =>
          rw [hadd] at ha1 h5
          simp only [Option.bind_none] at h5
          simp -dsimp -implicitDefEqProofs [ha1, frO, ← h5, hsub]
        | some s =>
          rw [hadd] at ha1 h5
          simp only [Option.bind_some] at h5
          have hs := add2_some (x := a) (y := x) h4 c2 hadd
          simp -dsimp -implicitDefEqProofs [ha1, frO, hmap, hod1]
          exact .mk (i + 1, (odo k c L).1, s) ⟨by simp only; omega, hlen2, hod.2, hs, h5⟩ (by simp only; omega) (Sub.keep (by simp) (by simp [hsub]) (by simp))
  · have : i = AL.length := by omega
    subst this
    rw [drop_end hi, chF] at h5
    simp -dsimp -implicitDefEqProofs [hi, ← h5, frO, hsub]
end Go.Proofs.YtkgodhdpcomjbaaAi
end

section
/- Contracts: graphs with so many vertices in each part, as the reference makes them. -/
namespace Go.Proofs.YtkgodhdpcomjbaaAi
open Go Go.RowKit
set_option linter.unusedVariables false
set_option linter.unusedSimpArgs false
set_option maxRecDepth 20000

set_option maxHeartbeats 1000000 in
theorem q_spec_BlowUp : QP PP 25 sp_blowP := by
  refine QP_pf (fun i h => ?_) fun i h => ?_
  · obtain ⟨n, e, l, ps, zs⟩ := i; exact ⟨by first | rfl | simp, by first | rfl | simp⟩
  obtain ⟨n, e, l, ps, zs⟩ := i
  replace h : ((0 ≤ e ∧ e ≤ 4294967295) ∧ (0 ≤ l ∧ l ≤ 4294967295)) ∧ ps.length ≤ maxLen ∧ zs.length ≤ 1048576 := h
  refine P_code (Quiet.q1 q_spec_l00In (Quiet.q1 q_spec_l01Bit (Quiet.e1 m_spec_l07Ok.toE (Quiet.e1 v_spec_l07Joined.toE Quiet.nil)))) hmix k_spec_BlowUp rfl ?_ ?_
  · first | rfl | simp
  show wpc 0 PP _ c_spec_BlowUp (initSt [.agg [.int .i64 n, .int .u32 e, .int .u32 l, .sl (frsA ps) false], .sl (insA zs) false] .nil) (endP r_spec_BlowUp (blowR n e l ps zs))
  obtain ⟨⟨he, hl⟩, hps, hzs⟩ := h
  have hv := sp_l07Ok_eq n e l ps ⟨he, hl, hps⟩
  unfold blowR
  cases hp : patOk n e l ps with
  | false => simp -dsimp -implicitDefEqProofs [c_spec_BlowUp, r_spec_BlowUp, hv, hp]
  | true =>
    obtain ⟨_, hn4, _, hlen, _⟩ := patOk_spec hp
    by_cases hz : zs.length = ps.length
    · have hz' : ((zs.length : Int) != n) = false := by simp [hz]; omega
      simp -dsimp -implicitDefEqProofs [c_spec_BlowUp, r_spec_BlowUp, hv, hp, hz']
      refine wpLoop_st (fun (i : Nat) => ⟨tl [(1, .sl (insA zs) false), (2, .ptr 0 0), (4, .ptr 1 0), (6, cellL 2 (partsN 0 (zs.take i))), (7, .int .i64 i)], ⟨[some [.int .i64 n, .int .u32 e, .int .u32 l, .sl (frsA ps) false], some [.int .i64 0, .int .u32 0]] ++ objL (partsN 0 (zs.take i))⟩⟩) (fun i => i ≤ zs.length ∧ sizesOk (zs.take i) = true) (fun i => zs.length - i) 0 ⟨by omega, rfl⟩ (Sub.keep (by simp) (by simp [hsub, partsN, objL_nil]) (by simp [objL_nil, partsN, cellL_nil])) ?_
      rintro i ⟨hi, hall⟩
      simp -dsimp -implicitDefEqProofs
      refine brW_of (fun h => ?_) (fun h => ?_) <;> simp only [decide_eq_true_eq, decide_eq_false_iff_not] at h
      · have hi' : i < zs.length := by omega
        have hw := wrapNat (i := i) (by omega)
        have hpl := partsN_len (zs.take i) 0 (fun x hx => List.all_eq_true.1 hall x hx)
        rw [List.length_take] at hpl
        cases hsz : sizeI zs[i] with
        | false =>
          have hall2 : sizesOk zs = false := by
            unfold sizesOk; rw [List.all_eq_false]
            exact ⟨zs[i], List.getElem_mem hi', by simp [hsz]⟩
          have hsz' : (decide (0 ≤ zs[i]) && decide (zs[i] ≤ 5)) = false := hsz
          simp -dsimp -implicitDefEqProofs [hi', hsz', hall2]
        | true =>
          have hsz' : (decide (0 ≤ zs[i]) && decide (zs[i] ≤ 5)) = true := hsz
          have hall2 : sizesOk (zs.take (i + 1)) = true := by unfold sizesOk at *; rw [take_snoc zs i hi', List.all_append, hall]; simp [hsz]
          have hstep : partsN 0 (zs.take (i + 1)) = partsN 0 (zs.take i) ++ List.replicate zs[i].toNat (i : Int) := by
            rw [take_snoc zs i hi', partsN_snoc]
            simp; omega
          generalize partsN 0 (zs.take i) = L at hstep hpl ⊢
          have hr : 0 ≤ zs[i] ∧ zs[i] ≤ 5 := by simpa using hsz'
          simp -dsimp -implicitDefEqProofs [hi', hsz']
          refine wpLoop_st (fun (k : Nat) => ⟨tl [(1, .sl (insA zs) false), (2, .ptr 0 0), (4, .ptr 1 0), (6, cellL 2 (L ++ List.replicate k (i : Int))), (7, .int .i64 i), (8, .int .i64 k)], ⟨[some [.int .i64 n, .int .u32 e, .int .u32 l, .sl (frsA ps) false], some [.int .i64 0, .int .u32 0]] ++ objL (L ++ List.replicate k (i : Int))⟩⟩) (fun k => (k : Int) ≤ zs[i]) (fun k => zs[i].toNat - k) 0 (by omega) (by
            by_cases hL : L = []
            · subst hL; exact Sub.keep (by simp) (by simp [hsub, objL_nil]) (by simp [objL_nil, cellL_nil])
            · simp only [List.replicate_zero, List.append_nil, cellL_cons hL, objL_cons hL]; exact Sub.keep (by simp) (by simp [hsub]) (by simp)) ?_
          intro k hk
          simp -dsimp -implicitDefEqProofs [hi']
          refine brW_of (fun h => ?_) (fun h => ?_) <;> simp only [decide_eq_true_eq, decide_eq_false_iff_not] at h
          · have hwk := wrapNat (i := k) (by omega)
            have hrs : L ++ List.replicate (k + 1) (i : Int) = (L ++ List.replicate k (i : Int)) ++ [(i : Int)] := by rw [List.replicate_succ', List.append_assoc]
            have hlen : (L ++ List.replicate k (i : Int)).length ≤ 100 := by simp; omega
            generalize L ++ List.replicate k (i : Int) = M at hrs hlen ⊢
            have hne : M ++ [(i : Int)] ≠ [] := by simp
            by_cases hM : M = []
            · subst hM
              have hm : (0 + 1) * 9 ≤ mostBytes := by decide
              have hm : 1 * 9 ≤ mostBytes := by decide
              simp only [cellL_nil, objL_nil]
              simp -dsimp -implicitDefEqProofs [hi', hm, hwk]
              refine .mk (k + 1) (by omega) (by omega) ?_
              simp only [hrs, cellL_cons hne, objL_cons hne]
              exact Sub.mk' (fun b => if b = 2 then 3 else b) (by simp) (by intro b hb; omega) (by rfl) (by simp [hsub, flat_in]) (by simp [hwk])
            · have hm : (M.length + 1) * 9 ≤ mostBytes := by simp only [mostBytes]; omega
              have hfit : ¬ (M.length + 1 ≤ M.length) := by omega
              have htl : (flatA (insA M)).take M.length = flatA (insA M) := List.take_of_length_le (by simp)
              have hcat : flatA (insA M) ++ [.int .i64 (i : Int)] = flatA (insA (M ++ [(i : Int)])) := by rw [flatA_append, flatA_one]; rfl
              simp only [cellL_cons hM, objL_cons hM]
              simp -dsimp -implicitDefEqProofs [hi', hm, hfit, htl, hcat, hwk]
              refine .mk (k + 1) (by omega) (by omega) ?_
              simp only [hrs, cellL_cons hne, objL_cons hne]
              exact Sub.mk' (fun b => if b = 2 then 4 else b) (by simp) (by intro b hb; omega) (by rfl) (by simp [hsub]) (by simp [hwk])
          · have hk : k = zs[i].toNat := by omega
            subst hk
            rw [← hstep]
            generalize hM : partsN 0 (zs.take (i + 1)) = M at *
            by_cases hM0 : M = []
            · subst hM0
              simp only [cellL_nil, objL_nil]
              simp -dsimp -implicitDefEqProofs [hw]
              refine .mk (i + 1) ⟨by omega, hall2⟩ (by omega) ?_
              simp only [hM, cellL_nil, objL_nil]
              exact Sub.keep (by simp) (by simp [hsub]) (by simp [hw])
            · simp only [cellL_cons hM0, objL_cons hM0]
              simp -dsimp -implicitDefEqProofs [hw]
              refine .mk (i + 1) ⟨by omega, hall2⟩ (by omega) ?_
              simp only [hM, cellL_cons hM0, objL_cons hM0]
              exact Sub.keep (by simp) (by simp [hsub]) (by simp [hw])
      · have hi' : i = zs.length := by omega
        subst hi'
        rw [List.take_length] at hall ⊢
        have hpart := partsN_part zs 0 (by omega)
        generalize partsN 0 zs = L at hpart ⊢
        by_cases h5 : L.length ≤ 5
        · have h5' : ¬ 5 < (L.length : Int) := by omega
          by_cases hL0 : L = []
          · subst hL0
            simp only [cellL_nil, objL_nil]
            simp -dsimp -implicitDefEqProofs [hall, hz]
            refine wpLoop_st (fun (k : Unit) => ⟨tl [(2, .ptr 0 0), (4, .ptr 1 0), (9, .ptr 2 0), (10, .int .i64 1)], ⟨[some [.int .i64 n, .int .u32 e, .int .u32 l, .sl (frsA ps) false], some [.int .i64 0, .int .u32 0], some [.int .i64 0, .int .u32 0]]⟩⟩) (fun _ => True) (fun k => 0) () trivial (Sub.keep (by simp) (by simp [hsub]) (by simp)) ?_
            rintro _ _
            simp -dsimp -implicitDefEqProofs [blowE, madeE, hall, hz]
          · simp only [cellL_cons hL0, objL_cons hL0]
            simp -dsimp -implicitDefEqProofs [hall, hz, h5, h5']
            have hLpos : 1 ≤ L.length := by cases L with
              | nil => exact absurd rfl hL0
              | cons => simp
            refine wpLoop_st (fun (j : Nat) => ⟨tl [(2, .ptr 0 0), (4, .ptr 1 0), (6, .ref 2 1 0 L.length .full), (9, .ptr 3 0), (10, .int .i64 j)], ⟨[some [.int .i64 n, .int .u32 e, .int .u32 l, .sl (frsA ps) false], some [.int .i64 0, .int .u32 0], some (flatA (insA L)), some [.int .i64 L.length, .int .u32 (madeE (fun i j => joinB e l (atI L i) (atI L j)) j)]]⟩⟩) (fun j => 1 ≤ j ∧ j ≤ L.length) (fun j => L.length - j) 1 ⟨by omega, hLpos⟩ (Sub.keep (by simp) (by simp [hsub, madeE, rowE]) (by simp)) ?_
            rintro j ⟨j1, hj⟩
            simp -dsimp -implicitDefEqProofs
            refine brW_of (fun h => ?_) (fun h => ?_) <;> simp only [decide_eq_true_eq, decide_eq_false_iff_not] at h
            · have hj' : j < L.length := by omega
              have hwj := wrapNat (i := j) (by omega)
              simp -dsimp -implicitDefEqProofs
              refine wpLoop_st (fun (i : Nat) => ⟨tl [(2, .ptr 0 0), (4, .ptr 1 0), (6, .ref 2 1 0 L.length .full), (9, .ptr 3 0), (10, .int .i64 j), (11, .int .i64 i)], ⟨[some [.int .i64 n, .int .u32 e, .int .u32 l, .sl (frsA ps) false], some [.int .i64 0, .int .u32 0], some (flatA (insA L)), some [.int .i64 L.length, .int .u32 (rowE (fun i j => joinB e l (atI L i) (atI L j)) j (madeE (fun i j => joinB e l (atI L i) (atI L j)) j) i)]]⟩⟩) (fun i => i ≤ j) (fun i => j - i) 0 (by omega) (Sub.keep (by simp) (by simp [hsub, rowE]) (by simp)) ?_
              intro i hi
              simp -dsimp -implicitDefEqProofs
              refine brW_of (fun h => ?_) (fun h => ?_) <;> simp only [decide_eq_true_eq, decide_eq_false_iff_not] at h
              · have hi' : i < L.length := by omega
                have hwi := wrapNat (i := i) (by omega)
                have hJ := sp_joinP_eq n e l ps (atI L i) (atI L j) ⟨⟨he, hl⟩, hpart.at hi', hpart.at hj'⟩
                have hb := sp_bit_eq i j (by omega)
                have hor := orBit (rowE_lt (J := fun i j => joinB e l (atI L i) (atI L j)) (j := j) (i := i) (madeE_lt (J := fun i j => joinB e l (atI L i) (atI L j)) (n := j) (by omega)) (by omega) hi) (bitI_lt (i := i) (j := j) h (by omega))
                cases hv : joinB e l (atI L i) (atI L j) with
                | false =>
                  rw [hv] at hJ
                  simp -dsimp -implicitDefEqProofs [hi', hj', atI_get hi', atI_get hj', hJ, hwi]
                  exact .mk (i + 1) (by omega) (by omega) (Sub.keep (by simp) (by simp [hsub, rowE, hv]) (by simp [hwi]))
                | true =>
                  rw [hv] at hJ
                  simp -dsimp -implicitDefEqProofs [hi', hj', atI_get hi', atI_get hj', hJ, hwi, hb]
                  exact .mk (i + 1) (by omega) (by omega) (Sub.keep (by simp) (by simp [hsub, rowE, hv, hor]) (by simp [hwi]))
              · have : i = j := by omega
                subst this
                simp -dsimp -implicitDefEqProofs [hwj]
                exact .mk (i + 1) (by omega) (by omega) (Sub.keep (by simp) (by simp [hsub, madeE]) (by simp [hwj]))
            · have : j = L.length := by omega
              subst this
              simp -dsimp -implicitDefEqProofs [blowE, hz, hall, h5]
        · have h5' : 5 < (L.length : Int) := by omega
          have hL0 : L ≠ [] := by intro h0; rw [h0] at h5; simp at h5
          rw [cellL_cons hL0, objL_cons hL0]
          simp -dsimp -implicitDefEqProofs [h5', h5]
    · have hz' : ((zs.length : Int) != n) = true := by simp; omega
      simp -dsimp -implicitDefEqProofs [c_spec_BlowUp, r_spec_BlowUp, hv, hp, hz', hz]
end Go.Proofs.YtkgodhdpcomjbaaAi
end

section
/- MADE BY PROGRAM (wip/tools/gen.py): the abstract code of functions. -/
namespace Go.Proofs.YtkgodhdpcomjbaaAi
open Go AC AOp Opd
set_option linter.unusedVariables false
set_option maxRecDepth 100000
def c_laws_toPatternN : AC := seq (reg [⟨(some 1), box 4 (t 0), none⟩, ⟨(some 2), alloc [.int .i64 0, .int .u32 0, .int .u32 0, .sl [] true], none⟩]) (seq (reg [⟨(some 3), alloc [.int .i64 0, .int .u32 0, .int .u32 0, .sl [] true], none⟩]) (seq (reg [⟨(some 4), fad (t 1) 0, none⟩, ⟨(some 5), ld (t 4) 2 true, none⟩, ⟨(some 6), callq (c (.fn 22 [])) [t 5], none⟩, ⟨(some 7), fad (t 3) 0, none⟩, ⟨none, st (t 7) 2 (t 6), none⟩]) (seq (reg [⟨(some 8), fad (t 1) 2, none⟩, ⟨(some 9), ld (t 8) 1 false, none⟩, ⟨(some 10), fad (t 3) 2, none⟩, ⟨none, st (t 10) 1 (t 9), none⟩]) (seq (reg [⟨(some 11), fad (t 1) 3, none⟩, ⟨(some 12), ld (t 11) 1 false, none⟩, ⟨(some 13), calle (c (.fn 64 [])) [t 12] [], none⟩, ⟨(some 14), fad (t 3) 3, none⟩, ⟨none, st (t 14) 1 (t 13), none⟩]) (seq (reg [⟨(some 15), ld (t 3) 4 true, none⟩, ⟨none, st (t 2) 4 (t 15), none⟩]) (ret))))))
def r_laws_toPatternN : List ARes := [.cell 2 4 true]
theorem k_laws_toPatternN : acLin Go.Proofs.Try.prog 16 1 (inQ [22] [64]) [] = some (c_laws_toPatternN, r_laws_toPatternN) := by kernel_rfl
end Go.Proofs.YtkgodhdpcomjbaaAi
end

section
/- Contracts: copies of arguments, as objects. -/
namespace Go.Proofs.YtkgodhdpcomjbaaAi
open Go Go.RowKit
set_option linter.unusedVariables false
set_option linter.unusedSimpArgs false
set_option maxRecDepth 20000

theorem fill_step {α : Type} (l : List α) (z : α) (i : Nat) (h : i < l.length) : (l.take i ++ List.replicate (l.length - i) z).set i l[i] = l.take (i + 1) ++ List.replicate (l.length - (i + 1)) z := by
  have e : l.length - i = (l.length - (i + 1)) + 1 := by omega
  rw [List.set_append_right _ _ (by simp; omega), e, List.replicate_succ]
  have e2 : i - (l.take i).length = 0 := by simp; omega
  rw [e2, List.set_cons_zero, take_snoc l i h, List.append_assoc]
  rfl
theorem fill_len {α : Type} (l : List α) (z : α) (i : Nat) (h : i ≤ l.length) : (l.take i ++ List.replicate (l.length - i) z).length = l.length := by simp; omega
noncomputable def sp_toFrN : List AV → Option (AV × List (Option (List AV))) := pf (ι := (List Fr)) (α := AV × List (Option (List AV))) (fun ps => ps.length ≤ 1048576) (fun ps => [.sl (frsA ps) false]) (fun ps => (.ref 0 2 0 ps.length .tight, [some (flatA (frsA ps))]))
theorem sp_toFrN_eq (ps : List Fr) (h : ps.length ≤ 1048576) : sp_toFrN [.sl (frsA ps) false] = some ((.ref 0 2 0 ps.length .tight, [some (flatA (frsA ps))])) := by
  unfold sp_toFrN
  exact pf_eq (ι := (List Fr)) (α := AV × List (Option (List AV))) ps h (by rintro ps' _ e; simp_all [Int.natCast_inj])
theorem n_laws_toFractionS : QN PP 64 sp_toFrN := by
  refine QN_pf (fun ps h => ?_) fun ps h => ?_
  · first | rfl | simp
  replace h : ps.length ≤ 1048576 := h
  show T PP 64 [.sl (frsA ps) false] .nil fun r' A' => r' = (((.ref 0 2 0 ps.length .tight, [some (flatA (frsA ps))]) : AV × List (Option (List AV)))).1 ∧ A' = ⟨(((.ref 0 2 0 ps.length .tight, [some (flatA (frsA ps))]) : AV × List (Option (List AV)))).2⟩
  have hm : (ps.length : Int) * 17 ≤ (mostBytes : Int) := by simp only [mostBytes]; omega
  refine H_code (Quiet.q1 q_laws_toFraction Quiet.nil) hmix k_laws_toFractionS rfl (fun b => b) (by simp [AHeap.n, AHeap.nil]) (by intro b hb; simp [AHeap.n, AHeap.nil] at hb <;> subst hb <;> rfl) (by rfl) (by first | rfl | simp) ?_
  simp -dsimp -implicitDefEqProofs [c_laws_toFractionS, r_laws_toFractionS, hm]
  refine wpLoop_st (fun (i : Nat × List Fr) => ⟨tl [(0, .sl (frsA ps) false), (3, .ref 0 2 0 ps.length .tight), (4, .int .i64 i.1)], ⟨[some (flatA (frsA i.2))]⟩⟩) (fun i => i.1 ≤ ps.length ∧ i.2.length = ps.length ∧ i.2 = ps.take i.1 ++ List.replicate (ps.length - i.1) ⟨0, 0⟩) (fun i => ps.length - i.1) (0, List.replicate ps.length ⟨0, 0⟩) ⟨by simp, by simp, by simp⟩ (Sub.keep (by simp) (by simp [hsub]) (by simp)) ?_
  rintro ⟨i, L⟩ ⟨h1, h2, h3⟩
  simp only at h1 h2 h3
  simp -dsimp -implicitDefEqProofs
  refine brW_of (fun h => ?_) (fun h => ?_) <;> simp only [decide_eq_true_eq, decide_eq_false_iff_not] at h
  · have hi : i < ps.length := by omega
    have hw := wrapNat (i := i) (by omega)
    have f1 : i * 2 + 2 ≤ L.length * 2 := by omega
    have hs := set_fr L i ps[i].p ps[i].q (by omega)
    simp -dsimp -implicitDefEqProofs [hi, f1, hw, hs]
    refine .mk (i + 1, L.set i ps[i]) ⟨by simp only; omega, by simp [h2], ?_⟩ (by simp only; omega) (Sub.keep (by simp) (by simp [hsub]) (by simp))
    simp only
    rw [h3]
    exact fill_step ps ⟨0, 0⟩ i hi
  · have hi : i = ps.length := by omega
    subst hi
    simp at h3
    subst h3
    simp -dsimp -implicitDefEqProofs [hsub]
    refine ⟨_, Shift.refl _, ?_⟩
    simp -dsimp -implicitDefEqProofs [hsub]
noncomputable def sp_toPatN : List AV → Option (AV × List (Option (List AV))) := pf (ι := (Int) × (Int) × (Int) × (List Fr)) (α := AV × List (Option (List AV))) (fun ⟨n, e, l, ps⟩ => ps.length ≤ 1048576) (fun ⟨n, e, l, ps⟩ => [.agg [.int .i64 n, .int .u32 e, .int .u32 l, .sl (frsA ps) false]]) (fun ⟨n, e, l, ps⟩ => (.agg [.int .i64 n, .int .u32 e, .int .u32 l, .ref 0 2 0 ps.length .tight], [some (flatA (frsA ps))]))
theorem sp_toPatN_eq (n e l : Int) (ps : List Fr) (h : ps.length ≤ 1048576) : sp_toPatN [.agg [.int .i64 n, .int .u32 e, .int .u32 l, .sl (frsA ps) false]] = some ((.agg [.int .i64 n, .int .u32 e, .int .u32 l, .ref 0 2 0 ps.length .tight], [some (flatA (frsA ps))])) := by
  unfold sp_toPatN
  exact pf_eq (ι := (Int) × (Int) × (Int) × (List Fr)) (α := AV × List (Option (List AV))) (n, e, l, ps) h (by rintro ⟨n', e', l', ps'⟩ _ e; simp_all [Int.natCast_inj])
theorem n_laws_toPattern : QN PP 16 sp_toPatN := by
  refine QN_pf (fun i h => ?_) fun i h => ?_
  · obtain ⟨n, e, l, ps⟩ := i; first | rfl | simp
  obtain ⟨n, e, l, ps⟩ := i
  replace h : ps.length ≤ 1048576 := h
  show T PP 16 [.agg [.int .i64 n, .int .u32 e, .int .u32 l, .sl (frsA ps) false]] .nil fun r' A' => r' = (((.agg [.int .i64 n, .int .u32 e, .int .u32 l, .ref 0 2 0 ps.length .tight], [some (flatA (frsA ps))]) : AV × List (Option (List AV)))).1 ∧ A' = ⟨(((.agg [.int .i64 n, .int .u32 e, .int .u32 l, .ref 0 2 0 ps.length .tight], [some (flatA (frsA ps))]) : AV × List (Option (List AV)))).2⟩
  refine H_code (Quiet.q1 q_laws_toGraph (Quiet.e1 n_laws_toFractionS.toE Quiet.nil)) hmix k_laws_toPatternN rfl (fun _ => 3) (by simp [AHeap.n, AHeap.nil]) (by intro b hb; simp [AHeap.n, AHeap.nil] at hb <;> subst hb <;> rfl) (by rfl) (by first | rfl | simp) ?_
  simp -dsimp -implicitDefEqProofs [c_laws_toPatternN, r_laws_toPatternN, sp_toFrN_eq ps h, hsub]
end Go.Proofs.YtkgodhdpcomjbaaAi
end

section
/- The law of ValidPattern. -/
namespace Go.Proofs.YtkgodhdpcomjbaaAi
open Go Go.RowKit
set_option linter.unusedVariables false
set_option linter.unusedSimpArgs false

theorem wt_list {α : Type} {f : α → AV} {t : Ty} (hf : ∀ y, WtV t y → ∃ x, y = f x) : ∀ {xs : List AV}, (∀ y ∈ xs, WtV t y) → ∃ l, xs = mapA f l
  | [], _ => ⟨[], rfl⟩
  | x :: xs, h => by
    obtain ⟨l, hl⟩ := wt_list hf fun y hy => h y (List.mem_cons_of_mem _ hy)
    obtain ⟨a, rfl⟩ := hf x (h x (List.mem_cons_self ..))
    exact ⟨a :: l, by rw [hl]; rfl⟩
abbrev tyFr : Ty := .st [.int .i64, .int .i64]
theorem wt_fr (y : AV) (h : WtV tyFr y) : ∃ x, y = frA x := by
  simp only [tyFr, WtV_st, WtL_int, WtL_nil] at h
  obtain ⟨_, rfl, p, _, rfl, _, q, _, rfl, _, rfl⟩ := h
  exact ⟨⟨p, q⟩, rfl⟩
abbrev tyPattern : Ty := .st [.st [.int .i64, .int .u32], .int .u32, .sl tyFr]
theorem wt_pattern {x : AV} (h : WtV tyPattern x) : ∃ n e l ps, x = .agg [.int .i64 n, .int .u32 e, .int .u32 l, .sl (frsA ps) false] ∧ ((0 ≤ e ∧ e ≤ 4294967295) ∧ (0 ≤ l ∧ l ≤ 4294967295) ∧ ps.length ≤ maxLen) := by
  simp only [tyPattern, WtV_st, WtL_st, WtL_int, WtL_sl, WtL_nil] at h
  obtain ⟨_, rfl, _, _, rfl, ⟨n, _, rfl, _, e, _, rfl, he, rfl⟩, l, _, rfl, hl, xs, _, rfl, ⟨hlen, hx⟩, rfl⟩ := h
  obtain ⟨ps, rfl⟩ := wt_list (t := tyFr) wt_fr (by simpa only [tyFr, WtV_st, WtL_int, WtL_nil] using hx)
  exact ⟨n, e, l, ps, rfl, ⟨by simpa [IntKind.min, IntKind.signed] using he.1, by simpa [IntKind.max, IntKind.signed, IntKind.bits] using he.2⟩, ⟨by simpa [IntKind.min, IntKind.signed] using hl.1, by simpa [IntKind.max, IntKind.signed, IntKind.bits] using hl.2⟩, by simpa using hlen⟩

end Go.Proofs.YtkgodhdpcomjbaaAi
end

section
/- The law of EvenPattern. -/
namespace Go.Proofs.YtkgodhdpcomjbaaAi
open Go Go.RowKit
set_option linter.unusedVariables false
set_option linter.unusedSimpArgs false
set_option maxRecDepth 20000

@[simp] theorem evenL_len (n : Int) : (evenL n).length = n.toNat := by simp [evenL]
abbrev tyGraph : Ty := .st [.int .i64, .int .u32]
theorem eqPat_refl (a b c : Int) (ps : List Fr) (h : ps.length ≤ maxLen) : sp_eqPattern [.agg [.int .i64 a, .int .u32 b, .int .u32 c, .sl (frsA ps) false], .agg [.int .i64 a, .int .u32 b, .int .u32 c, .sl (frsA ps) false]] = some (.bool true) := by
  rw [sp_eqPattern_eq a b c ps a b c ps h]; simp
theorem eqPat_nil (a b c : Int) : sp_eqPattern [.agg [.int .i64 a, .int .u32 b, .int .u32 c, .sl [] false], .agg [.int .i64 a, .int .u32 b, .int .u32 c, .sl [] false]] = some (.bool true) := eqPat_refl a b c [] (by simp [maxLen])
theorem heldPat_nil (a b c k : Int) (h : kOk k) : sp_heldPat [.agg [.int .i64 a, .int .u32 b, .int .u32 c, .sl [] false], .int .i64 k] = some (.int .i64 k) := by
  have := sp_heldPat_eq a b c 0 k ⟨h, by omega⟩
  simpa [marksF, mapA] using this
theorem k1_ok : kOk 1 := by unfold kOk; omega
end Go.Proofs.YtkgodhdpcomjbaaAi
end

section
/- Contracts: lists of numbers in the laws. -/
namespace Go.Proofs.YtkgodhdpcomjbaaAi
open Go Go.RowKit
set_option linter.unusedVariables false
set_option linter.unusedSimpArgs false
set_option maxRecDepth 20000

noncomputable def sp_toIntN : List AV → Option (AV × List (Option (List AV))) := pf (ι := (List Int)) (α := AV × List (Option (List AV))) (fun zs => zs.length ≤ 1048576) (fun zs => [.sl (insA zs) false]) (fun zs => (.ref 0 1 0 zs.length .tight, [some (flatA (insA zs))]))
theorem sp_toIntN_eq (zs : List Int) (h : zs.length ≤ 1048576) : sp_toIntN [.sl (insA zs) false] = some ((.ref 0 1 0 zs.length .tight, [some (flatA (insA zs))])) := by
  unfold sp_toIntN
  exact pf_eq (ι := (List Int)) (α := AV × List (Option (List AV))) zs h (by rintro zs' _ e; simp_all [Int.natCast_inj])
theorem n_laws_toInt64S : QN PP 26 sp_toIntN := by
  refine QN_pf (fun zs h => ?_) fun zs h => ?_
  · first | rfl | simp
  replace h : zs.length ≤ 1048576 := h
  show T PP 26 [.sl (insA zs) false] .nil fun r' A' => r' = (((.ref 0 1 0 zs.length .tight, [some (flatA (insA zs))]) : AV × List (Option (List AV)))).1 ∧ A' = ⟨(((.ref 0 1 0 zs.length .tight, [some (flatA (insA zs))]) : AV × List (Option (List AV)))).2⟩
  have hm : (zs.length : Int) * 9 ≤ (mostBytes : Int) := by simp only [mostBytes]; omega
  refine H_code Quiet.nil hmix k_laws_toInt64S rfl (fun b => b) (by simp [AHeap.n, AHeap.nil]) (by intro b hb; simp [AHeap.n, AHeap.nil] at hb <;> subst hb <;> rfl) (by rfl) (by first | rfl | simp) ?_
  simp -dsimp -implicitDefEqProofs [c_laws_toInt64S, r_laws_toInt64S, hm, news_in1]
  refine wpLoop_st (fun (i : Nat × List Int) => ⟨tl [(0, .sl (insA zs) false), (3, .ref 0 1 0 zs.length .tight), (4, .int .i64 i.1)], ⟨[some (flatA (insA i.2))]⟩⟩) (fun i => i.1 ≤ zs.length ∧ i.2.length = zs.length ∧ i.2 = zs.take i.1 ++ List.replicate (zs.length - i.1) 0) (fun i => zs.length - i.1) (0, List.replicate zs.length 0) ⟨by simp, by simp, by simp⟩ (Sub.keep (by simp) (by simp [hsub]) (by simp)) ?_
  rintro ⟨i, L⟩ ⟨h1, h2, h3⟩
  simp only at h1 h2 h3
  simp -dsimp -implicitDefEqProofs
  refine brW_of (fun h => ?_) (fun h => ?_) <;> simp only [decide_eq_true_eq, decide_eq_false_iff_not] at h
  · have hi : i < zs.length := by omega
    have hw := wrapNat (i := i) (by omega)
    have f1 : i + 1 ≤ L.length := by omega
    have hs := set_in L i zs[i] (by omega)
    simp -dsimp -implicitDefEqProofs [hi, f1, hw, hs]
    refine .mk (i + 1, L.set i zs[i]) ⟨by simp only; omega, by simp [h2], ?_⟩ (by simp only; omega) (Sub.keep (by simp) (by simp [hsub]) (by simp))
    simp only
    rw [h3]
    exact fill_step zs 0 i hi
  · have hi : i = zs.length := by omega
    subst hi
    simp at h3
    subst h3
    simp -dsimp -implicitDefEqProofs [hsub]
    try
      refine ⟨_, Shift.refl _, ?_⟩
      simp -dsimp -implicitDefEqProofs [hsub]
noncomputable def sp_eqInt : List AV → Option (AV) := pf (ι := (List Int) × (List Int)) (α := AV) (fun ⟨xs, ys⟩ => xs.length ≤ maxLen) (fun ⟨xs, ys⟩ => [.sl (insA xs) false, .sl (insA ys) false]) (fun ⟨xs, ys⟩ => .bool (decide (xs = ys)))
theorem sp_eqInt_eq (xs ys : List Int) (h : xs.length ≤ maxLen) : sp_eqInt [.sl (insA xs) false, .sl (insA ys) false] = some (.bool (decide (xs = ys))) := by
  unfold sp_eqInt
  exact pf_eq (ι := (List Int) × (List Int)) (α := AV) (xs, ys) h (by rintro ⟨xs', ys'⟩ _ e; simp_all [Int.natCast_inj])
theorem q_laws_eqInt64S : QP PP 29 sp_eqInt := by
  refine QP_pf (fun i h => ?_) fun i h => ?_
  · obtain ⟨xs, ys⟩ := i; exact ⟨by first | rfl | simp, by first | rfl | simp⟩
  obtain ⟨xs, ys⟩ := i
  replace h : xs.length ≤ maxLen := h
  refine P_code Quiet.nil hmix k_laws_eqInt64S rfl ?_ ?_
  · first | rfl | simp
  show wpc 0 PP _ c_laws_eqInt64S (initSt [.sl (insA xs) false, .sl (insA ys) false] .nil) (endP r_laws_eqInt64S (.bool (decide (xs = ys))))
  simp only [maxLen] at h
  by_cases hl : xs.length = ys.length
  · have hl' : ((xs.length : Int) != ys.length) = false := by simp [hl]
    simp -dsimp -implicitDefEqProofs [c_laws_eqInt64S, r_laws_eqInt64S, hl']
    refine wpLoop_st (fun (i : Nat) => ⟨tl [(0, .sl (insA xs) false), (1, .sl (insA ys) false), (5, .int .i64 i)], ⟨[]⟩⟩) (fun i => i ≤ xs.length ∧ xs.take i = ys.take i) (fun i => xs.length - i) 0 ⟨by omega, rfl⟩ (Sub.keep (by simp) (by simp [hsub]) (by simp)) ?_
    rintro i ⟨h1, h2⟩
    simp -dsimp -implicitDefEqProofs
    refine brW_of (fun h => ?_) (fun h => ?_) <;> simp only [decide_eq_true_eq, decide_eq_false_iff_not] at h
    · have hi : i < xs.length := by omega
      have hj : i < ys.length := by omega
      have hw := wrapNat (i := i) (by omega)
      by_cases he : xs[i] = ys[i]
      · have he' : (xs[i] != ys[i]) = false := by simp [he]
        simp -dsimp -implicitDefEqProofs [hi, hj, he', hw]
        refine .mk (i + 1) ⟨by omega, ?_⟩ (by omega) (Sub.keep (by simp) (by simp [hsub]) (by simp [hw]))
        rw [take_snoc xs i hi, take_snoc ys i hj, h2, he]
      · have he' : (xs[i] != ys[i]) = true := by simp [he]
        have hne : ¬ xs = ys := fun e => he (by subst e; rfl)
        simp -dsimp -implicitDefEqProofs [hi, hj, he', hne]
    · have hi : i = xs.length := by omega
      subst hi
      rw [List.take_length, hl, List.take_length] at h2
      simp -dsimp -implicitDefEqProofs [h2]
  · have hl' : ((xs.length : Int) != ys.length) = true := by simp; omega
    have hne : ¬ xs = ys := fun e => hl (by rw [e])
    simp -dsimp -implicitDefEqProofs [c_laws_eqInt64S, r_laws_eqInt64S, hl', hne]

theorem wt_int (y : AV) (h : WtV (.int .i64) y) : ∃ x, y = inA x := by
  simp only [WtV_int] at h
  obtain ⟨n, rfl, _⟩ := h
  exact ⟨n, rfl⟩
theorem eqInt_refl (xs : List Int) (h : xs.length ≤ maxLen) : sp_eqInt [.sl (insA xs) false, .sl (insA xs) false] = some (.bool true) := by
  rw [sp_eqInt_eq xs xs h]; simp
set_option maxHeartbeats 2000000 in
theorem law_blowUp (xs : List AV) (h : WtA [tyPattern, .sl (.int .i64)] xs) : T PP 5 xs .nil fun r _ => r = .bool true := by
  simp only [WtA_cons, WtA_nil] at h
  obtain ⟨x, _, rfl, hx, y, _, rfl, hy, rfl⟩ := h
  obtain ⟨n, e, l, ps, rfl, h⟩ := wt_pattern hx
  simp only [WtV_sl] at hy
  obtain ⟨ys, rfl, hlen, hy⟩ := hy
  obtain ⟨zs, rfl⟩ := wt_list (t := .int .i64) wt_int hy
  simp only [mapA_length] at hlen
  refine (P_code (r := .bool true) (Quiet.q1 q_laws_szPattern (Quiet.q1 q_laws_eqGraph (Quiet.e1 q_spec_BlowUp.toR (Quiet.e1 n_laws_toPattern.toE (Quiet.e1 n_laws_toInt64S.toE (Quiet.e1 q_impl_BlowUp.toR (Quiet.e1 q_laws_eqPattern.toR (Quiet.e1 q_laws_eqInt64S.toR Quiet.nil)))))))) hmix k_laws_FnExactBlowUp rfl rfl ?_).mono fun r A' h => h.1
  by_cases cz : (zs.length : Int) ≤ 1048576
  · have cz' : ¬ (1048576 : Int) < zs.length := by omega
    by_cases c : (ps.length : Int) ≤ 1048576
    · have c2 : ¬ ((1048576 : Int) - ps.length < 0) := by omega
      have hT := sp_toPatN_eq n e l ps (by omega)
      have hI := sp_toIntN_eq zs (by omega)
      have hq := eqPat_refl n e l ps h.2.2
      have hq2 := eqInt_refl zs hlen
      have hB := sp_blowP_eq n e l ps zs ⟨⟨h.1, h.2.1⟩, h.2.2, by omega⟩
      unfold blowR at hB
      cases hv : patOk n e l ps with
      | false =>
        simp only [hv, if_true] at hB
        simp -dsimp -implicitDefEqProofs [c_laws_FnExactBlowUp, r_laws_FnExactBlowUp, sp_szPattern_eq n e l ps 1048576 ⟨by omega, by omega, h.2.2⟩, c, c2, cz', hT, hI, hq, hq2, hB]
      | true =>
        simp only [hv, Bool.true_eq_false, if_false] at hB
        by_cases hz : (zs.length = ps.length ∧ sizesOk zs = true) ∧ (partsN 0 zs).length ≤ 5
        · rw [if_pos hz] at hB
          generalize (blowE e l (partsN 0 zs) : Int) = E at hB
          generalize ((partsN 0 zs).length : Int) = N at hB
          simp -dsimp -implicitDefEqProofs [c_laws_FnExactBlowUp, r_laws_FnExactBlowUp, sp_szPattern_eq n e l ps 1048576 ⟨by omega, by omega, h.2.2⟩, c, c2, cz', hT, hI, hq, hq2, hB]
        · rw [if_neg hz] at hB
          simp -dsimp -implicitDefEqProofs [c_laws_FnExactBlowUp, r_laws_FnExactBlowUp, sp_szPattern_eq n e l ps 1048576 ⟨by omega, by omega, h.2.2⟩, c, c2, cz', hT, hI, hq, hq2, hB]
    · simp -dsimp -implicitDefEqProofs [c_laws_FnExactBlowUp, r_laws_FnExactBlowUp, sp_szPattern_eq n e l ps 1048576 ⟨by omega, by omega, h.2.2⟩, c, cz']
  · have cz' : (1048576 : Int) < zs.length := by omega
    simp -dsimp -implicitDefEqProofs [c_laws_FnExactBlowUp, r_laws_FnExactBlowUp, cz']
end Go.Proofs.YtkgodhdpcomjbaaAi
end

section
/- Contracts: the chance of a graph. -/
namespace Go.Proofs.YtkgodhdpcomjbaaAi
open Go Go.RowKit
set_option linter.unusedVariables false
set_option linter.unusedSimpArgs false
set_option maxRecDepth 20000

def prodG (ps : List Fr) : Fr → Bool → List Int → Fr × Bool
  | x, g, [] => (x, g)
  | x, g, i :: r => prodG ps (valO (mul2 x (wAt ps i))) (g || (mul2 x (wAt ps i)).isNone) r
theorem prodG_in {ps : List Fr} (h : allIn ps) : ∀ (L : List Int) (x : Fr) (g : Bool), frIn x.p x.q → frIn (prodG ps x g L).1.p (prodG ps x g L).1.q
  | [], x, g, hx => hx
  | i :: r, x, g, hx => prodG_in h r _ _ (mul2_in hx (wAt_in h i))
theorem prodG_true {ps : List Fr} : ∀ (L : List Int) (x : Fr), (prodG ps x true L).2 = true
  | [], x => rfl
  | i :: r, x => by rw [prodG, Bool.true_or]; exact prodG_true r _
theorem prodO_G {ps : List Fr} : ∀ (L : List Int) (x : Fr) (g : Bool), (∀ v, prodO ps x L = some v → prodG ps x g L = (v, g)) ∧ (prodO ps x L = none → (prodG ps x g L).2 = true)
  | [], x, g => by simp [prodO, prodG]
  | i :: r, x, g => by
    rw [prodO, prodG]
    cases hm : mul2 x (wAt ps i) with
    | none => simp [prodG_true]
    | some y => simpa [valO] using prodO_G r y g
def chG (ps : List Fr) : Fr → Bool → List (List Int) → Fr × Bool
  | a, g, [] => (a, g)
  | a, g, L :: r => chG ps (valO (add2 a (prodG ps ⟨1, 1⟩ g L).1)) ((prodG ps ⟨1, 1⟩ g L).2 || (add2 a (prodG ps ⟨1, 1⟩ g L).1).isNone) r
theorem chG_true {ps : List Fr} : ∀ (AL : List (List Int)) (a : Fr), (chG ps a true AL).2 = true
  | [], a => rfl
  | L :: r, a => by rw [chG, prodG_true, Bool.true_or]; exact chG_true r _
theorem chF_G {fit : List Int → Bool} {ps : List Fr} : ∀ (AL : List (List Int)) (a : Fr) (g : Bool), (∀ v, chF fit ps a AL = some v → chG ps a g (AL.filter fit) = (v, g)) ∧ (chF fit ps a AL = none → (chG ps a g (AL.filter fit)).2 = true)
  | [], a, g => by simp [chF, chG]
  | L :: r, a, g => by
    rw [chF, List.filter_cons]
    cases hf : fit L with
    | false => simpa using chF_G r a g
    | true =>
      simp only [if_true]
      rw [chG]
      obtain ⟨p1, p2⟩ := prodO_G (ps := ps) L ⟨1, 1⟩ g
      cases hp : prodO ps ⟨1, 1⟩ L with
      | none => simp [p2 hp, chG_true]
      | some w =>
        rw [p1 w hp]
        cases ha : add2 a w with
        | none => simp [ha, chG_true]
        | some s => simpa [ha, valO] using chF_G r s g

noncomputable def sp_chance1 : List (Option (List AV)) → List AV → Option (AV × List (Option (List AV))) := pv (pf (ι := (Nat) × (Int) × (Int) × (Int) × (Bool)) (α := AV × List (Option (List AV))) (fun ⟨m, he, i, j, b⟩ => (0 ≤ he ∧ he ≤ 4294967295) ∧ vx i j) (fun i => .agg (((fun ⟨m, he, i, j, b⟩ => [some [.int .i64 m, .int .u32 he]] : (Nat) × (Int) × (Int) × (Int) × (Bool) → List (Option (List AV))) i).map enO) :: (fun ⟨m, he, i, j, b⟩ => [.int .i64 i, .int .i64 j, .bool b, .ptr 0 0] : (Nat) × (Int) × (Int) × (Int) × (Bool) → List AV) i) (fun ⟨m, he, i, j, b⟩ => (.bool (b == hasB he i j), [some [.int .i64 m, .int .u32 he]])))
theorem sp_chance1_eq (m : Nat) (he : Int) (i j : Int) (b : Bool) (h : (0 ≤ he ∧ he ≤ 4294967295) ∧ vx i j) : sp_chance1 [some [.int .i64 m, .int .u32 he]] [.int .i64 i, .int .i64 j, .bool b, .ptr 0 0] = some (.bool (b == hasB he i j), [some [.int .i64 m, .int .u32 he]]) := by
  unfold sp_chance1 pv
  exact pf_eq (ι := (Nat) × (Int) × (Int) × (Int) × (Bool)) (α := AV × List (Option (List AV))) (m, he, i, j, b) h (by rintro ⟨m', he', i', j', b'⟩ _ e; simp_all [enO, Int.natCast_inj])
theorem v_impl_sums_chance_1 : QV PP 140 sp_chance1 := by
  refine QV_pf fun i h => ?_
  obtain ⟨m, he, i, j, b⟩ := i
  replace h : (0 ≤ he ∧ he ≤ 4294967295) ∧ vx i j := h
  refine H_code (Quiet.q1 q_impl_Graph_has Quiet.nil) hmix k_impl_sums_chance_1 rfl (fun b => b) (by simp [AHeap.n]) (fun _ _ => rfl) (by rfl) (by first | rfl | simp) ?_
  show wpc _ PP _ c_impl_sums_chance_1 (initSt [.int .i64 i, .int .i64 j, .bool b, .ptr 0 0] ⟨[some [.int .i64 m, .int .u32 he]]⟩) (endH (fun b => b) r_impl_sums_chance_1 (.bool (b == hasB he i j)) [some [.int .i64 m, .int .u32 he]])
  simp -dsimp -implicitDefEqProofs [c_impl_sums_chance_1, r_impl_sums_chance_1, sp_has_eq m he i j h, hsub]
noncomputable def sp_chance2 : List (Option (List AV)) → List AV → Option (AV × List (Option (List AV))) := pv (pf (ι := (Int) × (Int) × (Int) × (List Fr) × (List Int) × (Int) × (Int) × (Bool)) (α := AV × List (Option (List AV))) (fun ⟨n, e, l, ps, L, p, q, g⟩ => allIn ps ∧ (∀ x ∈ L, 0 ≤ x ∧ x < ps.length) ∧ L.length ≤ 5 ∧ frIn p q) (fun i => .agg (((fun ⟨n, e, l, ps, L, p, q, g⟩ => [some [.ptr 3 0], some [.ptr 4 0], some [.int .i64 p, .int .i64 q], some [.bool g], some [.int .i64 n, .int .u32 e, .int .u32 l, .sl (frsA ps) false]] : (Int) × (Int) × (Int) × (List Fr) × (List Int) × (Int) × (Int) × (Bool) → List (Option (List AV))) i).map enO) :: (fun ⟨n, e, l, ps, L, p, q, g⟩ => [.sl (insA L) false, .ptr 0 0, .ptr 1 0, .ptr 2 0] : (Int) × (Int) × (Int) × (List Fr) × (List Int) × (Int) × (Int) × (Bool) → List AV) i) (fun ⟨n, e, l, ps, L, p, q, g⟩ => (.bool false, [some [.ptr 3 0], some [.ptr 4 0], some [.int .i64 (valO (add2 ⟨p, q⟩ (prodG ps ⟨1, 1⟩ g L).1)).p, .int .i64 (valO (add2 ⟨p, q⟩ (prodG ps ⟨1, 1⟩ g L).1)).q], some [.bool ((prodG ps ⟨1, 1⟩ g L).2 || (add2 ⟨p, q⟩ (prodG ps ⟨1, 1⟩ g L).1).isNone)], some [.int .i64 n, .int .u32 e, .int .u32 l, .sl (frsA ps) false]])))
theorem sp_chance2_eq (n e l : Int) (ps : List Fr) (L : List Int) (p q : Int) (g : Bool) (h : allIn ps ∧ (∀ x ∈ L, 0 ≤ x ∧ x < ps.length) ∧ L.length ≤ 5 ∧ frIn p q) : sp_chance2 [some [.ptr 3 0], some [.ptr 4 0], some [.int .i64 p, .int .i64 q], some [.bool g], some [.int .i64 n, .int .u32 e, .int .u32 l, .sl (frsA ps) false]] [.sl (insA L) false, .ptr 0 0, .ptr 1 0, .ptr 2 0] = some (.bool false, [some [.ptr 3 0], some [.ptr 4 0], some [.int .i64 (valO (add2 ⟨p, q⟩ (prodG ps ⟨1, 1⟩ g L).1)).p, .int .i64 (valO (add2 ⟨p, q⟩ (prodG ps ⟨1, 1⟩ g L).1)).q], some [.bool ((prodG ps ⟨1, 1⟩ g L).2 || (add2 ⟨p, q⟩ (prodG ps ⟨1, 1⟩ g L).1).isNone)], some [.int .i64 n, .int .u32 e, .int .u32 l, .sl (frsA ps) false]]) := by
  unfold sp_chance2 pv
  exact pf_eq (ι := (Int) × (Int) × (Int) × (List Fr) × (List Int) × (Int) × (Int) × (Bool)) (α := AV × List (Option (List AV))) (n, e, l, ps, L, p, q, g) h (by rintro ⟨n', e', l', ps', L', p', q', g'⟩ _ e; simp_all [enO, Int.natCast_inj])
theorem v_impl_sums_chance_2 : QV PP 141 sp_chance2 := by
  refine QV_pf fun i h => ?_
  obtain ⟨n, e, l, ps, L, p, q, g⟩ := i
  replace h : allIn ps ∧ (∀ x ∈ L, 0 ≤ x ∧ x < ps.length) ∧ L.length ≤ 5 ∧ frIn p q := h
  refine H_code (Quiet.q1 q_impl_one (Quiet.e1 m_impl_sums_mul.toE (Quiet.e1 m_impl_sums_add.toE Quiet.nil))) hmix k_impl_sums_chance_2 rfl (fun b => b) (by simp [AHeap.n]) (fun _ _ => rfl) (by rfl) (by first | rfl | simp) ?_
  show wpc _ PP _ c_impl_sums_chance_2 (initSt [.sl (insA L) false, .ptr 0 0, .ptr 1 0, .ptr 2 0] ⟨[some [.ptr 3 0], some [.ptr 4 0], some [.int .i64 p, .int .i64 q], some [.bool g], some [.int .i64 n, .int .u32 e, .int .u32 l, .sl (frsA ps) false]]⟩) (endH (fun b => b) r_impl_sums_chance_2 (.bool false) [some [.ptr 3 0], some [.ptr 4 0], some [.int .i64 (valO (add2 ⟨p, q⟩ (prodG ps ⟨1, 1⟩ g L).1)).p, .int .i64 (valO (add2 ⟨p, q⟩ (prodG ps ⟨1, 1⟩ g L).1)).q], some [.bool ((prodG ps ⟨1, 1⟩ g L).2 || (add2 ⟨p, q⟩ (prodG ps ⟨1, 1⟩ g L).1).isNone)], some [.int .i64 n, .int .u32 e, .int .u32 l, .sl (frsA ps) false]])
  obtain ⟨hin, hL, hl5, ha⟩ := h
  simp -dsimp -implicitDefEqProofs [c_impl_sums_chance_2, r_impl_sums_chance_2]
  refine wpLoop_st (fun (c : Nat × Fr × Bool) => ⟨tl [(1, .ptr 0 0), (2, .ptr 1 0), (3, .ptr 2 0), (6, .ptr 5 0), (10, .sl (insA L) false), (11, .int .i64 L.length), (12, .int .i64 c.1)], ⟨[some [.ptr 3 0], some [.ptr 4 0], some [.int .i64 p, .int .i64 q], some [.bool c.2.2], some [.int .i64 n, .int .u32 e, .int .u32 l, .sl (frsA ps) false], some [.int .i64 c.2.1.p, .int .i64 c.2.1.q]]⟩⟩)
    (fun c => c.1 ≤ L.length ∧ frIn c.2.1.p c.2.1.q ∧ prodG ps c.2.1 c.2.2 (L.drop c.1) = prodG ps ⟨1, 1⟩ g L) (fun c => L.length - c.1) (0, ⟨1, 1⟩, g) ⟨by omega, one_in, by simp⟩ (Sub.keep (by simp) (by simp [hsub]) (by simp)) ?_
  rintro ⟨c, x, b⟩ ⟨c1, c2, c3⟩
  simp only at c1 c2 c3
  simp -dsimp -implicitDefEqProofs
  refine brW_of (fun h => ?_) (fun h => ?_) <;> simp only [decide_eq_true_eq, decide_eq_false_iff_not] at h
  · have hc : c < L.length := by omega
    have hwc := wrapNat (i := c) (by omega)
    have hx := hL _ (List.getElem_mem hc)
    obtain ⟨y, hy⟩ := Int.eq_ofNat_of_zero_le hx.1
    have hyp : y < ps.length := by omega
    have hw : wAt ps L[c] = ps[y] := by simp [wAt, hy, hyp]
    have hm1 := sp_mul_eq b x.p x.q ps[y].p ps[y].q ⟨c2, hin.get hyp⟩
    have hz := mul2_in (x := x) (y := ps[y]) c2 (hin.get hyp)
    rw [drop_cons hc, prodG, hw] at c3
    simp -dsimp -implicitDefEqProofs [hc, hy, hyp, hm1, hwc]
    exact .mk (c + 1, valO (mul2 x ps[y]), (b || (mul2 x ps[y]).isNone)) ⟨by simp only; omega, hz, c3⟩ (by simp only; omega) (Sub.keep (by simp) (by simp [hsub, mul2]) (by simp [hwc]))
  · have hc : c = L.length := by omega
    subst hc
    rw [drop_end (by omega), prodG] at c3
    have ha1 := sp_add_eq b p q x.p x.q ⟨ha, c2⟩
    rw [← c3]
    simp -dsimp -implicitDefEqProofs [ha1, hsub, add2]
def chV (n e l : Int) (ps : List Fr) (m : Nat) (he : Int) (g : Bool) : Fr × Bool := chG ps ⟨0, 1⟩ g ((allL n.toNat m).filter fun L => fitL true he e l L m)
theorem fitS_eq (E J : Bool) : fitS true E J = (J == E) := by cases E <;> cases J <;> rfl
theorem dfs_fit (he e l : Int) (k m : Nat) : dfsL (fitM (fun i j b => b == hasB he i j) e l) k m [] = (allL k m).filter fun L => fitL true he e l L m := by
  rw [dfsL_filter _ _ _ _ rfl]
  unfold allL
  apply List.filter_congr
  intro L hL
  have hl : L.length = m := allL_len hL
  rw [fits_pairs _ _ _ _ _ (Nat.le_refl _), hl, fitL]
  simp only [fitS_eq]
abbrev ChSt := { q : Fr × Bool // frIn q.1.p q.1.q }
def chEn (ps : List Fr) (h : allIn ps) (L : List Int) (s : ChSt) : Bool × ChSt := (false, ⟨(valO (add2 s.1.1 (prodG ps ⟨1, 1⟩ s.1.2 L).1), (prodG ps ⟨1, 1⟩ s.1.2 L).2 || (add2 s.1.1 (prodG ps ⟨1, 1⟩ s.1.2 L).1).isNone), add2_in s.2 (prodG_in h L _ _ one_in)⟩)
theorem goL_ch (ps : List Fr) (h : allIn ps) : ∀ (AL : List (List Int)) (s : ChSt), (goL (chEn ps h) AL s).1 = false ∧ (goL (chEn ps h) AL s).2.1 = chG ps s.1.1 s.1.2 AL
  | [], s => ⟨rfl, rfl⟩
  | L :: r, s => by
    rw [goL, chG]
    have : (chEn ps h L s).1 = false := rfl
    rw [this]
    simp only [Bool.false_eq_true, if_false]
    exact goL_ch ps h r _
noncomputable def sp_chanceI : List (Option (List AV)) → List AV → Option (AV × List (Option (List AV))) := pv (pf (ι := (Int) × (Int) × (Int) × (List Fr) × (Nat) × (Int) × (Bool)) (α := AV × List (Option (List AV))) (fun ⟨n, e, l, ps, m, he, g⟩ => ((0 ≤ e ∧ e ≤ 4294967295) ∧ (0 ≤ l ∧ l ≤ 4294967295)) ∧ (m ≤ 5 ∧ 0 ≤ he ∧ he ≤ 4294967295) ∧ (1 ≤ n ∧ n ≤ 4) ∧ (ps.length : Int) = n ∧ allIn ps) (fun i => .agg (((fun ⟨n, e, l, ps, m, he, g⟩ => [some [.bool g], some [.int .i64 n, .int .u32 e, .int .u32 l, .sl (frsA ps) false]] : (Int) × (Int) × (Int) × (List Fr) × (Nat) × (Int) × (Bool) → List (Option (List AV))) i).map enO) :: (fun ⟨n, e, l, ps, m, he, g⟩ => [.ptr 0 0, .ptr 1 0, .agg [.int .i64 m, .int .u32 he]] : (Int) × (Int) × (Int) × (List Fr) × (Nat) × (Int) × (Bool) → List AV) i) (fun ⟨n, e, l, ps, m, he, g⟩ => (frA (chV n e l ps m he g).1, [some [.bool (chV n e l ps m he g).2], some [.int .i64 n, .int .u32 e, .int .u32 l, .sl (frsA ps) false]])))
theorem sp_chanceI_eq (n e l : Int) (ps : List Fr) (m : Nat) (he : Int) (g : Bool) (h : ((0 ≤ e ∧ e ≤ 4294967295) ∧ (0 ≤ l ∧ l ≤ 4294967295)) ∧ (m ≤ 5 ∧ 0 ≤ he ∧ he ≤ 4294967295) ∧ (1 ≤ n ∧ n ≤ 4) ∧ (ps.length : Int) = n ∧ allIn ps) : sp_chanceI [some [.bool g], some [.int .i64 n, .int .u32 e, .int .u32 l, .sl (frsA ps) false]] [.ptr 0 0, .ptr 1 0, .agg [.int .i64 m, .int .u32 he]] = some (frA (chV n e l ps m he g).1, [some [.bool (chV n e l ps m he g).2], some [.int .i64 n, .int .u32 e, .int .u32 l, .sl (frsA ps) false]]) := by
  unfold sp_chanceI pv
  exact pf_eq (ι := (Int) × (Int) × (Int) × (List Fr) × (Nat) × (Int) × (Bool)) (α := AV × List (Option (List AV))) (n, e, l, ps, m, he, g) h (by rintro ⟨n', e', l', ps', m', he', g'⟩ _ e; simp_all [enO, Int.natCast_inj])
theorem v_impl_sums_chance : QV PP 72 sp_chanceI := by
  refine QV_pf fun i h => ?_
  obtain ⟨n, e, l, ps, m, he, g⟩ := i
  replace h : ((0 ≤ e ∧ e ≤ 4294967295) ∧ (0 ≤ l ∧ l ≤ 4294967295)) ∧ (m ≤ 5 ∧ 0 ≤ he ∧ he ≤ 4294967295) ∧ (1 ≤ n ∧ n ≤ 4) ∧ (ps.length : Int) = n ∧ allIn ps := h
  refine H_code (Quiet.q1 q_impl_zero Quiet.nil) hmix k_impl_sums_chance rfl (fun b => b) (by simp [AHeap.n]) (fun _ _ => rfl) (by rfl) (by first | rfl | simp) ?_
  show wpc _ PP _ c_impl_sums_chance (initSt [.ptr 0 0, .ptr 1 0, .agg [.int .i64 m, .int .u32 he]] ⟨[some [.bool g], some [.int .i64 n, .int .u32 e, .int .u32 l, .sl (frsA ps) false]]⟩) (endH (fun b => b) r_impl_sums_chance (frA (chV n e l ps m he g).1) [some [.bool (chV n e l ps m he g).2], some [.int .i64 n, .int .u32 e, .int .u32 l, .sl (frsA ps) false]])
  obtain ⟨hel, ⟨hm, hhe⟩, hn, hps, hin⟩ := h
  let H : ChSt → List (Option (List AV)) := fun s => [some [.bool s.1.2], some [.int .i64 n, .int .u32 e, .int .u32 l, .sl (frsA ps) false], some [.ptr 0 0], some [.ptr 1 0], some [.int .i64 m, .int .u32 he], some [.int .i64 0, .int .i64 0], some [.int .i64 s.1.1.p, .int .i64 s.1.1.q]]
  have hmaps := T_maps (ι := ChSt) (H := H) (N := 7) (pb := 1) (n := n) (e := e) (l := l) (ps := ps) (g1 := 140) (g2 := 141) (caps1 := [.ptr 4 0]) (caps2 := [.ptr 2 0, .ptr 3 0, .ptr 6 0]) (fitB := fun i j b => b == hasB he i j) (en := chEn ps hin) (fun s => rfl) (by omega)
    (fun s b hb => by
      have h7 : b = 0 ∨ b = 1 ∨ b = 2 ∨ b = 3 ∨ b = 4 ∨ b = 5 ∨ b = 6 := by omega
      rcases h7 with rfl | rfl | rfl | rfl | rfl | rfl | rfl <;> rfl)
    (fun s b cs hb => by
      have hb7 := hget_lt hb
      have h7 : b = 0 ∨ b = 1 ∨ b = 2 ∨ b = 3 ∨ b = 4 ∨ b = 5 ∨ b = 6 := by
        have : (H s).length = 7 := rfl
        omega
      rcases h7 with rfl | rfl | rfl | rfl | rfl | rfl | rfl <;> simp [H, hget] at hb <;> subst hb <;> simp [H])
    (fun s => rfl) (by simp) (by simp) hm hn hel
    (fun s i j b hij hj => by
      refine v_impl_sums_chance_1.toE _ _ _ _ ?_
      have := sp_chance1_eq m he i j b ⟨hhe, by unfold vx; omega⟩
      simp [H, this])
    (fun s k hk hr => by
      refine v_impl_sums_chance_2.toE _ _ _ _ ?_
      have := sp_chance2_eq n e l ps k s.1.1.p s.1.1.q s.1.2 ⟨hin, fun x hx => by have := hr x hx; omega, by omega, s.2⟩
      simp [H, this, chEn]) m [] ⟨(⟨0, 1⟩, g), zero_in⟩ (by simp) (by simp)
  simp -dsimp -implicitDefEqProofs [c_impl_sums_chance, r_impl_sums_chance]
  rw [dfs_fit] at hmaps
  obtain ⟨_, hG⟩ := goL_ch ps hin ((allL n.toNat m).filter fun L => fitL true he e l L m) ⟨(⟨0, 1⟩, g), zero_in⟩
  have hG : (goL (chEn ps hin) ((allL n.toNat m).filter fun L => fitL true he e l L m) ⟨(⟨0, 1⟩, g), zero_in⟩).2.1 = chV n e l ps m he g := hG
  generalize goL (chEn ps hin) ((allL n.toNat m).filter fun L => fitL true he e l L m) ⟨(⟨0, 1⟩, g), zero_in⟩ = G at hmaps hG
  rw [← hG]
  refine T.loose (T.mono hmaps ?_)
  rintro r A' ⟨rfl, rfl⟩
  simp only [H]
  simp -dsimp -implicitDefEqProofs [hsub]

def noFr (c : Int) : AV := .tup [.agg [.int .i64 0, .int .i64 0], .int .i64 c]
def chanceR (n e l : Int) (ps : List Fr) (hn he : Int) : AV := if patOk n e l ps = true ∧ graphOk hn he = true then frO (chanceO n e l ps hn.toNat he) else noFr 1
@[simp] theorem chanceR_lt (n e l : Int) (ps : List Fr) (hn he : Int) (k : Nat) : (chanceR n e l ps hn he).lt k = true := by unfold chanceR; split; exact frO_lt _ _; rfl
noncomputable def sp_chanceP : List AV → Option (AV) := pf (ι := (Int) × (Int) × (Int) × (List Fr) × (Int) × (Int)) (α := AV) (fun ⟨n, e, l, ps, hn, he⟩ => ((0 ≤ e ∧ e ≤ 4294967295) ∧ (0 ≤ l ∧ l ≤ 4294967295) ∧ ps.length ≤ maxLen) ∧ (0 ≤ he ∧ he ≤ 4294967295)) (fun ⟨n, e, l, ps, hn, he⟩ => [.agg [.int .i64 n, .int .u32 e, .int .u32 l, .sl (frsA ps) false], .agg [.int .i64 hn, .int .u32 he]]) (fun ⟨n, e, l, ps, hn, he⟩ => chanceR n e l ps hn he)
theorem sp_chanceP_eq (n e l : Int) (ps : List Fr) (hn he : Int) (h : ((0 ≤ e ∧ e ≤ 4294967295) ∧ (0 ≤ l ∧ l ≤ 4294967295) ∧ ps.length ≤ maxLen) ∧ (0 ≤ he ∧ he ≤ 4294967295)) : sp_chanceP [.agg [.int .i64 n, .int .u32 e, .int .u32 l, .sl (frsA ps) false], .agg [.int .i64 hn, .int .u32 he]] = some (chanceR n e l ps hn he) := by
  unfold sp_chanceP
  exact pf_eq (ι := (Int) × (Int) × (Int) × (List Fr) × (Int) × (Int)) (α := AV) (n, e, l, ps, hn, he) h (by rintro ⟨n', e', l', ps', hn', he'⟩ _ e; simp_all [Int.natCast_inj])
theorem told_ch (n e l : Int) (ps : List Fr) (m : Nat) (he : Int) : toldA (chV n e l ps m he false).2 (chV n e l ps m he false).1.p (chV n e l ps m he false).1.q = frO (chanceO n e l ps m he) := by
  obtain ⟨h1, h2⟩ := chF_G (fit := fun L => fitL true he e l L m) (ps := ps) (allL n.toNat m) ⟨0, 1⟩ false
  unfold chV chanceO
  cases hc : chF (fun L => fitL true he e l L m) ps ⟨0, 1⟩ (allL n.toNat m) with
  | none => rw [toldA, h2 hc]; rfl
  | some v => rw [h1 v hc]; rfl
theorem q_spec_ChanceIn : QP PP 21 sp_chanceP := by
  refine QP_pf (fun i h => ?_) fun i h => ?_
  · obtain ⟨n, e, l, ps, hn, he⟩ := i; exact ⟨by first | rfl | simp, by first | rfl | simp⟩
  obtain ⟨n, e, l, ps, hn, he⟩ := i
  replace h : ((0 ≤ e ∧ e ≤ 4294967295) ∧ (0 ≤ l ∧ l ≤ 4294967295) ∧ ps.length ≤ maxLen) ∧ (0 ≤ he ∧ he ≤ 4294967295) := h
  refine P_code (Quiet.q1 q_spec_l01Ok (Quiet.e1 m_spec_l07Ok.toE (Quiet.e1 v_spec_l07Chance.toE Quiet.nil))) hmix k_spec_ChanceIn rfl ?_ ?_
  · first | rfl | simp
  show wpc 0 PP _ c_spec_ChanceIn (initSt [.agg [.int .i64 n, .int .u32 e, .int .u32 l, .sl (frsA ps) false], .agg [.int .i64 hn, .int .u32 he]] .nil) (endP r_spec_ChanceIn (chanceR n e l ps hn he))
  obtain ⟨hp, hhe⟩ := h
  unfold chanceR
  have h1 := sp_l07Ok_eq n e l ps hp
  have h2 := sp_graphOk_eq hn he hhe
  cases hpo : patOk n e l ps with
  | false => simp -dsimp -implicitDefEqProofs [c_spec_ChanceIn, r_spec_ChanceIn, h1, h2, hpo, noFr]
  | true =>
    cases hg : graphOk hn he with
    | false => simp -dsimp -implicitDefEqProofs [c_spec_ChanceIn, r_spec_ChanceIn, h1, h2, hpo, hg, noFr]
    | true =>
      obtain ⟨_, hn4, _, hlen, hall⟩ := patOk_spec hpo
      obtain ⟨⟨m0, m5⟩, _⟩ := graphOk_lt hg hhe.1
      obtain ⟨m, rfl⟩ := Int.eq_ofNat_of_zero_le m0
      have h3 := sp_chanceS_eq n e l ps m he ⟨⟨hp.1, hp.2.1⟩, ⟨by omega, hhe⟩, hn4, hlen, allOk_in hall⟩
      cases hc : chanceO n e l ps m he with
      | none => rw [hc] at h3; simp -dsimp -implicitDefEqProofs [c_spec_ChanceIn, r_spec_ChanceIn, h1, h2, hpo, hg, h3, hc, frO]
      | some v => rw [hc] at h3; simp -dsimp -implicitDefEqProofs [c_spec_ChanceIn, r_spec_ChanceIn, h1, h2, hpo, hg, h3, hc, frO]
theorem q_impl_ChanceIn : QP PP 23 sp_chanceP := by
  refine QP_pf (fun i h => ?_) fun i h => ?_
  · obtain ⟨n, e, l, ps, hn, he⟩ := i; exact ⟨by first | rfl | simp, by first | rfl | simp⟩
  obtain ⟨n, e, l, ps, hn, he⟩ := i
  replace h : ((0 ≤ e ∧ e ≤ 4294967295) ∧ (0 ≤ l ∧ l ≤ 4294967295) ∧ ps.length ≤ maxLen) ∧ (0 ≤ he ∧ he ≤ 4294967295) := h
  refine P_code (Quiet.q1 q_impl_ValidPattern (Quiet.q1 q_impl_badGraph (Quiet.e1 v_impl_sums_chance.toE (Quiet.e1 m_impl_sums_told.toE Quiet.nil)))) hmix k_impl_ChanceIn rfl ?_ ?_
  · first | rfl | simp
  show wpc 0 PP _ c_impl_ChanceIn (initSt [.agg [.int .i64 n, .int .u32 e, .int .u32 l, .sl (frsA ps) false], .agg [.int .i64 hn, .int .u32 he]] .nil) (endP r_impl_ChanceIn (chanceR n e l ps hn he))
  obtain ⟨hp, hhe⟩ := h
  unfold chanceR
  have h1 := sp_patOk_eq n e l ps hp
  have h2 := sp_badGraph_eq hn he hhe
  cases hpo : patOk n e l ps with
  | false => simp -dsimp -implicitDefEqProofs [c_impl_ChanceIn, r_impl_ChanceIn, h1, h2, hpo, noFr]
  | true =>
    cases hg : graphOk hn he with
    | false => simp -dsimp -implicitDefEqProofs [c_impl_ChanceIn, r_impl_ChanceIn, h1, h2, hpo, hg, noFr]
    | true =>
      obtain ⟨_, hn4, _, hlen, hall⟩ := patOk_spec hpo
      obtain ⟨⟨m0, m5⟩, _⟩ := graphOk_lt hg hhe.1
      obtain ⟨m, rfl⟩ := Int.eq_ofNat_of_zero_le m0
      have h3 := sp_chanceI_eq n e l ps m he false ⟨⟨hp.1, hp.2.1⟩, ⟨by omega, hhe⟩, hn4, hlen, allOk_in hall⟩
      have h4 := told_ch n e l ps m he
      rw [Int.toNat_natCast, ← h4]
      cases hc : (chV n e l ps m he false).2 <;> rw [hc] at h3 <;> simp -dsimp -implicitDefEqProofs [c_impl_ChanceIn, r_impl_ChanceIn, h1, h2, hpo, hg, h3, hc, toldA]

set_option maxHeartbeats 2000000 in
theorem law_chanceIn (xs : List AV) (h : WtA [tyPattern, tyGraph] xs) : T PP 4 xs .nil fun r _ => r = .bool true := by
  simp only [WtA_cons, WtA_nil] at h
  obtain ⟨x, _, rfl, hx, y, _, rfl, hy, rfl⟩ := h
  obtain ⟨n, e, l, ps, rfl, h⟩ := wt_pattern hx
  simp only [tyGraph, WtV_st, WtL_int, WtL_nil] at hy
  obtain ⟨_, rfl, hn, _, rfl, _, he, _, rfl, hhe, rfl⟩ := hy
  have hhe : 0 ≤ he ∧ he ≤ 4294967295 := ⟨by simpa [IntKind.min, IntKind.signed] using hhe.1, by simpa [IntKind.max, IntKind.signed, IntKind.bits] using hhe.2⟩
  refine (P_code (r := .bool true) (Quiet.q1 q_laws_szPattern (Quiet.q1 q_laws_toGraph (Quiet.q1 q_laws_eqFraction (Quiet.e1 q_spec_ChanceIn.toR (Quiet.e1 n_laws_toPattern.toE (Quiet.e1 q_impl_ChanceIn.toR (Quiet.e1 q_laws_eqPattern.toR Quiet.nil))))))) hmix k_laws_FnExactChanceIn rfl rfl ?_).mono fun r A' h => h.1
  by_cases c : (ps.length : Int) ≤ 1048576
  · have c2 : ¬ ((1048576 : Int) - ps.length < 0) := by omega
    have hT := sp_toPatN_eq n e l ps (by omega)
    have hq := eqPat_refl n e l ps h.2.2
    have hB := sp_chanceP_eq n e l ps hn he ⟨⟨h.1, h.2.1, h.2.2⟩, hhe⟩
    have hR : ∃ p q c, chanceR n e l ps hn he = .tup [.agg [.int .i64 p, .int .i64 q], .int .i64 c] := by
      unfold chanceR noFr
      split
      · cases chanceO n e l ps hn.toNat he with
        | none => exact ⟨_, _, _, rfl⟩
        | some v => exact ⟨_, _, _, rfl⟩
      · exact ⟨_, _, _, rfl⟩
    obtain ⟨p, q, cd, hR⟩ := hR
    rw [hR] at hB
    simp -dsimp -implicitDefEqProofs [c_laws_FnExactChanceIn, r_laws_FnExactChanceIn, sp_szPattern_eq n e l ps 1048576 ⟨by omega, by omega, h.2.2⟩, c, c2, hT, hq, hB]
  · simp -dsimp -implicitDefEqProofs [c_laws_FnExactChanceIn, r_laws_FnExactChanceIn, sp_szPattern_eq n e l ps 1048576 ⟨by omega, by omega, h.2.2⟩, c]
end Go.Proofs.YtkgodhdpcomjbaaAi
end

section
/- Contracts: how many orders make a graph itself, as the reference counts them; least graphs. -/
namespace Go.Proofs.YtkgodhdpcomjbaaAi
open Go Go.RowKit
set_option linter.unusedVariables false
set_option linter.unusedSimpArgs false
set_option maxRecDepth 20000

noncomputable def sp_next0 : List AV → Option (AV) := pf (ι := (Int)) (α := AV) (fun n => True) (fun n => [.sl [] false, .int .i64 n]) (fun n => .bool false)
theorem sp_next0_eq (n : Int) : sp_next0 [.sl [] false, .int .i64 n] = some (.bool false) := by
  unfold sp_next0
  exact pf_eq (ι := (Int)) (α := AV) n trivial (by rintro n' _ e; simp_all [Int.natCast_inj])
attribute [simp] sp_next0_eq
theorem q_spec_l01Next : QP PP 175 sp_next0 := by
  refine QP_pf (fun n h => ?_) fun n h => ?_
  · exact ⟨by first | rfl | simp, by first | rfl | simp⟩
  replace h : True := h
  refine P_code Quiet.nil hmix k_spec_l01Next rfl ?_ ?_
  · first | rfl | simp
  show wpc 0 PP _ c_spec_l01Next (initSt [.sl [] false, .int .i64 n] .nil) (endP r_spec_l01Next (.bool false))
  have w0 : IntKind.i64.wrap (0 - 1) = -1 := rfl
  have w0' : IntKind.i64.wrap (-1) = -1 := rfl
  simp -dsimp -implicitDefEqProofs [c_spec_l01Next, r_spec_l01Next, w0, w0']
  refine wpLoop_st (fun (_ : Unit) => ⟨tl [(0, .sl [] false), (1, .int .i64 n), (5, .int .i64 0), (6, .int .i64 (-1))], ⟨[]⟩⟩) (fun _ => True) (fun _ => 0) () trivial (Sub.keep (by simp) (by simp [hsub]) (by simp)) ?_
  intro _ _
  simp -dsimp -implicitDefEqProofs
theorem e_spec_l01Next : QE PP 175 (refE (spV sp_nextP) (spR sp_next0)) := QE.ref v_spec_l01Next.toE q_spec_l01Next.toR

theorem orders_perm (n : Nat) : ordersL n 0 = permL n n := rfl
theorem selfB_nil : selfB 0 [] = true := by decide
def selfR (n : Nat) (e : Int) : AV := .tup [.int .i64 (selvesV n 0 e), .int .i64 0]
theorem on_nil (n e : Int) (he : 0 ≤ e ∧ e ≤ 4294967295) : sp_on [.agg [.int .i64 n, .int .u32 e], .sl [] false] = some (.agg [.int .i64 0, .int .u32 0]) := by
  have := sp_on_eq n e [] ⟨he, by simp, by simp, fun x hx => (by cases hx)⟩
  exact this
noncomputable def sp_countS : List AV → Option (AV) := pf (ι := (Nat) × (Int)) (α := AV) (fun ⟨n, e⟩ => graphOk n e = true ∧ (0 ≤ e ∧ e ≤ 4294967295)) (fun ⟨n, e⟩ => [.agg [.int .i64 n, .int .u32 e]]) (fun ⟨n, e⟩ => selfR n e)
theorem sp_countS_eq (n : Nat) (e : Int) (h : graphOk n e = true ∧ (0 ≤ e ∧ e ≤ 4294967295)) : sp_countS [.agg [.int .i64 n, .int .u32 e]] = some (selfR n e) := by
  unfold sp_countS
  exact pf_eq (ι := (Nat) × (Int)) (α := AV) (n, e) h (by rintro ⟨n', e'⟩ _ e; simp_all [Int.natCast_inj])
theorem q_spec_CountSelf : QP PP 156 sp_countS := by
  refine QP_pf (fun i h => ?_) fun i h => ?_
  · obtain ⟨n, e⟩ := i; exact ⟨by first | rfl | simp, by first | rfl | simp⟩
  obtain ⟨n, e⟩ := i
  replace h : graphOk n e = true ∧ (0 ≤ e ∧ e ≤ 4294967295) := h
  refine P_code (Quiet.q1 q_spec_l01Ok (Quiet.e1 n_spec_l01First.toE (Quiet.e1 q_spec_l01On.toR (Quiet.e1 e_spec_l01Next Quiet.nil)))) hmix k_spec_CountSelf rfl ?_ ?_
  · first | rfl | simp
  show wpc 0 PP _ c_spec_CountSelf (initSt [.agg [.int .i64 n, .int .u32 e]] .nil) (endP r_spec_CountSelf (selfR n e))
  obtain ⟨hg, he⟩ := h
  have h1 := sp_graphOk_eq n e he
  have hf := sp_firstP_eq n (by have := (of_decide_eq_true hg : _).1; omega)
  have hn5 : n ≤ 5 := by have := (of_decide_eq_true hg : _).1; omega
  unfold firstR at hf
  unfold selfR selvesV
  rw [orders_perm]
  rcases Nat.eq_zero_or_pos n with rfl | hn
  · have he0 : e = 0 := by
      have := (of_decide_eq_true hg : _).2
      simp [pI0] at this
      omega
    subst he0
    have hcnt : cntW (selfB 0) 0 (permL 0 0) = 1 := by decide
    rw [hcnt]
    have hf0 : sp_firstP [.int .i64 0] = some (.sl [] true, []) := hf
    have hon := on_nil 0 0 he
    have w1 : IntKind.i64.wrap 1 = 1 := rfl
    have h10 : sp_graphOk [.agg [.int .i64 0, .int .u32 0]] = some (.bool true) := by rw [hg] at h1; exact h1
    simp -dsimp -implicitDefEqProofs [c_spec_CountSelf, r_spec_CountSelf, h10, hf0]
    refine wpLoop_st (fun (m : Bool) => ⟨tl [(1, .ptr 0 0), (4, .int .i64 (if m = true then 0 else 1)), (5, .sl [] true), (6, .bool m)], ⟨[some [.int .i64 0, .int .u32 0]]⟩⟩) (fun _ => True) (fun m => if m = true then 1 else 0) true trivial (Sub.keep (by simp) (by simp [hsub]) (by simp)) ?_
    intro m _
    cases m with
    | true =>
      simp -dsimp -implicitDefEqProofs [hon, w1]
      exact .mk false trivial (by simp) (Sub.keep (by simp) (by simp [hsub]) (by simp))
    | false => simp -dsimp -implicitDefEqProofs
  · rw [if_neg (by omega)] at hf
    have hch := permL_chain n hn5 n (Nat.le_refl _)
    have hfi := permL_first n hn5 n (Nat.le_refl _)
    have hmem : ∀ (i : Nat) (L : List Int), (permL n n)[i]? = some L → distL L ∧ L.length = n ∧ ∀ x ∈ L, 0 ≤ x ∧ x < (n : Int) := fun i L h => permL_dist hn5 (Nat.le_refl _) (List.mem_of_getElem? h)
    generalize permL n n = AL at hch hfi hmem ⊢
    have hAL : 0 < AL.length := by
      rcases Nat.eq_zero_or_pos AL.length with h0 | h0
      · rw [List.getElem?_eq_none (by omega)] at hfi; cases hfi
      · exact h0
    simp -dsimp -implicitDefEqProofs [c_spec_CountSelf, r_spec_CountSelf, h1, hg, hf]
    refine wpLoop_st (fun (q : Nat × List Int × Int) => ⟨tl [(1, .ptr 0 0), (4, .int .i64 q.2.2), (5, .ref 1 1 0 n .full), (6, .bool (decide (q.1 < AL.length)))], ⟨[some [.int .i64 n, .int .u32 e], some (flatA (insA q.2.1))]⟩⟩)
      (fun q => q.1 ≤ AL.length ∧ q.2.1.length = n ∧ (q.1 < AL.length → AL[q.1]? = some q.2.1) ∧ cntW (selfB e) q.2.2 (AL.drop q.1) = cntW (selfB e) 0 AL)
      (fun q => AL.length - q.1) (0, upTo n, 0) ⟨by omega, by simp, fun _ => hfi, by simp⟩ (Sub.keep (by simp) (by simp [hsub]) (by simp [hAL])) ?_
    rintro ⟨i, L, c⟩ ⟨q1, q2, q3, q4⟩
    simp only at q1 q2 q3 q4
    by_cases hi : i < AL.length
    · have hL := q3 hi
      obtain ⟨hdist, _, hr⟩ := hmem i L hL
      have hon := sp_on_eq n e L ⟨he, hdist⟩
      have hnx0 := sp_nextP_eq n L .full ⟨hn5, by omega, fun x hx => by have := hr x hx; omega⟩
      rw [q2] at hon hnx0
      have hnx := chainB_get hch i L hL
      have hod : (nextF n L n).2 = decide (i + 1 < AL.length) ∧ (i + 1 < AL.length → AL[i + 1]? = some (nextF n L n).1) := by
        unfold nextN at hnx
        rw [q2] at hnx
        cases ho : (nextF n L n).2 with
        | true =>
          rw [ho, if_pos rfl] at hnx
          have := (List.getElem?_eq_some_iff.1 hnx.symm).1
          exact ⟨by simp [this], fun _ => hnx.symm⟩
        | false =>
          rw [ho] at hnx
          simp only [Bool.false_eq_true, if_false] at hnx
          have : ¬ i + 1 < AL.length := fun hlt => by rw [List.getElem?_eq_getElem hlt] at hnx; cases hnx
          exact ⟨by simp [this], fun h => absurd h this⟩
      have hod1 := hod.1
      have hlen2 : (nextF n L n).1.length = n := by rw [nextF_len]; exact q2
      have hL0 : AL[i] = L := by rw [List.getElem?_eq_getElem hi] at hL; exact Option.some.inj hL
      rw [drop_cons hi, hL0, cntW] at q4
      cases hv : selfB e L with
      | true =>
        have hb : ((onE e L : Int) == e) = true := by simpa [selfB] using hv
        rw [hv, if_pos rfl] at q4
        simp -dsimp -implicitDefEqProofs [hi, q2, hon, hb, hnx0, hod1]
        exact .mk (i + 1, (nextF n L n).1, IntKind.i64.wrap (c + 1)) ⟨by simp only; omega, hlen2, hod.2, q4⟩ (by simp only; omega) (Sub.keep (by simp) (by simp [hsub]) (by simp))
      | false =>
        have hb : ((onE e L : Int) == e) = false := by simpa [selfB] using hv
        rw [hv] at q4
        simp only [Bool.false_eq_true, if_false] at q4
        simp -dsimp -implicitDefEqProofs [hi, q2, hon, hb, hnx0, hod1]
        exact .mk (i + 1, (nextF n L n).1, c) ⟨by simp only; omega, hlen2, hod.2, q4⟩ (by simp only; omega) (Sub.keep (by simp) (by simp [hsub]) (by simp))
    · have : i = AL.length := by omega
      subst this
      rw [drop_end hi, cntW] at q4
      simp -dsimp -implicitDefEqProofs [hi, ← q4]

def leastW (n : Nat) (e : Int) : Bool := !(permL n n).any (lessB e)
noncomputable def sp_leastS : List AV → Option (AV) := pf (ι := (Nat) × (Int)) (α := AV) (fun ⟨n, e⟩ => n ≤ 5 ∧ (0 ≤ e ∧ e ≤ 4294967295)) (fun ⟨n, e⟩ => [.agg [.int .i64 n, .int .u32 e]]) (fun ⟨n, e⟩ => .bool (leastW n e))
theorem sp_leastS_eq (n : Nat) (e : Int) (h : n ≤ 5 ∧ (0 ≤ e ∧ e ≤ 4294967295)) : sp_leastS [.agg [.int .i64 n, .int .u32 e]] = some (.bool (leastW n e)) := by
  unfold sp_leastS
  exact pf_eq (ι := (Nat) × (Int)) (α := AV) (n, e) h (by rintro ⟨n', e'⟩ _ e; simp_all [Int.natCast_inj])
theorem q_spec_l01IsLeast : QP PP 162 sp_leastS := by
  refine QP_pf (fun i h => ?_) fun i h => ?_
  · obtain ⟨n, e⟩ := i; exact ⟨by first | rfl | simp, by first | rfl | simp⟩
  obtain ⟨n, e⟩ := i
  replace h : n ≤ 5 ∧ (0 ≤ e ∧ e ≤ 4294967295) := h
  refine P_code (Quiet.e1 n_spec_l01First.toE (Quiet.e1 q_spec_l01On.toR (Quiet.e1 e_spec_l01Next Quiet.nil))) hmix k_spec_l01IsLeast rfl ?_ ?_
  · first | rfl | simp
  show wpc 0 PP _ c_spec_l01IsLeast (initSt [.agg [.int .i64 n, .int .u32 e]] .nil) (endP r_spec_l01IsLeast (.bool (leastW n e)))
  obtain ⟨hn5, he⟩ := h
  have hf := sp_firstP_eq n (by omega)
  unfold firstR at hf
  unfold leastW
  rcases Nat.eq_zero_or_pos n with rfl | hn
  · have hf0 : sp_firstP [.int .i64 0] = some (.sl [] true, []) := hf
    have hon := on_nil 0 e he
    have hp : permL 0 0 = [[]] := rfl
    rw [hp]
    have hl : ([[]] : List (List Int)).any (lessB e) = decide (0 < e) := by simp [lessB, onE, madeE]
    rw [hl]
    simp -dsimp -implicitDefEqProofs [c_spec_l01IsLeast, r_spec_l01IsLeast, hf0]
    refine wpLoop_st (fun (m : Bool) => ⟨tl [(1, .ptr 0 0), (3, .sl [] true), (4, .bool m)], ⟨[some [.int .i64 0, .int .u32 e]]⟩⟩) (fun m => m = false → ¬ 0 < e) (fun m => if m = true then 1 else 0) true (by simp) (Sub.keep (by simp) (by simp [hsub]) (by simp)) ?_
    intro m hm
    cases m with
    | true =>
      by_cases he0 : 0 < e
      · simp -dsimp -implicitDefEqProofs [hon, he0]
      · simp -dsimp -implicitDefEqProofs [hon, he0]
        exact .mk false (by first | exact fun _ => he0 | simp [he0] | trivial) (by simp) (Sub.keep (by simp) (by simp [hsub]) (by simp))
    | false =>
      have := hm rfl
      simp -dsimp -implicitDefEqProofs [this]
  · rw [if_neg (by omega)] at hf
    have hch := permL_chain n hn5 n (Nat.le_refl _)
    have hfi := permL_first n hn5 n (Nat.le_refl _)
    have hmem : ∀ (i : Nat) (L : List Int), (permL n n)[i]? = some L → distL L ∧ L.length = n ∧ ∀ x ∈ L, 0 ≤ x ∧ x < (n : Int) := fun i L h => permL_dist hn5 (Nat.le_refl _) (List.mem_of_getElem? h)
    generalize permL n n = AL at hch hfi hmem ⊢
    have hAL : 0 < AL.length := by
      rcases Nat.eq_zero_or_pos AL.length with h0 | h0
      · rw [List.getElem?_eq_none (by omega)] at hfi; cases hfi
      · exact h0
    generalize hany : AL.any (lessB e) = A
    simp -dsimp -implicitDefEqProofs [c_spec_l01IsLeast, r_spec_l01IsLeast, hf]
    refine wpLoop_st (fun (q : Nat × List Int) => ⟨tl [(1, .ptr 0 0), (3, .ref 1 1 0 n .full), (4, .bool (decide (q.1 < AL.length)))], ⟨[some [.int .i64 n, .int .u32 e], some (flatA (insA q.2))]⟩⟩)
      (fun q => q.1 ≤ AL.length ∧ q.2.length = n ∧ (q.1 < AL.length → AL[q.1]? = some q.2) ∧ (AL.drop q.1).any (lessB e) = A)
      (fun q => AL.length - q.1) (0, upTo n) ⟨by omega, by simp, fun _ => hfi, by simpa using hany⟩ (Sub.keep (by simp) (by simp [hsub]) (by simp [hAL])) ?_
    rintro ⟨i, L⟩ ⟨q1, q2, q3, q4⟩
    simp only at q1 q2 q3 q4
    by_cases hi : i < AL.length
    · have hL := q3 hi
      obtain ⟨hdist, _, hr⟩ := hmem i L hL
      have hon := sp_on_eq n e L ⟨he, hdist⟩
      have hnx0 := sp_nextP_eq n L .full ⟨hn5, by omega, fun x hx => by have := hr x hx; omega⟩
      rw [q2] at hon hnx0
      have hnx := chainB_get hch i L hL
      have hod : (nextF n L n).2 = decide (i + 1 < AL.length) ∧ (i + 1 < AL.length → AL[i + 1]? = some (nextF n L n).1) := by
        unfold nextN at hnx
        rw [q2] at hnx
        cases ho : (nextF n L n).2 with
        | true =>
          rw [ho, if_pos rfl] at hnx
          have := (List.getElem?_eq_some_iff.1 hnx.symm).1
          exact ⟨by simp [this], fun _ => hnx.symm⟩
        | false =>
          rw [ho] at hnx
          simp only [Bool.false_eq_true, if_false] at hnx
          have : ¬ i + 1 < AL.length := fun hlt => by rw [List.getElem?_eq_getElem hlt] at hnx; cases hnx
          exact ⟨by simp [this], fun h => absurd h this⟩
      have hod1 := hod.1
      have hlen2 : (nextF n L n).1.length = n := by rw [nextF_len]; exact q2
      have hL0 : AL[i] = L := by rw [List.getElem?_eq_getElem hi] at hL; exact Option.some.inj hL
      rw [drop_cons hi, hL0, List.any_cons] at q4
      cases hv : lessB e L with
      | true =>
        have hb : (onE e L : Int) < e := by simpa [lessB] using hv
        rw [hv, Bool.true_or] at q4
        simp -dsimp -implicitDefEqProofs [hi, q2, hon, hb, ← q4]
      | false =>
        have hb : ¬ (onE e L : Int) < e := by simpa [lessB] using hv
        rw [hv, Bool.false_or] at q4
        simp -dsimp -implicitDefEqProofs [hi, q2, hon, hb, hnx0, hod1]
        exact .mk (i + 1, (nextF n L n).1) ⟨by simp only; omega, hlen2, hod.2, q4⟩ (by simp only; omega) (Sub.keep (by simp) (by simp [hsub]) (by simp))
    · have : i = AL.length := by omega
      subst this
      rw [drop_end hi] at q4
      simp -dsimp -implicitDefEqProofs [hi, ← q4]
end Go.Proofs.YtkgodhdpcomjbaaAi
end

section
/- How many orders make a graph itself: a divisor of the number of all orders. -/
namespace Go.Proofs.YtkgodhdpcomjbaaAi
open Go Go.RowKit
set_option linter.unusedVariables false
set_option linter.unusedSimpArgs false
set_option maxRecDepth 20000

def fastB (e : Int) (n : Nat) (K : List Int) : Bool := pairsB (fun i j => hasB e (atI K i) (atI K j) == hasB e i j) n
theorem pairsB_iff {f : Nat → Nat → Bool} : ∀ {n : Nat}, pairsB f n = true ↔ ∀ a b, a < b → b < n → f a b = true
  | 0 => by simp [pairsB]
  | n + 1 => by
    have hrow : ∀ i, rowB f n i = true ↔ ∀ a, a < i → f a n = true := by
      intro i
      induction i with
      | zero => simp [rowB]
      | succ i ih =>
        rw [rowB, Bool.and_eq_true, ih]
        constructor
        · rintro ⟨h1, h2⟩ a ha
          by_cases h : a = i
          · subst h; exact h2
          · exact h1 a (by omega)
        · intro h
          exact ⟨fun a ha => h a (by omega), h i (by omega)⟩
    rw [pairsB, Bool.and_eq_true, pairsB_iff, hrow]
    constructor
    · rintro ⟨h1, h2⟩ a b hab hb
      by_cases h : b = n
      · subst h; exact h2 a hab
      · exact h1 a b hab (by omega)
    · intro h
      exact ⟨fun a b hab hb => h a b hab (by omega), fun a ha => h a n ha (by omega)⟩
theorem self_fast {e n : Nat} {K : List Int} (hK : K.length = n) (he : e < 2 ^ (n * (n - 1) / 2)) : selfB e K = fastB e n K := by
  rw [Bool.eq_iff_iff]
  unfold selfB fastB onE
  rw [hK, decide_eq_true_eq, pairsB_iff]
  constructor
  · intro h a b hab hb
    have h : madeE (fun i j => hasB e (atI K i) (atI K j)) n = e := by omega
    have h1 := madeE_has (fun i j => hasB e (atI K i) (atI K j)) hab hb
    rw [h] at h1
    rw [beq_iff_eq, ← h1]
    simp [hasB]
  · intro h
    have : madeE (fun i j => hasB e (atI K i) (atI K j)) n = e := by
      refine edges_ext (madeE_tri _ n) he fun a b hab hb => ?_
      rw [madeE_has _ hab hb]
      have := h a b hab hb
      rw [beq_iff_eq] at this
      rw [this]
      simp [hasB]
    omega
def factN : Nat → Nat
  | 0 => 1
  | n + 1 => factN n * (n + 1)
def cntN (e n : Nat) : Nat := ((permL n n).filter (fastB e n)).length

/-! ### orders of n vertices -/
def isP (n : Nat) (K : List Int) : Prop := K.length = n ∧ K.Nodup ∧ ∀ x ∈ K, 0 ≤ x ∧ x < (n : Int)
theorem mem_dfs {k : Nat} : ∀ {d : Nat} {now r : List Int}, r.length = d → (now ++ r).Nodup → (∀ x ∈ r, 0 ≤ x ∧ x < (k : Int)) → now ++ r ∈ dfsL newM k d now
  | 0, now, r, h, _, _ => by
    have := List.eq_nil_of_length_eq_zero h
    subst this
    simp [dfsL]
  | d + 1, now, [], h, _, _ => by simp at h
  | d + 1, now, x :: r, h, hn, hr => by
    have hx := hr x (List.mem_cons_self ..)
    obtain ⟨y, rfl⟩ := Int.eq_ofNat_of_zero_le hx.1
    rw [dfsL, List.mem_flatMap]
    refine ⟨y, List.mem_range.2 (by omega), ?_⟩
    have hnew : newM now y = true := by
      unfold newM
      cases hi : inL now y with
      | false => rfl
      | true =>
        have := inL_of hi
        rw [List.nodup_append] at hn
        exact absurd rfl (hn.2.2 _ this _ (List.mem_cons_self ..))
    rw [if_pos hnew]
    have e : now ++ (y : Int) :: r = (now ++ [(y : Int)]) ++ r := by simp
    rw [e] at hn ⊢
    exact mem_dfs (by simpa using h) hn fun z hz => hr z (List.mem_cons_of_mem _ hz)
theorem mem_permL {n : Nat} {K : List Int} : K ∈ permL n n ↔ isP n K := by
  constructor
  · intro h
    exact ⟨by have := dfsL_len h; simpa using this, dfs_nodup List.nodup_nil h, dfsL_range (fun x hx => by cases hx) h⟩
  · rintro ⟨h1, h2, h3⟩
    have := mem_dfs (k := n) (d := n) (now := []) (r := K) h1 (by simpa using h2) h3
    rw [List.nil_append] at this
    exact this
theorem permL_nodup : ∀ n, n ≤ 5 → (permL n n).Nodup := by
  have : ∀ n, n < 6 → (permL n n).Nodup := by decide +kernel
  exact fun n h => this n (by omega)
/-- A list of different things within a list that is no longer has all of it. -/
theorem all_of_len {α : Type} {A B : List α} (hA : A.Nodup) (hs : A ⊆ B) (hl : B.length ≤ A.length) : ∀ x ∈ B, x ∈ A := by
  intro x hx
  refine Classical.byContradiction fun hno => ?_
  have h1 : (x :: A).Nodup := List.nodup_cons.2 ⟨hno, hA⟩
  have h2 : (x :: A) ⊆ B := fun y hy => by
    rcases List.mem_cons.1 hy with rfl | hy
    · exact hx
    · exact hs hy
  have := h1.length_le_of_subset h2
  simp at this
  omega
theorem isP.at {n : Nat} {K : List Int} (h : isP n K) {i : Nat} (hi : i < n) : ∃ a : Nat, atI K i = a ∧ a < n := by
  have hi' : i < K.length := by rw [h.1]; exact hi
  rw [← atI_get hi']
  obtain ⟨h0, h1⟩ := h.2.2 _ (List.getElem_mem hi')
  obtain ⟨a, ha⟩ := Int.eq_ofNat_of_zero_le h0
  exact ⟨a, ha, by omega⟩
theorem isP.surj {n : Nat} {K : List Int} (h : isP n K) {a : Nat} (ha : a < n) : ∃ i, i < n ∧ atI K i = a := by
  have hsub : K ⊆ (List.range n).map (fun (i : Nat) => (i : Int)) := by
    intro x hx
    obtain ⟨h0, h1⟩ := h.2.2 x hx
    obtain ⟨y, rfl⟩ := Int.eq_ofNat_of_zero_le h0
    exact List.mem_map.2 ⟨y, List.mem_range.2 (by omega), rfl⟩
  have := all_of_len h.2.1 hsub (by simp [h.1]) (a : Int) (List.mem_map.2 ⟨a, List.mem_range.2 ha, rfl⟩)
  obtain ⟨i, hi, e⟩ := List.mem_iff_getElem.1 this
  exact ⟨i, by rw [← h.1]; exact hi, by rw [← atI_get hi]; exact e⟩
/-- One order behind another one. -/
def compL (K K0 : List Int) : List Int := K0.map fun x => atI K x.toNat
theorem compL_at {K K0 : List Int} {i : Nat} (hi : i < K0.length) : atI (compL K K0) i = atI K (atI K0 i).toNat := by
  have h1 : i < (compL K K0).length := by simpa [compL] using hi
  rw [← atI_get h1, ← atI_get hi]
  simp [compL]
theorem isP.comp {n : Nat} {K K0 : List Int} (h : isP n K) (h0 : isP n K0) : isP n (compL K K0) := by
  refine ⟨by simp [compL, h0.1], ?_, fun x hx => ?_⟩
  · unfold compL
    rw [List.nodup_iff_pairwise_ne, List.pairwise_map]
    have := List.nodup_iff_pairwise_ne.1 h0.2.1
    refine this.imp_of_mem fun {a b} ha hb hab e => hab ?_
    obtain ⟨a0, a1⟩ := h0.2.2 a ha
    obtain ⟨b0, b1⟩ := h0.2.2 b hb
    have hla : a.toNat < K.length := by rw [h.1]; omega
    have hlb : b.toNat < K.length := by rw [h.1]; omega
    rw [← atI_get hla, ← atI_get hlb] at e
    have := (List.getElem_inj h.2.1).1 e
    omega
  · obtain ⟨y, hy, rfl⟩ := List.mem_map.1 hx
    obtain ⟨y0, y1⟩ := h0.2.2 y hy
    have hl : y.toNat < K.length := by rw [h.1]; omega
    rw [← atI_get hl]
    exact h.2.2 _ (List.getElem_mem hl)
theorem comp_inj {n : Nat} {K K' K0 : List Int} (h : isP n K) (h' : isP n K') (h0 : isP n K0) (e : compL K K0 = compL K' K0) : K = K' := by
  apply List.ext_getElem (by rw [h.1, h'.1])
  intro i hi hi'
  rw [h.1] at hi
  obtain ⟨j, hj, ej⟩ := h0.surj hi
  have hj0 : j < K0.length := by rw [h0.1]; exact hj
  have := congrArg (fun L => atI L j) e
  simp only [compL_at hj0, ej, Int.toNat_natCast] at this
  rw [atI_get, atI_get]
  exact this
theorem on_comp {n e : Nat} {K K0 : List Int} (h : isP n K) (h0 : isP n K0) : onE (onE e K) K0 = onE e (compL K K0) := by
  have hl : (compL K K0).length = n := by simp [compL, h0.1]
  unfold onE
  rw [hl, h0.1, h.1]
  apply madeE_congr
  intro i j hij hj
  have hi0 : i < K0.length := by rw [h0.1]; omega
  have hj0 : j < K0.length := by rw [h0.1]; omega
  rw [compL_at hi0, compL_at hj0]
  obtain ⟨a, ha, han⟩ := h0.at (show i < n by omega)
  obtain ⟨b, hb, hbn⟩ := h0.at hj
  have hab : a ≠ b := by
    intro e
    subst e
    rw [← hb, ← atI_get hi0, ← atI_get hj0] at ha
    have := (List.getElem_inj h0.2.1).1 ha
    omega
  rw [ha, hb]
  simp only [Int.toNat_natCast]
  show hasB _ a b = _
  unfold hasB
  simp only [Int.toNat_natCast]
  rcases Nat.lt_or_gt_of_ne hab with hlt | hgt
  · exact madeE_has (fun i j => hasB e (atI K i) (atI K j)) hlt hbn
  · have h9 := madeE_has (fun i j => hasB e (atI K i) (atI K j)) hgt han
    unfold hasB at h9
    simp only [Int.toNat_natCast] at h9
    rw [bitI_c, h9, bitI_c]
theorem onE_tri (e : Int) {n : Nat} {K : List Int} (h : K.length = n) : onE e K < 2 ^ (n * (n - 1) / 2) := by
  unfold onE; rw [h]; exact madeE_tri _ n
theorem on_inj {n e1 e2 : Nat} {K0 : List Int} (h0 : isP n K0) (h1 : e1 < 2 ^ (n * (n - 1) / 2)) (h2 : e2 < 2 ^ (n * (n - 1) / 2)) (e : onE e1 K0 = onE e2 K0) : e1 = e2 := by
  refine edges_ext h1 h2 fun a b hab hb => ?_
  obtain ⟨i, hi, ei⟩ := h0.surj (show a < n by omega)
  obtain ⟨j, hj, ej⟩ := h0.surj hb
  have key : ∀ (e : Nat), (onE e K0).testBit (bitI i j) = e.testBit (bitI a b) := by
    intro e
    unfold onE
    rw [h0.1]
    have hij : i ≠ j := fun h => by subst h; rw [ei] at ej; omega
    rcases Nat.lt_or_gt_of_ne hij with hlt | hgt
    · rw [madeE_has _ hlt hj, ei, ej]; simp [hasB]
    · rw [bitI_c, madeE_has _ hgt hi, ei, ej, bitI_c (i := a)]; simp [hasB]
  rw [← key e1, ← key e2, e]
theorem map_comp_perm {n : Nat} (hn : n ≤ 5) {K0 : List Int} (h0 : isP n K0) : ((permL n n).map fun K => compL K K0).Perm (permL n n) := by
  have hnd := permL_nodup n hn
  have hnd2 : ((permL n n).map fun K => compL K K0).Nodup := by
    rw [List.nodup_iff_pairwise_ne, List.pairwise_map]
    refine (List.nodup_iff_pairwise_ne.1 hnd).imp_of_mem fun {a b} ha hb hab e => hab ?_
    exact comp_inj (mem_permL.1 ha) (mem_permL.1 hb) h0 e
  have hsub : ((permL n n).map fun K => compL K K0) ⊆ permL n n := by
    intro x hx
    obtain ⟨K, hK, rfl⟩ := List.mem_map.1 hx
    exact mem_permL.2 ((mem_permL.1 hK).comp h0)
  rw [List.perm_ext_iff_of_nodup hnd2 hnd]
  exact fun x => ⟨fun h => hsub h, fun h => all_of_len hnd2 hsub (by simp) x h⟩
theorem split_len {α : Type} (p : α → Bool) : ∀ l : List α, l.length = (l.filter p).length + (l.filter fun y => !p y).length
  | [] => rfl
  | x :: l => by
    rw [List.filter_cons, List.filter_cons, List.length_cons, split_len p l]
    cases p x <;> simp <;> omega
/-- Values that are all met equally often. -/
theorem equal_count {α : Type} (f : α → Nat) (c : Nat) : ∀ (k : Nat) (l : List α), l.length ≤ k → (∀ x ∈ l, (l.filter fun y => f y == f x).length = c) → c ∣ l.length
  | 0, l, h, _ => by
    have : l = [] := List.eq_nil_of_length_eq_zero (by omega)
    subst this
    exact Nat.dvd_zero c
  | k + 1, [], h, _ => Nat.dvd_zero c
  | k + 1, x :: l, h, hc => by
    have hx := hc x (List.mem_cons_self ..)
    have hsplit : (x :: l).length = ((x :: l).filter fun y => f y == f x).length + ((x :: l).filter fun y => !(f y == f x)).length := by
      exact split_len _ _
    have hpos : 0 < ((x :: l).filter fun y => f y == f x).length := by
      rw [List.length_pos_iff_exists_mem]
      exact ⟨x, List.mem_filter.2 ⟨List.mem_cons_self .., by simp⟩⟩
    have ih := equal_count f c k ((x :: l).filter fun y => !(f y == f x)) (by omega) (fun z hz => by
      obtain ⟨hz1, hz2⟩ := List.mem_filter.1 hz
      rw [List.filter_filter]
      rw [← hc z hz1]
      congr 1
      apply List.filter_congr
      intro y _
      by_cases hyz : f y = f z
      · rw [hyz]
        simp only [Bool.not_eq_true'] at hz2
        simp [hz2]
      · simp [hyz])
    rw [hsplit, hx]
    exact Nat.dvd_add (Nat.dvd_refl c) ih
theorem cnt_dvd {n e : Nat} (hn : n ≤ 5) (he : e < 2 ^ (n * (n - 1) / 2)) : cntN e n ∣ (permL n n).length := by
  refine equal_count (fun K => onE e K) (cntN e n) _ (permL n n) (Nat.le_refl _) fun K0 hK0 => ?_
  have h0 := mem_permL.1 hK0
  have hp := map_comp_perm hn h0
  have h1 : ((permL n n).filter fun y => onE e y == onE e K0).length = (((permL n n).map fun K => compL K K0).filter fun y => onE e y == onE e K0).length := by
    rw [← List.countP_eq_length_filter, ← List.countP_eq_length_filter]
    exact (hp.countP_eq _).symm
  rw [h1, List.filter_map, List.length_map]
  unfold cntN
  congr 1
  apply List.filter_congr
  intro K hK
  have hKp := mem_permL.1 hK
  rw [← self_fast hKp.1 he, Bool.eq_iff_iff]
  simp only [Function.comp, beq_iff_eq, selfB, decide_eq_true_eq]
  rw [← on_comp hKp h0]
  constructor
  · intro h
    have := on_inj h0 (onE_tri _ hKp.1) he h
    omega
  · intro h
    have : onE e K = e := by omega
    rw [this]
theorem permL_length : ∀ n, n ≤ 5 → (permL n n).length = factN n := by
  have : ∀ n, n < 6 → (permL n n).length = factN n := by decide +kernel
  exact fun n h => this n (by omega)
theorem on_id {n e : Nat} (he : e < 2 ^ (n * (n - 1) / 2)) : onE e (upTo n) = e := by
  have hat : ∀ {n i : Nat}, i < n → atI (upTo n) i = i := by
    intro n
    induction n with
    | zero => intro i h; omega
    | succ n ih =>
      intro i h
      unfold atI upTo
      by_cases hi : i < n
      · rw [List.getD_eq_getElem?_getD, List.getElem?_append_left (by simpa using hi), ← List.getD_eq_getElem?_getD]
        exact ih hi
      · have : i = n := by omega
        subst this
        simp
  refine edges_ext (onE_tri _ (upTo_len n)) he fun a b hab hb => ?_
  unfold onE
  rw [upTo_len, madeE_has _ hab hb, hat (by omega), hat hb]
  simp [hasB]
theorem cnt_pos {n e : Nat} (he : e < 2 ^ (n * (n - 1) / 2)) : cntN e n ≠ 0 := by
  have hm : upTo n ∈ permL n n := mem_permL.2 ⟨upTo_len n, upTo_nodup n, fun x hx => upTo_mem hx⟩
  have hs : fastB e n (upTo n) = true := by
    rw [← self_fast (upTo_len n) he]
    unfold selfB
    rw [decide_eq_true_eq, on_id he]
  have : 0 < cntN e n := by
    unfold cntN
    rw [List.length_pos_iff_exists_mem]
    exact ⟨_, List.mem_filter.2 ⟨hm, hs⟩⟩
  omega
end Go.Proofs.YtkgodhdpcomjbaaAi
end
