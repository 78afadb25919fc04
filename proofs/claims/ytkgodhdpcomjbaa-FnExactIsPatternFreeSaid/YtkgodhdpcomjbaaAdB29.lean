/- Contracts: lists of forbidden parts; the law of IsPatternFree. -/
import Derived.Test.YtkgodhdpcomjbaaAdB28
namespace Go.Proofs.YtkgodhdpcomjbaaAi
open Go Go.RowKit
set_option linter.unusedVariables false
set_option linter.unusedSimpArgs false
set_option maxRecDepth 20000

theorem T_indexG {g : FuncId} {caps : List AV} {os : List (Option (List AV))} (f : Gr → Bool) (l : List Gr) (hl : l.length ≤ maxLen) (ho : ClosedH os) (hc : ltL os.length caps = true)
    (hf : ∀ x ∈ l, T PP g ([grA x] ++ caps) ⟨os⟩ fun r A' => r = .bool (f x) ∧ A' = ⟨os⟩) :
    T PP 155 [.sl (grsA l) false, .fn g caps] ⟨os⟩ fun r A' => r = .int .i64 (idxF f l 0) ∧ A' = ⟨os⟩ := by
  refine H_code Quiet.nil hmix k_slices_IndexFunc_Simpl_Graph_impl_Graph rfl (fun b => b) (Nat.le_refl _) (fun _ _ => rfl) (injB_id _) (by rfl) ?_
  show wpc os.length PP _ c_slices_IndexFunc_Simpl_Graph_impl_Graph (initSt [.sl (grsA l) false, .fn g caps] ⟨os⟩) _
  simp only [maxLen] at hl
  simp -dsimp -implicitDefEqProofs [c_slices_IndexFunc_Simpl_Graph_impl_Graph, r_slices_IndexFunc_Simpl_Graph_impl_Graph]
  refine wpLoop_st (fun (i : Nat) => ⟨tl [(0, .sl (grsA l) false), (1, .fn g caps), (7, .int .i64 l.length), (8, .int .i64 i)], ⟨os⟩⟩) (fun i => i ≤ l.length ∧ idxF f (l.drop i) i = idxF f l 0) (fun i => l.length - i) 0 ⟨by omega, rfl⟩ (Sub.pre0 ho (by simp [hc])) ?_
  rintro i ⟨hi, hx⟩
  simp -dsimp -implicitDefEqProofs
  refine brW_of (fun h => ?_) (fun h => ?_) <;> simp only [decide_eq_true_eq, decide_eq_false_iff_not] at h
  · have hi' : i < l.length := by omega
    have hw := wrapNat (i := i) (by omega)
    simp -dsimp -implicitDefEqProofs [hi', hw]
    refine (hf l[i] (List.getElem_mem hi')).mono ?_
    rintro r A' ⟨rfl, rfl⟩
    rw [drop_cons hi', idxF] at hx
    cases hv : f l[i] with
    | false =>
      simp only [hv, Bool.false_eq_true, if_false] at hx
      simp -dsimp -implicitDefEqProofs [hw]
      exact .mk (i + 1) ⟨by omega, hx⟩ (by omega) (Sub.pre0 ho (by simp [hw, hc]))
    | true =>
      simp only [hv, if_true] at hx
      simp -dsimp -implicitDefEqProofs [← hx, hsub_all ho]
  · have : i = l.length := by omega
    subst this
    simp [idxF] at hx
    simp -dsimp -implicitDefEqProofs [← hx, hsub_all ho]
noncomputable def yesG (sp : List AV → AHeap → Option (AV × AHeap)) (caps : List AV) (A : AHeap) (x : Gr) : Bool := yesOf sp ([grA x] ++ caps) A
open Classical in
noncomputable def spIdxG (g : FuncId) (sp : List AV → AHeap → Option (AV × AHeap)) : List AV → AHeap → Option (AV × AHeap)
  | [.sl xs false, .fn g' caps], A => if h : g' = g ∧ ∃ l : List Gr, xs = grsA l ∧ l.length ≤ maxLen ∧ ∀ x ∈ l, sp ([grA x] ++ caps) A = some (.bool (yesG sp caps A x), A)
      then some (.int .i64 (idxF (yesG sp caps A) h.2.choose 0), A) else none
  | _, _ => none
theorem spIdxG_eq {g : FuncId} {sp : List AV → AHeap → Option (AV × AHeap)} (f : Gr → Bool) {l : List Gr} {caps : List AV} {A : AHeap} (hl : l.length ≤ maxLen) (h : ∀ x ∈ l, sp ([grA x] ++ caps) A = some (.bool (f x), A)) :
    spIdxG g sp [.sl (grsA l) false, .fn g caps] A = some (.int .i64 (idxF f l 0), A) := by
  have hy : ∀ x ∈ l, yesG sp caps A x = f x := by
    intro x hx
    unfold yesG yesOf
    rw [h x hx]
  have hc : g = g ∧ ∃ k : List Gr, grsA l = grsA k ∧ k.length ≤ maxLen ∧ ∀ x ∈ k, sp ([grA x] ++ caps) A = some (.bool (yesG sp caps A x), A) := ⟨rfl, l, rfl, hl, fun x hx => by rw [hy x hx]; exact h x hx⟩
  unfold spIdxG
  dsimp only
  rw [dif_pos hc]
  have e : hc.2.choose = l := (grsA_inj.1 hc.2.choose_spec.1).symm
  rw [e]
  have : ∀ (l : List Gr) (i : Nat), (∀ x ∈ l, yesG sp caps A x = f x) → idxF (yesG sp caps A) l i = idxF f l i := by
    intro l
    induction l with
    | nil => intro _ _; rfl
    | cons x l ih => intro i h; rw [idxF, idxF, h x (List.mem_cons_self ..), ih _ fun y hy => h y (List.mem_cons_of_mem _ hy)]
  rw [this l 0 hy]
theorem QE_idxG {g : FuncId} {sp : List AV → AHeap → Option (AV × AHeap)} (hg : QE PP g sp) : QE PP 155 (spIdxG g sp) := by
  intro args A r A1 e
  unfold spIdxG at e
  split at e
  · rename_i xs g' caps
    split at e
    · rename_i hc
      obtain ⟨rfl, hx⟩ := hc
      injection e with e
      injection e with e1 e2
      subst e1; subst e2
      obtain ⟨h1, h2, h3⟩ := hx.choose_spec
      generalize hx.choose = l at h1 h2 h3
      subst h1
      refine T.of_closed (T_indexG (g := g') (caps := []) (os := []) (fun _ => true) [] (by simp) ClosedH.nil rfl (fun x hx => (by cases hx))).1 fun ho hl => ?_
      exact T_indexG (os := A.l) _ l h2 ho (by simpa [ltL, AV.lt] using hl) fun x hx => hg _ _ _ _ (h3 x hx)
    · cases e
  · cases e
theorem T_anyG {g : FuncId} {sp : List AV → AHeap → Option (AV × AHeap)} (hg : QE PP g sp) {caps : List AV} {os : List (Option (List AV))} (f : Gr → Bool) (l : List Gr) (hl : l.length ≤ maxLen) (ho : ClosedH os) (hc : ltL os.length caps = true) (hcl : looseL caps = caps)
    (hf : ∀ x ∈ l, sp ([grA x] ++ caps) ⟨os⟩ = some (.bool (f x), ⟨os⟩)) :
    T PP 99 [.sl (grsA l) false, .fn g caps] ⟨os⟩ fun r A' => r = .bool (l.any f) ∧ A' = ⟨os⟩ := by
  refine H_code (Quiet.e1 (QE_idxG hg) Quiet.nil) hmix k_slices_ContainsFunc_Simpl_Graph_impl_Graph rfl (fun b => b) (Nat.le_refl _) (fun _ _ => rfl) (injB_id _) (by rfl) ?_
  show wpc os.length PP _ c_slices_ContainsFunc_Simpl_Graph_impl_Graph (initSt [.sl (grsA l) false, .fn g caps] ⟨os⟩) _
  simp -dsimp -implicitDefEqProofs [c_slices_ContainsFunc_Simpl_Graph_impl_Graph, r_slices_ContainsFunc_Simpl_Graph_impl_Graph, hcl, spIdxG_eq f hl hf, hsub_all ho, ← idxF_ge f l 0]
open Classical in
noncomputable def spAnyG (g : FuncId) (sp : List AV → AHeap → Option (AV × AHeap)) : List AV → AHeap → Option (AV × AHeap)
  | [.sl xs false, .fn g' caps], A => if h : g' = g ∧ looseL caps = caps ∧ ∃ l : List Gr, xs = grsA l ∧ l.length ≤ maxLen ∧ ∀ x ∈ l, sp ([grA x] ++ caps) A = some (.bool (yesG sp caps A x), A)
      then some (.bool (h.2.2.choose.any (yesG sp caps A)), A) else none
  | _, _ => none
theorem spAnyG_eq {g : FuncId} {sp : List AV → AHeap → Option (AV × AHeap)} (f : Gr → Bool) {l : List Gr} {caps : List AV} {A : AHeap} (hl : l.length ≤ maxLen) (hcl : looseL caps = caps) (h : ∀ x ∈ l, sp ([grA x] ++ caps) A = some (.bool (f x), A)) :
    spAnyG g sp [.sl (grsA l) false, .fn g caps] A = some (.bool (l.any f), A) := by
  have hy : ∀ x ∈ l, yesG sp caps A x = f x := by
    intro x hx
    unfold yesG yesOf
    rw [h x hx]
  have hc : g = g ∧ looseL caps = caps ∧ ∃ k : List Gr, grsA l = grsA k ∧ k.length ≤ maxLen ∧ ∀ x ∈ k, sp ([grA x] ++ caps) A = some (.bool (yesG sp caps A x), A) := ⟨rfl, hcl, l, rfl, hl, fun x hx => by rw [hy x hx]; exact h x hx⟩
  unfold spAnyG
  dsimp only
  rw [dif_pos hc]
  have e : hc.2.2.choose = l := (grsA_inj.1 hc.2.2.choose_spec.1).symm
  rw [e]
  have : l.any (yesG sp caps A) = l.any f := by
    clear e hc h hl
    induction l with
    | nil => rfl
    | cons x l ih => rw [List.any_cons, List.any_cons, hy x (List.mem_cons_self ..), ih fun y hm => hy y (List.mem_cons_of_mem _ hm)]
  rw [this]
theorem QE_anyG {g : FuncId} {sp : List AV → AHeap → Option (AV × AHeap)} (hg : QE PP g sp) : QE PP 99 (spAnyG g sp) := by
  intro args A r A1 e
  unfold spAnyG at e
  split at e
  · rename_i xs g' caps
    split at e
    · rename_i hc
      obtain ⟨rfl, hcl, hx⟩ := hc
      injection e with e
      injection e with e1 e2
      subst e1; subst e2
      obtain ⟨h1, h2, h3⟩ := hx.choose_spec
      generalize hx.choose = l at h1 h2 h3
      subst h1
      refine T.of_closed (T_anyG hg (caps := []) (os := []) (fun _ => true) [] (by simp) ClosedH.nil rfl rfl (fun x hx => (by cases hx))).1 fun ho hl => ?_
      exact T_anyG hg (os := A.l) _ l h2 ho (by simpa [ltL, AV.lt] using hl) hcl h3
    · cases e
  · cases e


def grsIn (gs : List Gr) : Prop := ∀ x ∈ gs, 0 ≤ x.e ∧ x.e ≤ 4294967295
def allGr (gs : List Gr) : Bool := gs.all fun x => graphOk x.n x.e
def forbC (gs : List Gr) : Int := if allGr gs = false then 1 else if 6 < gs.length then 3 else 0
theorem e_anyG_bad : QE PP 99 (spAnyG 70 (spR sp_badGraph)) := QE_anyG q_impl_badGraph.toR
theorem any_bad (gs : List Gr) : (gs.any fun x => !graphOk x.n x.e) = !allGr gs := by
  unfold allGr
  rw [List.not_all_eq_any_not]
noncomputable def sp_forbP : List AV → Option (AV) := pf (ι := (List Gr)) (α := AV) (fun gs => gs.length ≤ maxLen ∧ grsIn gs) (fun gs => [.sl (grsA gs) false]) (fun gs => .int .i64 (forbC gs))
theorem sp_forbP_eq (gs : List Gr) (h : gs.length ≤ maxLen ∧ grsIn gs) : sp_forbP [.sl (grsA gs) false] = some (.int .i64 (forbC gs)) := by
  unfold sp_forbP
  exact pf_eq (ι := (List Gr)) (α := AV) gs h (by rintro gs' _ e; simp_all [Int.natCast_inj])
theorem q_impl_forbiddenOk : QP PP 98 sp_forbP := by
  refine QP_pf (fun gs h => ?_) fun gs h => ?_
  · exact ⟨by first | rfl | simp, by first | rfl | simp⟩
  replace h : gs.length ≤ maxLen ∧ grsIn gs := h
  refine P_code (Quiet.e1 e_anyG_bad Quiet.nil) hmix k_impl_forbiddenOk rfl ?_ ?_
  · first | rfl | simp
  show wpc 0 PP _ c_impl_forbiddenOk (initSt [.sl (grsA gs) false] .nil) (endP r_impl_forbiddenOk (.int .i64 (forbC gs)))
  have hany := spAnyG_eq (g := 70) (sp := spR sp_badGraph) (fun x => !graphOk x.n x.e) (l := gs) (caps := []) (A := ⟨[]⟩) h.1 rfl (fun x hx => by
    have := sp_badGraph_eq x.n x.e (h.2 x hx)
    simp [spR, seeL_cons, seeL_nil, seeV_int, seeV_agg, this, AV.flat])
  rw [any_bad] at hany
  unfold forbC
  cases ha : allGr gs with
  | false => simp -dsimp -implicitDefEqProofs [c_impl_forbiddenOk, r_impl_forbiddenOk, hany, ha]
  | true =>
    by_cases h6 : 6 < gs.length
    · have h6' : (6 : Int) < gs.length := by omega
      simp -dsimp -implicitDefEqProofs [c_impl_forbiddenOk, r_impl_forbiddenOk, hany, ha, h6, h6']
    · have h6' : ¬ (6 : Int) < gs.length := by omega
      simp -dsimp -implicitDefEqProofs [c_impl_forbiddenOk, r_impl_forbiddenOk, hany, ha, h6, h6']
theorem q_spec_l01Forbidden : QP PP 97 sp_forbP := by
  refine QP_pf (fun gs h => ?_) fun gs h => ?_
  · exact ⟨by first | rfl | simp, by first | rfl | simp⟩
  replace h : gs.length ≤ maxLen ∧ grsIn gs := h
  refine P_code (Quiet.q1 q_spec_l01Ok Quiet.nil) hmix k_spec_l01Forbidden rfl ?_ ?_
  · first | rfl | simp
  show wpc 0 PP _ c_spec_l01Forbidden (initSt [.sl (grsA gs) false] .nil) (endP r_spec_l01Forbidden (.int .i64 (forbC gs)))
  obtain ⟨hl, hg⟩ := h
  simp only [maxLen] at hl
  simp -dsimp -implicitDefEqProofs [c_spec_l01Forbidden, r_spec_l01Forbidden]
  refine wpLoop_st (fun (i : Nat) => ⟨tl [(0, .sl (grsA gs) false), (3, .int .i64 i)], ⟨[]⟩⟩) (fun i => i ≤ gs.length ∧ allGr (gs.take i) = true) (fun i => gs.length - i) 0 ⟨by omega, rfl⟩ (Sub.keep (by simp) (by simp [hsub]) (by simp)) ?_
  rintro i ⟨h1, h2⟩
  simp -dsimp -implicitDefEqProofs
  refine brW_of (fun h => ?_) (fun h => ?_) <;> simp only [decide_eq_true_eq, decide_eq_false_iff_not] at h
  · have hi : i < gs.length := by omega
    have hw := wrapNat (i := i) (by omega)
    have hok := sp_graphOk_eq gs[i].n gs[i].e (hg _ (List.getElem_mem hi))
    cases hv : graphOk gs[i].n gs[i].e with
    | false =>
      have hf : forbC gs = 1 := by
        have : allGr gs = false := by
          unfold allGr; rw [List.all_eq_false]; exact ⟨gs[i], List.getElem_mem hi, by simp [hv]⟩
        unfold forbC; rw [if_pos this]
      simp -dsimp -implicitDefEqProofs [hi, hok, hv, hf]
    | true =>
      simp -dsimp -implicitDefEqProofs [hi, hok, hv, hw]
      refine .mk (i + 1) ⟨by omega, ?_⟩ (by omega) (Sub.keep (by simp) (by simp [hsub]) (by simp [hw]))
      unfold allGr at h2 ⊢
      rw [take_snoc gs i hi, List.all_append, h2]
      simp [hv]
  · have hi : i = gs.length := by omega
    subst hi
    rw [List.take_length] at h2
    unfold forbC
    by_cases h6 : 6 < gs.length
    · have h6' : (6 : Int) < gs.length := by omega
      simp -dsimp -implicitDefEqProofs [h2, h6, h6']
    · have h6' : ¬ (6 : Int) < gs.length := by omega
      simp -dsimp -implicitDefEqProofs [h2, h6, h6']

def hasMap (n e l : Int) (ps : List Fr) (x : Gr) : Bool := (mapO n e l ps x.n.toNat x.e).isSome
noncomputable def sp_ipf1 : List (Option (List AV)) → List AV → Option (AV × List (Option (List AV))) := pv (pf (ι := (Int) × (Int) × (Int) × (List Fr) × (Int) × (Int)) (α := AV × List (Option (List AV))) (fun ⟨n, e, l, ps, hn, he⟩ => patOk n e l ps = true ∧ ((0 ≤ e ∧ e ≤ 4294967295) ∧ (0 ≤ l ∧ l ≤ 4294967295)) ∧ (0 ≤ hn ∧ hn ≤ 5) ∧ (0 ≤ he ∧ he ≤ 4294967295)) (fun i => .agg (((fun ⟨n, e, l, ps, hn, he⟩ => [some [.int .i64 n, .int .u32 e, .int .u32 l, .sl (frsA ps) false]] : (Int) × (Int) × (Int) × (List Fr) × (Int) × (Int) → List (Option (List AV))) i).map enO) :: (fun ⟨n, e, l, ps, hn, he⟩ => [.agg [.int .i64 hn, .int .u32 he], .ptr 0 0] : (Int) × (Int) × (Int) × (List Fr) × (Int) × (Int) → List AV) i) (fun ⟨n, e, l, ps, hn, he⟩ => (.bool (hasMap n e l ps ⟨hn, he⟩), [some [.int .i64 n, .int .u32 e, .int .u32 l, .sl (frsA ps) false]])))
theorem sp_ipf1_eq (n e l : Int) (ps : List Fr) (hn he : Int) (h : patOk n e l ps = true ∧ ((0 ≤ e ∧ e ≤ 4294967295) ∧ (0 ≤ l ∧ l ≤ 4294967295)) ∧ (0 ≤ hn ∧ hn ≤ 5) ∧ (0 ≤ he ∧ he ≤ 4294967295)) : sp_ipf1 [some [.int .i64 n, .int .u32 e, .int .u32 l, .sl (frsA ps) false]] [.agg [.int .i64 hn, .int .u32 he], .ptr 0 0] = some (.bool (hasMap n e l ps ⟨hn, he⟩), [some [.int .i64 n, .int .u32 e, .int .u32 l, .sl (frsA ps) false]]) := by
  unfold sp_ipf1 pv
  exact pf_eq (ι := (Int) × (Int) × (Int) × (List Fr) × (Int) × (Int)) (α := AV × List (Option (List AV))) (n, e, l, ps, hn, he) h (by rintro ⟨n', e', l', ps', hn', he'⟩ _ e; simp_all [enO, Int.natCast_inj])
theorem v_impl_IsPatternFree_1 : QV PP 100 sp_ipf1 := by
  refine QV_pf fun i h => ?_
  obtain ⟨n, e, l, ps, hn, he⟩ := i
  replace h : patOk n e l ps = true ∧ ((0 ≤ e ∧ e ≤ 4294967295) ∧ (0 ≤ l ∧ l ≤ 4294967295)) ∧ (0 ≤ hn ∧ hn ≤ 5) ∧ (0 ≤ he ∧ he ≤ 4294967295) := h
  refine H_code (Quiet.e1 v_impl_Pattern_firstMap.toE Quiet.nil) hmix k_impl_IsPatternFree_1 rfl (fun b => b) (by simp [AHeap.n]) (fun _ _ => rfl) (by rfl) (by first | rfl | simp) ?_
  show wpc _ PP _ c_impl_IsPatternFree_1 (initSt [.agg [.int .i64 hn, .int .u32 he], .ptr 0 0] ⟨[some [.int .i64 n, .int .u32 e, .int .u32 l, .sl (frsA ps) false]]⟩) (endH (fun b => b) r_impl_IsPatternFree_1 (.bool (hasMap n e l ps ⟨hn, he⟩)) [some [.int .i64 n, .int .u32 e, .int .u32 l, .sl (frsA ps) false]])
  obtain ⟨hpo, hel, ⟨m0, m5⟩, hhe⟩ := h
  obtain ⟨m, rfl⟩ := Int.eq_ofNat_of_zero_le m0
  obtain ⟨_, hn4, _, hlen, hall⟩ := patOk_spec hpo
  have h3 := sp_firstI_eq n e l ps m he ⟨hel, ⟨by omega, hhe⟩, hn4, hlen⟩
  obtain ⟨g1, _⟩ := goL_fm ps (patOk_nn hpo) (fun L => fitL false he e l L m) (allL n.toNat m) []
  have g1 : (fmV n e l ps m he).1 = hasMap n e l ps ⟨m, he⟩ := g1
  rw [g1] at h3
  simp -dsimp -implicitDefEqProofs [c_impl_IsPatternFree_1, r_impl_IsPatternFree_1, h3, hsub]
theorem e_anyG_ipf : QE PP 99 (spAnyG 100 (spV sp_ipf1)) := QE_anyG v_impl_IsPatternFree_1.toE

def anyMap (n e l : Int) (ps : List Fr) (gs : List Gr) : Bool := gs.any (hasMap n e l ps)
def ipfR (n e l : Int) (ps : List Fr) (gs : List Gr) : Bool × Int := if patOk n e l ps = false then (false, 1) else if forbC gs ≠ 0 then (false, forbC gs) else (!anyMap n e l ps gs, 0)
noncomputable def sp_ipfP : List AV → Option (AV) := pf (ι := (Int) × (Int) × (Int) × (List Fr) × (List Gr)) (α := AV) (fun ⟨n, e, l, ps, gs⟩ => ((0 ≤ e ∧ e ≤ 4294967295) ∧ (0 ≤ l ∧ l ≤ 4294967295) ∧ ps.length ≤ maxLen) ∧ gs.length ≤ maxLen ∧ grsIn gs) (fun ⟨n, e, l, ps, gs⟩ => [.agg [.int .i64 n, .int .u32 e, .int .u32 l, .sl (frsA ps) false], .sl (grsA gs) false]) (fun ⟨n, e, l, ps, gs⟩ => .tup [.bool (ipfR n e l ps gs).1, .int .i64 (ipfR n e l ps gs).2])
theorem sp_ipfP_eq (n e l : Int) (ps : List Fr) (gs : List Gr) (h : ((0 ≤ e ∧ e ≤ 4294967295) ∧ (0 ≤ l ∧ l ≤ 4294967295) ∧ ps.length ≤ maxLen) ∧ gs.length ≤ maxLen ∧ grsIn gs) : sp_ipfP [.agg [.int .i64 n, .int .u32 e, .int .u32 l, .sl (frsA ps) false], .sl (grsA gs) false] = some (.tup [.bool (ipfR n e l ps gs).1, .int .i64 (ipfR n e l ps gs).2]) := by
  unfold sp_ipfP
  exact pf_eq (ι := (Int) × (Int) × (Int) × (List Fr) × (List Gr)) (α := AV) (n, e, l, ps, gs) h (by rintro ⟨n', e', l', ps', gs'⟩ _ e; simp_all [Int.natCast_inj])
theorem forb_zero {gs : List Gr} (h : forbC gs = 0) : allGr gs = true ∧ gs.length ≤ 6 := by
  unfold forbC at h
  split at h
  · cases h
  · rename_i h1
    split at h
    · cases h
    · exact ⟨by simpa using h1, by omega⟩
theorem q_impl_IsPatternFree : QP PP 40 sp_ipfP := by
  refine QP_pf (fun i h => ?_) fun i h => ?_
  · obtain ⟨n, e, l, ps, gs⟩ := i; exact ⟨by first | rfl | simp, by first | rfl | simp⟩
  obtain ⟨n, e, l, ps, gs⟩ := i
  replace h : ((0 ≤ e ∧ e ≤ 4294967295) ∧ (0 ≤ l ∧ l ≤ 4294967295) ∧ ps.length ≤ maxLen) ∧ gs.length ≤ maxLen ∧ grsIn gs := h
  refine P_code (Quiet.q1 q_impl_ValidPattern (Quiet.e1 q_impl_forbiddenOk.toR (Quiet.e1 e_anyG_ipf Quiet.nil))) hmix k_impl_IsPatternFree rfl ?_ ?_
  · first | rfl | simp
  show wpc 0 PP _ c_impl_IsPatternFree (initSt [.agg [.int .i64 n, .int .u32 e, .int .u32 l, .sl (frsA ps) false], .sl (grsA gs) false] .nil) (endP r_impl_IsPatternFree (.tup [.bool (ipfR n e l ps gs).1, .int .i64 (ipfR n e l ps gs).2]))
  obtain ⟨hp, hl, hg⟩ := h
  have h1 := sp_patOk_eq n e l ps hp
  have h2 := sp_forbP_eq gs ⟨hl, hg⟩
  unfold ipfR
  cases hpo : patOk n e l ps with
  | false => simp -dsimp -implicitDefEqProofs [c_impl_IsPatternFree, r_impl_IsPatternFree, h1, hpo]
  | true =>
    by_cases hc : forbC gs = 0
    · obtain ⟨hag, h6⟩ := forb_zero hc
      have hany := spAnyG_eq (g := 100) (sp := spV sp_ipf1) (hasMap n e l ps) (l := gs) (caps := [.ptr 0 0]) (A := ⟨[some [.int .i64 n, .int .u32 e, .int .u32 l, .sl (frsA ps) false]]⟩) hl rfl (fun x hx => by
        have hok := List.all_eq_true.1 hag x hx
        have := sp_ipf1_eq n e l ps x.n x.e ⟨hpo, ⟨hp.1, hp.2.1⟩, (of_decide_eq_true hok).1, hg x hx⟩
        simp [this])
      have hany2 : gs.any (hasMap n e l ps) = anyMap n e l ps gs := rfl
      rw [hany2] at hany
      simp -dsimp -implicitDefEqProofs [c_impl_IsPatternFree, r_impl_IsPatternFree, h1, hpo, h2, hc, hany]
    · have hc' : (forbC gs != 0) = true := by simp [hc]
      simp -dsimp -implicitDefEqProofs [c_impl_IsPatternFree, r_impl_IsPatternFree, h1, hpo, h2, hc, hc']
theorem q_spec_IsPatternFree : QP PP 38 sp_ipfP := by
  refine QP_pf (fun i h => ?_) fun i h => ?_
  · obtain ⟨n, e, l, ps, gs⟩ := i; exact ⟨by first | rfl | simp, by first | rfl | simp⟩
  obtain ⟨n, e, l, ps, gs⟩ := i
  replace h : ((0 ≤ e ∧ e ≤ 4294967295) ∧ (0 ≤ l ∧ l ≤ 4294967295) ∧ ps.length ≤ maxLen) ∧ gs.length ≤ maxLen ∧ grsIn gs := h
  refine P_code (Quiet.e1 m_spec_l07Ok.toE (Quiet.e1 q_spec_l01Forbidden.toR (Quiet.e1 v_spec_l07First.toE Quiet.nil))) hmix k_spec_IsPatternFree rfl ?_ ?_
  · first | rfl | simp
  show wpc 0 PP _ c_spec_IsPatternFree (initSt [.agg [.int .i64 n, .int .u32 e, .int .u32 l, .sl (frsA ps) false], .sl (grsA gs) false] .nil) (endP r_spec_IsPatternFree (.tup [.bool (ipfR n e l ps gs).1, .int .i64 (ipfR n e l ps gs).2]))
  obtain ⟨hp, hl, hg⟩ := h
  have h1 := sp_l07Ok_eq n e l ps hp
  have h2 := sp_forbP_eq gs ⟨hl, hg⟩
  unfold ipfR
  cases hpo : patOk n e l ps with
  | false => simp -dsimp -implicitDefEqProofs [c_spec_IsPatternFree, r_spec_IsPatternFree, h1, hpo]
  | true =>
    by_cases hc : forbC gs = 0
    · obtain ⟨hag, h6⟩ := forb_zero hc
      obtain ⟨_, hn4, _, hlen, hall⟩ := patOk_spec hpo
      simp -dsimp -implicitDefEqProofs [c_spec_IsPatternFree, r_spec_IsPatternFree, h1, hpo, h2, hc]
      refine wpLoop_st (fun (i : Nat) => ⟨tl [(1, .sl (grsA gs) false), (2, .ptr 0 0), (7, .int .i64 i)], ⟨[some [.int .i64 n, .int .u32 e, .int .u32 l, .sl (frsA ps) false]]⟩⟩) (fun i => i ≤ gs.length ∧ anyMap n e l ps (gs.take i) = false) (fun i => gs.length - i) 0 ⟨by omega, rfl⟩ (Sub.keep (by simp) (by simp [hsub]) (by simp)) ?_
      rintro i ⟨i1, i2⟩
      simp -dsimp -implicitDefEqProofs
      refine brW_of (fun h => ?_) (fun h => ?_) <;> simp only [decide_eq_true_eq, decide_eq_false_iff_not] at h
      · have hi : i < gs.length := by omega
        have hw := wrapNat (i := i) (by omega)
        have hok := List.all_eq_true.1 hag _ (List.getElem_mem hi)
        obtain ⟨m0, m5⟩ := (of_decide_eq_true hok).1
        obtain ⟨m, hm⟩ := Int.eq_ofNat_of_zero_le m0
        have h3 := sp_firstS_eq n e l ps m gs[i].e ⟨⟨hp.1, hp.2.1⟩, ⟨by omega, hg _ (List.getElem_mem hi)⟩, hn4, hlen⟩
        have hM : hasMap n e l ps gs[i] = (mapO n e l ps m gs[i].e).isSome := by unfold hasMap; rw [hm]; rfl
        cases hmo : mapO n e l ps m gs[i].e with
        | none =>
          rw [hmo] at h3 hM
          simp only [fmR, fmO] at h3
          have hstep : anyMap n e l ps (gs.take (i + 1)) = false := by
            unfold anyMap at *
            rw [take_snoc gs i hi, List.any_append, i2]; simp [hM]
          simp -dsimp -implicitDefEqProofs [hi, hm, h3, hw]
          exact .mk (i + 1) ⟨by omega, hstep⟩ (by omega) (Sub.keep (by simp) (by simp [hsub]) (by simp [hw]))
        | some L =>
          rw [hmo] at h3 hM
          simp only [fmR, fmO] at h3
          have hany : anyMap n e l ps gs = true := List.any_eq_true.2 ⟨gs[i], List.getElem_mem hi, hM⟩
          simp -dsimp -implicitDefEqProofs [hi, hm, h3, hany]
      · have hi : i = gs.length := by omega
        subst hi
        rw [List.take_length] at i2
        simp -dsimp -implicitDefEqProofs [i2]
    · have hc' : (forbC gs != 0) = true := by simp [hc]
      simp -dsimp -implicitDefEqProofs [c_spec_IsPatternFree, r_spec_IsPatternFree, h1, hpo, h2, hc, hc']

/-! ### the law -/
noncomputable def sp_szGr : List AV → Option (AV) := pf (ι := (List Gr) × (Int)) (α := AV) (fun ⟨gs, k⟩ => 0 ≤ k ∧ k ≤ 1048576 ∧ gs.length ≤ maxLen) (fun ⟨gs, k⟩ => [.sl (grsA gs) false, .int .i64 k]) (fun ⟨gs, k⟩ => .int .i64 (if k - gs.length < 0 then -1 else k - gs.length))
theorem sp_szGr_eq (gs : List Gr) (k : Int) (h : 0 ≤ k ∧ k ≤ 1048576 ∧ gs.length ≤ maxLen) : sp_szGr [.sl (grsA gs) false, .int .i64 k] = some (.int .i64 (if k - gs.length < 0 then -1 else k - gs.length)) := by
  unfold sp_szGr
  exact pf_eq (ι := (List Gr) × (Int)) (α := AV) (gs, k) h (by rintro ⟨gs', k'⟩ _ e; simp_all [Int.natCast_inj])
theorem q_laws_szGraphS : QP PP 37 sp_szGr := by
  refine QP_pf (fun i h => ?_) fun i h => ?_
  · obtain ⟨gs, k⟩ := i; exact ⟨by first | rfl | simp, by first | rfl | simp⟩
  obtain ⟨gs, k⟩ := i
  replace h : 0 ≤ k ∧ k ≤ 1048576 ∧ gs.length ≤ maxLen := h
  refine P_code Quiet.nil hmix k_laws_szGraphS rfl ?_ ?_
  · first | rfl | simp
  show wpc 0 PP _ c_laws_szGraphS (initSt [.sl (grsA gs) false, .int .i64 k] .nil) (endP r_laws_szGraphS (.int .i64 (if k - gs.length < 0 then -1 else k - gs.length)))
  simp only [maxLen] at h
  have hw : IntKind.i64.wrap (k - (gs.length : Int)) = k - gs.length := wrapI64 (by omega) (by omega)
  by_cases hk : k - (gs.length : Int) < 0
  · simp -dsimp -implicitDefEqProofs [c_laws_szGraphS, r_laws_szGraphS, hw, hk]
  · simp -dsimp -implicitDefEqProofs [c_laws_szGraphS, r_laws_szGraphS, hw, hk]
noncomputable def sp_toGrN : List AV → Option (AV × List (Option (List AV))) := pf (ι := (List Gr)) (α := AV × List (Option (List AV))) (fun gs => gs.length ≤ 1048576) (fun gs => [.sl (grsA gs) false]) (fun gs => (.ref 0 2 0 gs.length .tight, [some (flatA (grsA gs))]))
theorem sp_toGrN_eq (gs : List Gr) (h : gs.length ≤ 1048576) : sp_toGrN [.sl (grsA gs) false] = some ((.ref 0 2 0 gs.length .tight, [some (flatA (grsA gs))])) := by
  unfold sp_toGrN
  exact pf_eq (ι := (List Gr)) (α := AV × List (Option (List AV))) gs h (by rintro gs' _ e; simp_all [Int.natCast_inj])
theorem n_laws_toGraphS : QN PP 39 sp_toGrN := by
  refine QN_pf (fun gs h => ?_) fun gs h => ?_
  · first | rfl | simp
  replace h : gs.length ≤ 1048576 := h
  show T PP 39 [.sl (grsA gs) false] .nil fun r' A' => r' = (((.ref 0 2 0 gs.length .tight, [some (flatA (grsA gs))]) : AV × List (Option (List AV)))).1 ∧ A' = ⟨(((.ref 0 2 0 gs.length .tight, [some (flatA (grsA gs))]) : AV × List (Option (List AV)))).2⟩
  have hm : (gs.length : Int) * 17 ≤ (mostBytes : Int) := by simp only [mostBytes]; omega
  refine H_code (Quiet.q1 q_laws_toGraph Quiet.nil) hmix k_laws_toGraphS rfl (fun b => b) (by simp [AHeap.n, AHeap.nil]) (by intro b hb; simp [AHeap.n, AHeap.nil] at hb <;> subst hb <;> rfl) (by rfl) (by first | rfl | simp) ?_
  simp -dsimp -implicitDefEqProofs [c_laws_toGraphS, r_laws_toGraphS, hm]
  refine wpLoop_st (fun (i : Nat × List Gr) => ⟨tl [(0, .sl (grsA gs) false), (3, .ref 0 2 0 gs.length .tight), (4, .int .i64 i.1)], ⟨[some (flatA (grsA i.2))]⟩⟩) (fun i => i.1 ≤ gs.length ∧ i.2.length = gs.length ∧ i.2 = gs.take i.1 ++ List.replicate (gs.length - i.1) ⟨0, 0⟩) (fun i => gs.length - i.1) (0, List.replicate gs.length ⟨0, 0⟩) ⟨by simp, by simp, by simp⟩ (Sub.keep (by simp) (by simp [hsub]) (by simp)) ?_
  rintro ⟨i, L⟩ ⟨h1, h2, h3⟩
  simp only at h1 h2 h3
  simp -dsimp -implicitDefEqProofs
  refine brW_of (fun h => ?_) (fun h => ?_) <;> simp only [decide_eq_true_eq, decide_eq_false_iff_not] at h
  · have hi : i < gs.length := by omega
    have hw := wrapNat (i := i) (by omega)
    have f1 : i * 2 + 2 ≤ L.length * 2 := by omega
    have hs := set_gr L i gs[i].n gs[i].e (by omega)
    simp -dsimp -implicitDefEqProofs [hi, f1, hw, hs]
    refine .mk (i + 1, L.set i gs[i]) ⟨by simp only; omega, by simp [h2], ?_⟩ (by simp only; omega) (Sub.keep (by simp) (by simp [hsub]) (by simp))
    simp only
    rw [h3]
    exact fill_step gs ⟨0, 0⟩ i hi
  · have hi : i = gs.length := by omega
    subst hi
    simp at h3
    subst h3
    simp -dsimp -implicitDefEqProofs [hsub]
noncomputable def sp_eqGrs : List AV → Option (AV) := pf (ι := (List Gr) × (List Gr)) (α := AV) (fun ⟨xs, ys⟩ => xs.length ≤ maxLen) (fun ⟨xs, ys⟩ => [.sl (grsA xs) false, .sl (grsA ys) false]) (fun ⟨xs, ys⟩ => .bool (decide (xs = ys)))
theorem sp_eqGrs_eq (xs ys : List Gr) (h : xs.length ≤ maxLen) : sp_eqGrs [.sl (grsA xs) false, .sl (grsA ys) false] = some (.bool (decide (xs = ys))) := by
  unfold sp_eqGrs
  exact pf_eq (ι := (List Gr) × (List Gr)) (α := AV) (xs, ys) h (by rintro ⟨xs', ys'⟩ _ e; simp_all [Int.natCast_inj])
theorem q_laws_eqGraphS : QP PP 41 sp_eqGrs := by
  refine QP_pf (fun i h => ?_) fun i h => ?_
  · obtain ⟨xs, ys⟩ := i; exact ⟨by first | rfl | simp, by first | rfl | simp⟩
  obtain ⟨xs, ys⟩ := i
  replace h : xs.length ≤ maxLen := h
  refine P_code (Quiet.q1 q_laws_eqGraph Quiet.nil) hmix k_laws_eqGraphS rfl ?_ ?_
  · first | rfl | simp
  show wpc 0 PP _ c_laws_eqGraphS (initSt [.sl (grsA xs) false, .sl (grsA ys) false] .nil) (endP r_laws_eqGraphS (.bool (decide (xs = ys))))
  simp only [maxLen] at h
  by_cases hl : xs.length = ys.length
  · have hl' : ((xs.length : Int) != ys.length) = false := by simp [hl]
    simp -dsimp -implicitDefEqProofs [c_laws_eqGraphS, r_laws_eqGraphS, hl']
    refine wpLoop_st (fun (i : Nat) => ⟨tl [(0, .sl (grsA xs) false), (1, .sl (grsA ys) false), (5, .int .i64 i)], ⟨[]⟩⟩) (fun i => i ≤ xs.length ∧ xs.take i = ys.take i) (fun i => xs.length - i) 0 ⟨by omega, rfl⟩ (Sub.keep (by simp) (by simp [hsub]) (by simp)) ?_
    rintro i ⟨h1, h2⟩
    simp -dsimp -implicitDefEqProofs
    refine brW_of (fun h => ?_) (fun h => ?_) <;> simp only [decide_eq_true_eq, decide_eq_false_iff_not] at h
    · have hi : i < xs.length := by omega
      have hj : i < ys.length := by omega
      have hw := wrapNat (i := i) (by omega)
      by_cases he : xs[i] = ys[i]
      · have he' : (xs[i].n == ys[i].n && xs[i].e == ys[i].e) = true := by simp [he]
        simp -dsimp -implicitDefEqProofs [hi, hj, he', hw]
        refine .mk (i + 1) ⟨by omega, ?_⟩ (by omega) (Sub.keep (by simp) (by simp [hsub]) (by simp [hw]))
        rw [take_snoc xs i hi, take_snoc ys i hj, h2, he]
      · have he' : (xs[i].n == ys[i].n && xs[i].e == ys[i].e) = false := by
          cases hv : (xs[i].n == ys[i].n && xs[i].e == ys[i].e) with
          | false => rfl
          | true =>
            exfalso; apply he
            simp only [Bool.and_eq_true, beq_iff_eq] at hv
            cases hx : xs[i]; cases hy : ys[i]
            simp_all
        have hne : ¬ xs = ys := fun e => he (by subst e; rfl)
        simp -dsimp -implicitDefEqProofs [hi, hj, he', hne]
    · have hi : i = xs.length := by omega
      subst hi
      rw [List.take_length, hl, List.take_length] at h2
      simp -dsimp -implicitDefEqProofs [h2]
  · have hl' : ((xs.length : Int) != ys.length) = true := by simp; omega
    have hne : ¬ xs = ys := fun e => hl (by rw [e])
    simp -dsimp -implicitDefEqProofs [c_laws_eqGraphS, r_laws_eqGraphS, hl', hne]
theorem eqGrs_refl (xs : List Gr) (h : xs.length ≤ maxLen) : sp_eqGrs [.sl (grsA xs) false, .sl (grsA xs) false] = some (.bool true) := by
  rw [sp_eqGrs_eq xs xs h]; simp
theorem wt_listP {α : Type} {f : α → AV} {p : α → Prop} {t : Ty} (hf : ∀ y, WtV t y → ∃ x, y = f x ∧ p x) : ∀ {xs : List AV}, (∀ y ∈ xs, WtV t y) → ∃ l, xs = mapA f l ∧ ∀ x ∈ l, p x
  | [], _ => ⟨[], rfl, fun x hx => (by cases hx)⟩
  | x :: xs, h => by
    obtain ⟨l, hl, hp⟩ := wt_listP hf fun y hy => h y (List.mem_cons_of_mem _ hy)
    obtain ⟨a, rfl, ha⟩ := hf x (h x (List.mem_cons_self ..))
    refine ⟨a :: l, by rw [hl]; rfl, fun y hy => ?_⟩
    rcases List.mem_cons.1 hy with rfl | hy
    · exact ha
    · exact hp y hy
theorem wt_gr (y : AV) (h : WtV tyGraph y) : ∃ x, y = grA x ∧ 0 ≤ x.e ∧ x.e ≤ 4294967295 := by
  simp only [tyGraph, WtV_st, WtL_int, WtL_nil] at h
  obtain ⟨_, rfl, hn, _, rfl, _, he, _, rfl, hhe, rfl⟩ := h
  exact ⟨⟨hn, he⟩, rfl, by simpa [IntKind.min, IntKind.signed] using hhe.1, by simpa [IntKind.max, IntKind.signed, IntKind.bits] using hhe.2⟩
set_option maxHeartbeats 2000000 in
theorem law_isPatternFree (xs : List AV) (h : WtA [tyPattern, .sl tyGraph] xs) : T PP 8 xs .nil fun r _ => r = .bool true := by
  simp only [WtA_cons, WtA_nil] at h
  obtain ⟨x, _, rfl, hx, y, _, rfl, hy, rfl⟩ := h
  obtain ⟨n, e, l, ps, rfl, h⟩ := wt_pattern hx
  rw [WtV_sl] at hy
  obtain ⟨ys, rfl, hlen, hy⟩ := hy
  obtain ⟨gs, rfl, hgs⟩ := wt_listP (t := tyGraph) wt_gr hy
  simp only [mapA_length] at hlen
  refine (P_code (r := .bool true) (Quiet.q1 q_laws_szPattern (Quiet.q1 q_laws_szGraphS (Quiet.e1 q_spec_IsPatternFree.toR (Quiet.e1 n_laws_toPattern.toE (Quiet.e1 n_laws_toGraphS.toE (Quiet.e1 q_impl_IsPatternFree.toR (Quiet.e1 q_laws_eqPattern.toR (Quiet.e1 q_laws_eqGraphS.toR Quiet.nil)))))))) hmix k_laws_FnExactIsPatternFree rfl rfl ?_).mono fun r A' h => h.1
  have hz := sp_szPattern_eq n e l ps 1048576 ⟨by omega, by omega, h.2.2⟩
  by_cases c : (ps.length : Int) ≤ 1048576
  · have c2 : ¬ ((1048576 : Int) - ps.length < 0) := by omega
    have hz2 := sp_szGr_eq gs (1048576 - ps.length) ⟨by omega, by omega, hlen⟩
    by_cases cg : (1048576 : Int) - ps.length - gs.length < 0
    · rw [if_pos cg] at hz2
      simp -dsimp -implicitDefEqProofs [c_laws_FnExactIsPatternFree, r_laws_FnExactIsPatternFree, hz, c, c2, hz2]
    · rw [if_neg cg] at hz2
      have hT := sp_toPatN_eq n e l ps (by omega)
      have hG := sp_toGrN_eq gs (by omega)
      have hq := eqPat_refl n e l ps h.2.2
      have hq2 := eqGrs_refl gs hlen
      have hB := sp_ipfP_eq n e l ps gs ⟨h, hlen, hgs⟩
      generalize ipfR n e l ps gs = R at hB
      obtain ⟨b, cd⟩ := R
      simp only at hB
      simp -dsimp -implicitDefEqProofs [c_laws_FnExactIsPatternFree, r_laws_FnExactIsPatternFree, hz, c, c2, hz2, cg, hT, hG, hq, hq2, hB]
  · simp -dsimp -implicitDefEqProofs [c_laws_FnExactIsPatternFree, r_laws_FnExactIsPatternFree, hz, c]
end Go.Proofs.YtkgodhdpcomjbaaAi
