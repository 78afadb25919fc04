/- The triple of a function. -/
import Derived.Test.YtllahdjejcideaaAiT
namespace Go.Proofs.YtllahdjejcideaaAi
open Go Go.RowKit
set_option linter.unusedVariables false
set_option linter.unusedSimpArgs false

variable {P : Program} {S : Spec}

def resSem (tmps : Array Value) : ResultVar → Sem Value
  | .tmp t => pure (tmps.getD t undef)
  | .cell a t => do loadVar t (← asAddr (tmps.getD a undef))

theorem results_eq (fn : Func) (tmps : Array Value) : results fn tmps = (do
    let vs ← fn.results.mapM (resSem tmps)
    pure (if h : vs.size = 1 then vs[0] else .tuple vs)) := by
  unfold results
  congr 1

theorem res_run {B : Nat → Prop} {n : Nat} {w0 w : World} {σ : Sg} {s : St} {a : Act} (hs : SimSt B w0 n σ s a w) {r : ResultVar} {r' : ARes} (hc : ccRes P r = some r') {v : AV} (h : resA s r' = some v) :
    ∃ u, (resSem a.tmps r).run P w = .ok u w ∧ Rep σ v u := by
  cases r with
  | tmp t =>
    simp only [ccRes, Option.some.injEq] at hc
    subst hc
    simp only [resA, Option.some.injEq] at h
    subst h
    exact ⟨_, rfl, hs.tmps t⟩
  | cell x t =>
    simp only [ccRes, Option.bind_eq_some_iff, Option.map_eq_some_iff] at hc
    obtain ⟨m, hm, g, hg, rfl⟩ := hc
    simp only [resA] at h
    obtain ⟨u, h1, h2, _⟩ := ldVar_run hs.sim (hs.tmps x) hm hg h
    refine ⟨u, ?_, h2⟩
    simp only [resSem]
    generalize a.tmps.getD x undef = p at h1 ⊢
    cases p <;> first | (rename_i ad; cases ad) | skip
    all_goals first
      | (simp [Instr.loadAt, Instr.sureAddr, stuck, Sem.run] at h1; done)
      | (simpa [Instr.loadAt, Instr.sureAddr, asAddr] using h1)

theorem joined_rep {σ : Sg} {vs : List AV} {us : List Value} {v : AV} (hv : (match vs with | [v] => v | vs => AV.tup vs) = v) (hrep : RepL σ vs us) :
    Rep σ v (if h : us.toArray.size = 1 then us.toArray[0] else .tuple us.toArray) := by
  obtain ⟨hl, hr⟩ := hrep
  cases vs with
  | nil =>
    obtain rfl : us = [] := List.length_eq_zero_iff.1 (by simpa using hl.symm)
    simp at hv
    subst hv
    exact .tup [] [] rfl (by simp)
  | cons v1 vs =>
    cases us with
    | nil => simp at hl
    | cons u1 us =>
      cases vs with
      | nil =>
        obtain rfl : us = [] := List.length_eq_zero_iff.1 (by simpa using hl.symm)
        simp at hv
        subst hv
        exact hr 0 _ _ rfl rfl
      | cons v2 vs =>
        simp at hv
        subst hv
        cases us with
        | nil => simp at hl
        | cons u2 us =>
          have : ¬ ((u1 :: u2 :: us).toArray.size = 1) := by simp
          rw [dif_neg this]
          exact .tup _ _ hl hr

theorem results_run {B : Nat → Prop} {n : Nat} {w0 w : World} {σ : Sg} {s : St} {a : Act} (hs : SimSt B w0 n σ s a w) {fn : Func} {rs : List ARes} (hc : fn.results.toList.mapM (ccRes P) = some rs) {v : AV} (h : resultsA s rs = some v) :
    ∃ u, (results fn a.tmps).run P w = .ok u w ∧ Rep σ v u := by
  unfold resultsA at h
  obtain ⟨vs, hvs, hv⟩ := Option.map_eq_some_iff.1 h
  obtain ⟨hl1, hg1⟩ := mapM_some_length _ _ _ hc
  obtain ⟨hl2, hg2⟩ := mapM_some_length _ _ _ hvs
  have hex : ∀ i : Nat, i < fn.results.toList.length → ∃ u, ∀ r v, fn.results.toList[i]? = some r → vs[i]? = some v → (resSem a.tmps r).run P w = .ok u w ∧ Rep σ v u := by
    intro i hi
    obtain ⟨r', hr', hcr⟩ := hg1 i _ (List.getElem?_eq_getElem hi)
    obtain ⟨v', hv', hrr⟩ := hg2 i r' hr'
    obtain ⟨u, h1, h2⟩ := res_run hs hcr hrr
    refine ⟨u, fun r v hr hv => ?_⟩
    rw [List.getElem?_eq_getElem hi] at hr
    obtain rfl := Option.some.inj hr
    rw [hv'] at hv
    obtain rfl := Option.some.inj hv
    exact ⟨h1, h2⟩
  classical
  let us : List Value := (List.range fn.results.toList.length).map fun i => if h : i < fn.results.toList.length then Classical.choose (hex i h) else undef
  have husl : us.length = fn.results.toList.length := by simp [us]
  have hus : ∀ (i : Nat) (r : ResultVar) (v : AV) (u : Value), fn.results.toList[i]? = some r → vs[i]? = some v → us[i]? = some u → (resSem a.tmps r).run P w = .ok u w ∧ Rep σ v u := by
    intro i r v u hr hv hu
    have hi := (List.getElem?_eq_some_iff.1 hr).1
    have := Classical.choose_spec (hex i hi) r v hr hv
    have hue : u = Classical.choose (hex i hi) := by
      simp only [us, List.getElem?_map, List.getElem?_range hi, Option.map_some, Option.some.injEq] at hu
      rw [dif_pos hi] at hu
      exact hu.symm
    rw [hue]
    exact this
  have hvl : vs.length = fn.results.toList.length := by omega
  have hrun : (fn.results.toList.mapM (resSem a.tmps)).run P w = .ok us w := by
    refine run_mapM_list _ _ _ husl.symm fun i r u hr hu => ?_
    have hi := (List.getElem?_eq_some_iff.1 hr).1
    exact (hus i r (vs[i]'(by omega)) u hr (List.getElem?_eq_getElem (by omega)) hu).1
  have hrep : RepL σ vs us := ⟨by omega, fun i c u hc hu => by
    have hi := (List.getElem?_eq_some_iff.1 hc).1
    exact (hus i (fn.results.toList[i]'(by omega)) c u (List.getElem?_eq_getElem (by omega)) hc hu).2⟩
  have hrunA : (results fn a.tmps).run P w = .ok (if h : us.toArray.size = 1 then us.toArray[0] else .tuple us.toArray) w := by
    rw [results_eq, Array.mapM_eq_mapM_toList]
    simp only [Sem.run_bind, Sem.run_map, hrun]
    rfl
  exact ⟨_, hrunA, joined_rep hv hrep⟩

/-- What is given of a function: read off by the kernel. -/
structure HasAC (P : Program) (f : FuncId) (nargs : Nat) (ac : AC) (rs : List ARes) : Prop where
  ok : ∃ fn body, P.funcs[f]? = some fn ∧ (fn.name == "runtime.NumGoroutine") = false ∧ fn.body = some body ∧ ccCode P body = some ac ∧ dAll fn.ntmps ac = true ∧ fn.results.toList.mapM (ccRes P) = some rs ∧ nargs ≤ fn.ntmps

theorem T_of (hS : Quiet P S) (hm : P.follows .mixedOrders = true) {f : FuncId} {nargs : Nat} {ac : AC} {rs : List ARes} (h : HasAC P f nargs ac rs) (q : FuncId → Nat) (hints : List Hint) {args : List AV} (ha : args.length = nargs) {A : AHeap} {R : AV → AHeap → Prop}
    (vc : wpc A.n P S (lin q ac hints).1 (initSt args A) (endW A.n rs R)) : T P f args A R := by
  obtain ⟨fn, body, hf, hname, hbody, hcc, hd, hrs, hle⟩ := h.ok
  refine ⟨⟨fn, hf, hname, by rw [hbody]; rfl⟩, fun B w0 σ w vs hb hs hr => ?_⟩
  have hvs : vs.length = nargs := by rw [← hr.1, ha]
  refine calls_of_wp hf hbody ?_
  have hsize : (vs.toArray ++ Array.replicate (fn.ntmps - vs.toArray.size) undef).size = fn.ntmps := by simp; omega
  refine wpc_sound (q := q) hS hm (σ0 := σ) (B := B) (n := fn.ntmps) (w0 := w0) body ac hcc hd hints (endW A.n rs R) _ ?_ σ (initSt args A) _ w (.refl A.n σ) ⟨hs, fun t => ?_, hsize, rfl, hb⟩ vc
  · intro σ' e s' a' w' hl he hs'
    have fin : (optW (resultsA s' rs) fun r => ∃ r' A', EndS A.n r s'.A r' A' ∧ R r' A') → a'.defers = [] ∧ ∃ v, (results fn a'.tmps).run P w' = .ok v w' ∧ ∃ r A' v' σ', Ending.returned v = .returned v' ∧ R r A' ∧ σ.Le σ' ∧ Sim B σ' A' w' ∧ Rep σ' r v' ∧ Keeps B w0 w' := by
      intro h
      refine ⟨hs'.defers, ?_⟩
      obtain ⟨r, hr, r1, A', hA, hR⟩ := optW_iff.1 h
      obtain ⟨u, h1, h2⟩ := results_run hs' hrs hr
      obtain ⟨σ2, k1, k2, k3⟩ := hA _ _ _ _ hs'.sim h2
      have hl2 := hl.trans k1
      exact ⟨u, h1, r1, A', u, σ2, rfl, hR, ⟨hl2.mem, fun b x e => hl2.nm b x ((hs.nm b x.1 x.2 e).1) e, hl2.base⟩, k2, k3, hs'.below⟩
    cases e with
    | normal => exact fin he
    | ret => exact fin he
    | exit id => exact he.elim
  · simp only [initSt, argT]
    rcases Nat.lt_or_ge t args.length with ht | ht
    · have ht' : t < vs.length := by omega
      rw [List.getElem?_eq_getElem ht]
      have : (vs.toArray ++ Array.replicate (fn.ntmps - vs.toArray.size) undef).getD t undef = vs[t] := by
        rw [Array.getD_eq_getD_getElem?, Array.getElem?_append_left (by simpa using ht')]
        simp [ht']
      rw [this]
      exact hr.2 t _ _ (List.getElem?_eq_getElem ht) (List.getElem?_eq_getElem ht')
    · rw [List.getElem?_eq_none ht]
      have : (vs.toArray ++ Array.replicate (fn.ntmps - vs.toArray.size) undef).getD t undef = undef := by
        rw [Array.getD_eq_getD_getElem?, Array.getElem?_append_right (by simp; omega)]
        simp only [Array.getElem?_replicate]
        split <;> rfl
      rw [this]
      exact rep_undef σ

end Go.Proofs.YtllahdjejcideaaAi
