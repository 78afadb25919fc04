/- Guards and regions. -/
import Derived.Test.YtllahdjejcideaaAiP
import Derived.Orders
namespace Go.Proofs.YtllahdjejcideaaAi
open Go Go.RowKit
set_option linter.unusedVariables false
set_option linter.unusedSimpArgs false

variable {P : Program} {S : Spec} {σ : Sg} {w : World}

theorem guard_eq {B : Nat → Prop} {n : Nat} {w0 : World} {s : St} {a : Act} (hs : SimSt B w0 n σ s a w) {ops : Array Oper} {o : Oper} {ao : AOper} (hc : ccOper P ops o = some ao) :
    (∀ b, guardOk s ao.guard = some b → Region.wanted o (yielded ops a.tmps) = b) ∧ ao.dst = o.dst ∧ ao.op = (ccOp P o.op).getD .bad := by
  unfold ccOper at hc
  obtain ⟨g, hg, rfl⟩ := Option.map_eq_some_iff.1 hc
  refine ⟨fun wb hwb => ?_, rfl, rfl⟩
  unfold Region.wanted
  cases hog : o.guard with
  | none =>
    rw [hog] at hg
    obtain rfl := Option.some.inj hg
    exact Option.some.inj hwb
  | some jw =>
    obtain ⟨j, want⟩ := jw
    rw [hog] at hg
    simp only [Option.bind_eq_some_iff, Option.map_eq_some_iff] at hg
    obtain ⟨p, hp, d, hd, rfl⟩ := hg
    simp only [guardOk] at hwb
    simp only [yielded, hp, Option.bind_some, hd]
    have hr := hs.tmps d
    by_cases hlt : d < a.tmps.size
    · have h1 : a.tmps[d]? = some (a.tmps.getD d undef) := by simp [hlt]
      rw [h1]
      generalize a.tmps.getD d undef = v at hr
      generalize s.t d = x at hr hwb
      cases hr <;> simp at hwb ⊢ <;> exact hwb
    · have h1 : a.tmps[d]? = none := Array.getElem?_eq_none (Nat.le_of_not_lt hlt)
      have h2 : a.tmps.getD d undef = undef := by simp [h1]
      rw [h1]
      rw [h2] at hr
      generalize hx : s.t d = x at hr hwb
      cases x <;> first | (exact Option.some.inj hwb) | (exfalso; cases hr; done) | (cases hwb; done)

theorem wpg_sound (hS : Quiet P S) {q : FuncId → Nat} {B : Nat → Prop} {n : Nat} {w0 : World} {s : St} {a : Act} (hs : SimSt B w0 n σ s a w) {ops : Array Oper} {o : Oper} {ao : AOper} (hc : ccOper P ops o = some ao) (hd : ∀ i, ao.dst = some i → i < n)
    {K : St → Prop} (hK : wpg P S s (quietOper q ao) K) {next : Act → World → Prop} {Q : Exit → Act → World → Prop} (hn : ∀ σ' s' a' w', σ.Le σ' → K s' → SimSt B w0 n σ' s' a' w' → next a' w') :
    if Region.wanted o (yielded ops a.tmps) then o.wp P a w next Q ∨ (o.asks P a w ∧ LetsOut Q) else next (a.put o.dst undef) w := by
  obtain ⟨h1, h2, h3⟩ := guard_eq hs hc
  have hd' : ∀ i, o.dst = some i → i < n := by rw [← h2]; exact hd
  unfold wpg at hK
  obtain ⟨gb, hg, hK⟩ := optW_iff.1 hK
  rw [h1 gb hg]
  cases gb with
  | true =>
    rw [brW_true] at hK
    rw [if_pos rfl]
    refine .inl ?_
    unfold wpo at hK
    cases hop : ccOp P o.op with
    | none =>
      rw [hop] at h3
      simp only [quietOper, h3, Option.getD_none, quietOp, opW] at hK
    | some op0 =>
      rw [hop] at h3
      simp only [quietOper, h3, Option.getD_some, h2] at hK
      refine op_sound hS hs hop hK fun r A' v w' hk hstep => ?_
      obtain ⟨σ', k1, k2, k3, k4⟩ := hstep
      exact hn σ' _ _ w' k1 hk ((hs.move k1 k2 k4).put k3 o.dst hd')
  | false =>
    rw [brW_false] at hK
    simp only [quietOper, h2] at hK
    rw [if_neg (by simp)]
    exact hn σ _ _ w (.refl σ) hK (hs.put (rep_undef σ) o.dst hd')

def dOk (n : Nat) (o : AOper) : Bool := match o.dst with | some d => decide (d < n) | none => true
theorem dOk_spec {n : Nat} {o : AOper} (h : dOk n o = true) : ∀ i, o.dst = some i → i < n := by
  intro i hi
  unfold dOk at h
  rw [hi] at h
  exact of_decide_eq_true h

theorem wps_sound (hS : Quiet P S) {q : FuncId → Nat} {B : Nat → Prop} {n : Nat} {w0 : World} {ops : Array Oper} {aops : List AOper} (hc : ops.toList.mapM (ccOper P ops) = some aops) (hd : ∀ o ∈ aops, dOk n o = true) {K : St → Prop} {Q : Exit → Act → World → Prop}
    {σ0 : Sg} (hn : ∀ σ' s' a' w', σ0.Le σ' → K s' → SimSt B w0 n σ' s' a' w' → Q .normal a' w') :
    ∀ (k i : Nat), i + k = ops.size → ∀ (σ : Sg) (s : St) (a : Act) (w : World), σ0.Le σ → SimSt B w0 n σ s a w → wps P S ((aops.map (quietOper q)).drop i) s K → wpOps P ops Q (List.range' i k) a w := by
  obtain ⟨hl, hget⟩ := mapM_some_length _ _ _ hc
  have hl : aops.length = ops.size := by simpa using hl
  intro k
  induction k with
  | zero =>
    intro i hi σ s a w hle hs h
    rw [List.drop_of_length_le (by simp; omega)] at h
    exact hn _ _ _ _ hle h hs
  | succ k ih =>
    intro i hi σ s a w hle hs h
    have hlt : i < aops.length := by omega
    have hlt' : i < ops.size := by omega
    rw [List.drop_eq_getElem_cons (by simpa using hlt)] at h
    simp only [List.getElem_map] at h
    obtain ⟨ao, hao, hcc⟩ := hget i ops[i] (by simp [hlt'])
    rw [List.getElem?_eq_getElem hlt] at hao
    obtain rfl := Option.some.inj hao
    rw [List.range'_succ]
    simp only [wpOps, Array.getElem?_eq_getElem hlt']
    have := wpg_sound (q := q) hS hs hcc (dOk_spec (hd _ (List.getElem_mem hlt))) h (next := wpOps P ops Q (List.range' (i + 1) k)) (Q := Q)
      (fun σ' s' a' w' hl' hk hs' => ih (i + 1) (by omega) σ' s' a' w' (hle.trans hl') hs' hk)
    simpa using this

theorem ready_eq {ops : Array Oper} {aops : List (AOper × List Nat)} (hc : ops.toList.mapM (fun o => (ccOper P ops o).map fun a => (a, depsOf o)) = some aops) {done : List Nat} {listed : Array Bool}
    (hsz : listed.size = ops.size) (hl : ∀ i, listed.getD i false = done.contains i) : Region.ready .any ops listed = readyA aops done := by
  obtain ⟨hlen, hget⟩ := mapM_some_length _ _ _ hc
  have hlen : aops.length = ops.size := by simpa using hlen
  unfold Region.ready readyA
  rw [hlen]
  apply List.filter_congr
  intro i hi
  have hi : i < ops.size := List.mem_range.1 hi
  have h1 : listed.getD i true = done.contains i := by rw [← hl i]; simp [hsz, hi]
  obtain ⟨y, hy, hf⟩ := hget i ops[i] (by simp [hi])
  obtain ⟨ao, _, rfl⟩ := Option.map_eq_some_iff.1 hf
  rw [h1, hy, Array.getElem?_eq_getElem hi]
  simp only [Option.map_some, Option.getD_some]
  congr 1
  rw [Bool.eq_iff_iff]
  simp only [Array.all_eq_true_iff_forall_mem, List.all_eq_true, depsOf, List.mem_map, List.mem_filter, Bool.or_eq_true, Bool.not_eq_true', hl]
  constructor
  · rintro h j ⟨e, ⟨he, hb⟩, rfl⟩
    exact (h e (Array.mem_toList_iff.1 he)).resolve_left (by simp [hb])
  · intro h e he
    cases hb : Region.binds .any e
    · exact .inl rfl
    · exact .inr (h _ ⟨e, ⟨Array.mem_toList_iff.2 he, hb⟩, rfl⟩)

theorem readyA_congr {aops aops' : List (AOper × List Nat)} (h : aops.map (·.2) = aops'.map (·.2)) (done : List Nat) : readyA aops done = readyA aops' done := by
  have hl : aops.length = aops'.length := by simpa using congrArg List.length h
  unfold readyA
  rw [hl]
  apply List.filter_congr
  intro i hi
  congr 1
  have : (aops[i]?).map (·.2) = (aops'[i]?).map (·.2) := by rw [← List.getElem?_map, ← List.getElem?_map, h]
  cases h1 : aops[i]? <;> cases h2 : aops'[i]? <;> simp [h1, h2] at this ⊢
  rw [this]

theorem wpg_ck {s : St} {o : AOper} {cks : List (Nat × List (Opd × Nat × Bool))} {i : Nat} {K : St → Prop} (hc : ∀ f args c, o.op = .calle f args c → c = []) (h : wpg P S s (addCk cks o i) K) : wpg P S s o K := by
  obtain ⟨d, op, g⟩ := o
  cases op with
  | calle f args c =>
    obtain rfl := hc f args c rfl
    simp only [addCk] at h
    unfold wpg wpo at *
    obtain ⟨gb, hg, h⟩ := optW_iff.1 h
    refine optW_iff.2 ⟨gb, hg, ?_⟩
    cases gb with
    | false => rw [brW_false] at *; exact h
    | true =>
      rw [brW_true] at *
      simp only [opW] at *
      obtain ⟨r, hr, h⟩ := optW_iff.1 h
      exact optW_iff.2 ⟨r, hr, trivial, h.2⟩
  | _ => exact h

theorem wpall_sound (hS : Quiet P S) {q : FuncId → Nat} {cks : List (Nat × List (Opd × Nat × Bool))} {B : Nat → Prop} {n : Nat} {w0 : World} {ops : Array Oper} {aops : List (AOper × List Nat)} (hc : ops.toList.mapM (fun o => (ccOper P ops o).map fun a => (a, depsOf o)) = some aops) (hd : ∀ o ∈ aops, dOk n o.1 = true) {K : St → Prop} {Q : Exit → Act → World → Prop}
    {σ0 : Sg} (hn : ∀ σ' s' a' w', σ0.Le σ' → K s' → SimSt B w0 n σ' s' a' w' → Q .normal a' w') :
    ∀ (k : Nat) (done : List Nat) (listed : Array Bool), listed.size = ops.size → (∀ i, listed.getD i false = done.contains i) → ∀ (σ : Sg) (s : St) (a : Act) (w : World), σ0.Le σ → SimSt B w0 n σ s a w → wpall P S (drawn q cks aops) k done s K → wpAny P .any ops Q k listed a w := by
  obtain ⟨hlen, hget⟩ := mapM_some_length _ _ _ hc
  have hlen : aops.length = ops.size := by simpa using hlen
  have hrq : ∀ done, readyA (drawn q cks aops) done = readyA aops done := fun done => readyA_congr (by
    apply List.ext_getElem?
    intro i
    simp [drawn, Function.comp_def]) done
  intro k
  induction k with
  | zero =>
    intro done listed hsz hl σ s a w hle hs h
    refine ⟨?_, hn _ _ _ _ hle h.2 hs⟩
    rw [ready_eq hc hsz hl, ← hrq]
    exact h.1
  | succ k ih =>
    intro done listed hsz hl σ s a w hle hs h
    refine ⟨fun h0 => hn _ _ _ _ hle (h.1 (by rw [hrq, ← ready_eq hc hsz hl]; exact h0)) hs, fun i hi => ?_⟩
    rw [ready_eq hc hsz hl] at hi
    have hilt : i < ops.size := by
      have := List.mem_range.1 (List.mem_filter.1 hi).1
      omega
    have hilt' : i < aops.length := by omega
    obtain ⟨y, hy, hf⟩ := hget i ops[i] (by simp [hilt])
    obtain ⟨ao, hao, rfl⟩ := Option.map_eq_some_iff.1 hf
    have h2 := h.2 i (by rw [hrq]; exact hi) (addCk cks (quietOper q ao) i, depsOf ops[i]) (by simp only [drawn, List.getElem?_mapIdx, hy]; rfl)
    replace h2 := wpg_ck (by
      intro f args c e
      simp only [quietOper] at e
      have e3 := (guard_eq hs hao).2.2
      cases hop : ccOp P ops[i].op with
      | none =>
        rw [hop] at e3
        rw [e3] at e
        cases e
      | some op0 =>
        rw [hop] at e3
        rw [e3] at e
        simp only [Option.getD_some] at e
        unfold quietOp at e
        split at e
        · split at e
          · cases e
          · split at e
            · injection e with _ _ e; exact e.symm
            · cases e
        · exact (cc_calle hop (by rw [e]; rfl)).elim) h2
    unfold wpOp
    simp only [Array.getElem?_eq_getElem hilt]
    refine wpg_sound (q := q) hS hs hao (dOk_spec (hd _ (List.mem_of_getElem? hy))) h2 fun σ' s' a' w' hl' hk hs' => ih (i :: done) _ (by simp [hsz]) (fun j => ?_) σ' s' a' w' (hle.trans hl') hs' hk
    by_cases hij : i = j
    · subst hij
      simp [hsz, hilt]
    · rw [getD_set_ne false hij, hl j]
      simp [List.contains_cons, Ne.symm hij]

end Go.Proofs.YtllahdjejcideaaAi
