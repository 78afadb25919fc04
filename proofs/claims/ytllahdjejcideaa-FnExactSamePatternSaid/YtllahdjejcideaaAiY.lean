/- An owned object that will not change again becomes a value. -/
import Derived.Test.YtllahdjejcideaaAiX
namespace Go.Proofs.YtllahdjejcideaaAi
open Go Go.RowKit
set_option linter.unusedVariables false
set_option linter.unusedSimpArgs false

/-- A slice of an object, by value. -/
def FzOne (b : Nat) (cs : List AV) (v v' : AV) : Prop := v' = v ∨ ∃ e o n t xs t', v = .ref b e o n t ∧ v' = .sl xs t' ∧ (t' = true → t = .tight) ∧ (o + n) * e ≤ cs.length ∧ xs.length = n ∧
  (∀ x ∈ xs, x.cells.length = e) ∧ xs.flatMap AV.cells = (cs.drop (o * e)).take (n * e)
def FzL (b : Nat) (cs : List AV) (l l' : List AV) : Prop := l.length = l'.length ∧ ∀ (i : Nat) x x', l[i]? = some x → l'[i]? = some x' → FzOne b cs x x'
def Fz (b : Nat) (cs : List AV) (v v' : AV) : Prop := FzOne b cs v v' ∨ (∃ l l', v = .agg l ∧ v' = .agg l' ∧ FzL b cs l l') ∨ ∃ l l', v = .tup l ∧ v' = .tup l' ∧ l.length = l'.length ∧ ∀ (i : Nat) x x', l[i]? = some x → l'[i]? = some x' → FzOne b cs x x' ∨ ∃ l l', x = .agg l ∧ x' = .agg l' ∧ FzL b cs l l'

theorem Fz.refl (b : Nat) (cs : List AV) (v : AV) : Fz b cs v v := .inl (.inl rfl)

variable {σ : Sg} {w : World}

theorem flatMap_cell (e : Nat) (xs : List AV) (h : ∀ x ∈ xs, x.cells.length = e) (i j : Nat) {x c : AV} (hx : xs[i]? = some x) (hc : x.cells[j]? = some c) : (xs.flatMap AV.cells)[i * e + j]? = some c := by
  have hj : j < e := by rw [← h x (List.mem_of_getElem? hx)]; exact (List.getElem?_eq_some_iff.1 hc).1
  have he : 0 < e := by omega
  rw [flatMap_get e xs _ h he]
  have h1 : (i * e + j) / e = i := by
    rw [Nat.mul_comm, Nat.mul_add_div he, Nat.div_eq_of_lt hj, Nat.add_zero]
  have h2 : (i * e + j) % e = j := by
    rw [Nat.mul_comm, Nat.mul_add_mod, Nat.mod_eq_of_lt hj]
  rw [h1, h2, hx]
  exact hc

theorem FzOne.rep {B : Nat} {A : AHeap} (h : Sim B σ A w) {b : Nat} {cs : List AV} (hb : A b = some cs) {σ' : Sg} (hle : σ.Le σ') (hm : σ'.mem b = w.heap[b]?) {v v' : AV} {u : Value} (hf : FzOne b cs v v') (hr : Rep σ v u) : Rep σ' v' u := by
  rcases hf with rfl | ⟨e, o, n, t, xs, t', rfl, rfl, ht, hfit, hl, hx, hfl⟩
  · exact hr.mono hle
  · obtain ⟨ad, cap, sz, rfl, h3, h4, h5, h6, h7, h8, h9⟩ := hr.refInv
    by_cases h0 : n = 0
    · subst h0
      have : xs = [] := List.length_eq_zero_iff.1 hl
      subst this
      exact .slnil _ _ _ (fun h => h5 (ht h)) h4 (fun h => by cases h)
    · have had := h6 (by omega)
      subst had
      obtain ⟨hB, _, cur, te, hh, hs, hcl, hcell⟩ := h.own b cs hb
      have key : ∀ (i j : Nat) (x c : AV), xs[i]? = some x → x.cells[j]? = some c → ∃ u, σ'.cell b (o * e + i * e + j) = some u ∧ Rep σ c u ∧ u.oneCell' = true := by
        intro i j x c hxi hcj
        have h1 := flatMap_cell e xs hx i j hxi hcj
        rw [hfl, List.getElem?_take] at h1
        split at h1
        · rw [List.getElem?_drop] at h1
          obtain ⟨u, k1, k2, k3⟩ := hcell _ _ h1
          refine ⟨u, ?_, k2, k3⟩
          unfold Sg.cell
          rw [hm, hh]
          simp only
          rw [Nat.add_assoc]
          exact k1
        · cases h1
      classical
      let val : Nat → Nat → Value := fun i j => match σ'.cell b (o * e + i * e + j) with | some u => if u.oneCell' = true then u else .bool false | none => .bool false
      have hval : ∀ (i j : Nat) (x c : AV), xs[i]? = some x → x.cells[j]? = some c → σ'.cell b (o * e + i * e + j) = some (val i j) ∧ Rep σ c (val i j) := by
        intro i j x c hxi hcj
        obtain ⟨u, k1, k2, k3⟩ := key i j x c hxi hcj
        have : val i j = u := by simp only [val, k1, if_pos k3]
        rw [this]
        exact ⟨k1, k2⟩
      rw [← hl]
      refine .sl xs t' b (o * e) e cap val (by omega) h4 (fun h => by rw [hl]; exact h5 (ht h)) (fun i x hxi => hx x (List.mem_of_getElem? hxi)) ?_ ?_ ?_
      · exact fun i x hxi j c hcj => (hval i j x c hxi hcj).1
      · exact fun i x hxi j c hcj => (hval i j x c hxi hcj).2.mono hle
      · intro i j
        simp only [val]
        split
        · split
          · assumption
          · rfl
        · rfl

theorem FzL.rep {B : Nat} {A : AHeap} (h : Sim B σ A w) {b : Nat} {cs : List AV} (hb : A b = some cs) {σ' : Sg} (hle : σ.Le σ') (hm : σ'.mem b = w.heap[b]?) {l l' : List AV} {u : Value} (hf : FzL b cs l l') (hr : Rep σ (.agg l) u) : Rep σ' (.agg l') u := by
  cases hr with
  | agg cs vs hl h1 hr =>
    refine .agg _ _ (by rw [← hf.1, hl]) h1 fun i c v hc hv => ?_
    have hlt : i < l.length := by rw [hf.1]; exact (List.getElem?_eq_some_iff.1 hc).1
    exact FzOne.rep h hb hle hm (hf.2 i _ c (List.getElem?_eq_getElem hlt) hc) (hr i _ v (List.getElem?_eq_getElem hlt) hv)

theorem Fz.rep {B : Nat} {A : AHeap} (h : Sim B σ A w) {b : Nat} {cs : List AV} (hb : A b = some cs) {σ' : Sg} (hle : σ.Le σ') (hm : σ'.mem b = w.heap[b]?) {v v' : AV} {u : Value} (hf : Fz b cs v v') (hr : Rep σ v u) : Rep σ' v' u := by
  rcases hf with hf | ⟨l, l', rfl, rfl, hf⟩ | ⟨l, l', rfl, rfl, hl', hf⟩
  · exact FzOne.rep h hb hle hm hf hr
  · exact FzL.rep h hb hle hm hf hr
  · cases hr with
    | tup cs vs hl hr =>
      refine .tup _ _ (by rw [← hl', hl]) fun i c v hc hv => ?_
      have hlt : i < l.length := by rw [hl']; exact (List.getElem?_eq_some_iff.1 hc).1
      have hr' := hr i _ v (List.getElem?_eq_getElem hlt) hv
      rcases hf i _ c (List.getElem?_eq_getElem hlt) hc with hf | ⟨k, k', e1, rfl, hf⟩
      · exact FzOne.rep h hb hle hm hf hr'
      · rw [e1] at hr'
        exact FzL.rep h hb hle hm hf hr'

def Sg.freeze (σ : Sg) (b : Nat) (o : Option Obj) : Sg := { σ with mem := fun i => if i = b then o else σ.mem i }

theorem Shift.freeze {s s' : St} {b : Nat} {cs : List AV} (hb : s.A b = some cs) (ht : ∀ i, Fz b cs (s.t i) (s'.t i)) (hA : ∀ i l', s'.A i = some l' → i ≠ b ∧ ∃ l, s.A i = some l ∧ FzL b cs l l') : Shift s s' := by
  intro B w0 n σ a w hs
  obtain ⟨hB, hmem, cur, te, hh, hsz, hcl, hcell⟩ := hs.sim.own b cs hb
  have hle : σ.Le (σ.freeze b w.heap[b]?) := ⟨fun i o h => by
    have hne : i ≠ b := fun e => by subst e; rw [hmem] at h; cases h
    simpa [Sg.freeze, hne] using h, fun i m h => h⟩
  have hm : (σ.freeze b w.heap[b]?).mem b = w.heap[b]? := by simp [Sg.freeze]
  refine ⟨σ.freeze b w.heap[b]?, hle, ⟨hs.sim.base, fun i o h => ?_, hs.sim.size, fun i l' h => ?_⟩, fun t => Fz.rep hs.sim hb hle hm (ht t) (hs.tmps t), hs.size, hs.defers, hs.below⟩
  · by_cases hi : i = b
    · subst hi; simpa [Sg.freeze] using h
    · exact hs.sim.mem i o (by simpa [Sg.freeze, hi] using h)
  · obtain ⟨hne, l, hl, hf⟩ := hA i l' h
    obtain ⟨k1, k2, cur', te', k3, k4, k5, k6⟩ := hs.sim.own i l hl
    refine ⟨k1, by simpa [Sg.freeze, hne] using k2, cur', te', k3, k4, by rw [← hf.1]; exact k5, fun j c hj => ?_⟩
    have hlt : j < l.length := by rw [hf.1]; exact (List.getElem?_eq_some_iff.1 hj).1
    obtain ⟨v, e1, e2, e3⟩ := k6 j _ (List.getElem?_eq_getElem hlt)
    exact ⟨v, e1, FzOne.rep hs.sim hb hle hm (hf.2 j _ c (List.getElem?_eq_getElem hlt) hj) e2, e3⟩

theorem Shift.refl (s : St) : Shift s s := fun B w0 n σ a w hs => ⟨σ, .refl σ, hs⟩
theorem Shift.trans {a b c : St} (h : Shift a b) (k : Shift b c) : Shift a c := fun B w0 n σ x w hs => by
  obtain ⟨σ1, l1, s1⟩ := h B w0 n σ x w hs
  obtain ⟨σ2, l2, s2⟩ := k B w0 n σ1 x w s1
  exact ⟨σ2, l1.trans l2, s2⟩

/-- The slice in a temporary, by value. -/
def St.frzT (s : St) (k b : Nat) (v : AV) : St := { t := fun i => if i = k then v else s.t i, A := s.A.del b }
theorem Shift.tmp {s : St} {k b e o n : Nat} {t : Cp} {cs xs : List AV} {t' : Bool} (hk : s.t k = .ref b e o n t) (hb : s.A b = some cs) (ht : t' = true → t = .tight) (hfit : (o + n) * e ≤ cs.length) (hl : xs.length = n)
    (hx : ∀ x ∈ xs, x.cells.length = e) (hfl : xs.flatMap AV.cells = (cs.drop (o * e)).take (n * e)) : Shift s (s.frzT k b (.sl xs t')) := by
  refine Shift.freeze hb (fun i => ?_) (fun i l' h => ?_)
  · simp only [St.frzT]
    by_cases hi : i = k
    · subst hi
      rw [if_pos rfl, hk]
      exact .inl (.inr ⟨e, o, n, t, xs, t', rfl, rfl, ht, hfit, hl, hx, hfl⟩)
    · rw [if_neg hi]
      exact Fz.refl _ _ _
  · simp only [St.frzT, AHeap.del] at h
    split at h
    · cases h
    · rename_i hi
      exact ⟨hi, l', h, rfl, fun j x x' h1 h2 => .inl (by rw [h1] at h2; exact (Option.some.inj h2).symm)⟩

theorem ones_flat : ∀ (cs : List AV), (∀ x ∈ cs, x.one = true) → cs.flatMap AV.cells = cs
  | [], _ => rfl
  | x :: cs, h => by
    rw [List.flatMap_cons, ones_flat cs fun y hy => h y (List.mem_cons_of_mem _ hy)]
    have hx := h x (List.mem_cons_self ..)
    cases x <;> first | rfl | (simp [AV.one] at hx)

/-- A whole object of one-cell elements. -/
theorem Shift.tmp1 {s : St} {k b n : Nat} {t : Cp} {cs : List AV} (hk : s.t k = .ref b 1 0 n t) (hb : s.A b = some cs) (hn : cs.length = n) (h1 : (cs.all AV.one) = true) : Shift s (s.frzT k b (.sl cs (decide (t = .tight)))) := by
  have h1' : ∀ x ∈ cs, x.one = true := List.all_eq_true.1 h1
  refine Shift.tmp hk hb (fun h => of_decide_eq_true h) (by omega) hn (fun x hx => ?_) ?_
  · have := h1' x hx
    cases x <;> first | rfl | (simp [AV.one] at this)
  · rw [ones_flat cs h1']
    simp [← hn]

/-- A slice of an owned object that is written element by element. -/
structure Filled (e : Nat) (cs xs : List AV) (i : Nat) : Prop where
  len : cs.length = xs.length * e
  get : ∀ j, j < i → ∀ c, c < e → cs[j * e + c]? = (xs[j]?).bind fun x => x.cells[c]?

theorem Filled.zero {e : Nat} {cs xs : List AV} (h : cs.length = xs.length * e) : Filled e cs xs 0 := ⟨h, fun j hj => by omega⟩

theorem Filled.step {e : Nat} {cs xs : List AV} {i : Nat} (h : Filled e cs xs i) {x : AV} (hx : xs[i]? = some x) (hc : x.cells.length = e) : Filled e (setCells cs (i * e) x.cells) xs (i + 1) := by
  have hi : i < xs.length := (List.getElem?_eq_some_iff.1 hx).1
  have hfit : i * e + x.cells.length ≤ cs.length := by
    rw [h.len, hc]
    have : (i + 1) * e ≤ xs.length * e := Nat.mul_le_mul_right _ hi
    rw [Nat.add_mul] at this
    omega
  refine ⟨by rw [setCells_length, h.len], fun j hj c hce => ?_⟩
  rw [setCells_get _ _ _ _ hfit]
  by_cases hji : j = i
  · subst hji
    rw [if_pos (by omega), hx]
    simp
  · have hlt : j < i := by omega
    have hle : (j + 1) * e ≤ i * e := Nat.mul_le_mul_right _ hlt
    rw [Nat.add_mul] at hle
    rw [if_neg (by omega)]
    exact h.get j hlt c hce

theorem Filled.all {e : Nat} {cs xs : List AV} (h : Filled e cs xs xs.length) (hx : ∀ x ∈ xs, x.cells.length = e) (he : 0 < e) : xs.flatMap AV.cells = cs := by
  apply List.ext_getElem?
  intro k
  rw [flatMap_get e xs k hx he]
  rcases Nat.lt_or_ge k cs.length with hk | hk
  · have h1 : k / e < xs.length := (Nat.div_lt_iff_lt_mul he).2 (by rw [← h.len]; exact hk)
    have h2 := h.get (k / e) h1 (k % e) (Nat.mod_lt _ he)
    rw [Nat.mul_comm, Nat.div_add_mod] at h2
    exact h2.symm
  · have h1 : xs.length ≤ k / e := (Nat.le_div_iff_mul_le he).2 (by rw [← h.len]; exact hk)
    rw [List.getElem?_eq_none h1, List.getElem?_eq_none hk]
    rfl

end Go.Proofs.YtllahdjejcideaaAi
