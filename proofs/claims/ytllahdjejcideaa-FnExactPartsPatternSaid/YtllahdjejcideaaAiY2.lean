/- A call to which owned objects are lent: it sees them by value. -/
import Derived.Test.YtllahdjejcideaaAiY
namespace Go.Proofs.YtllahdjejcideaaAi
open Go Go.RowKit
set_option linter.unusedVariables false
set_option linter.unusedSimpArgs false
set_option linter.unusedSectionVars false

variable {P : Program} {S : Spec} {N : Nat}

mutual
/-- No memory is reached by value. -/
def AV.flat : AV → Bool
  | .sl xs _ => xs.isEmpty
  | .ep _ _ _ => false
  | .fn _ cs => flatL cs
  | .agg cs => flatL cs
  | .tup cs => flatL cs
  | _ => true
def flatL : List AV → Bool
  | [] => true
  | x :: r => x.flat && flatL r
end

mutual
theorem flat_ren {n : Nat} {f : Nat → Nat} {σ σ' : Sg} (hn : ∀ b x, b < n → σ.nm b = some x → σ'.nm (f b) = some x) : ∀ (x : AV) (v : Value), x.flat = true → x.lt n = true → Rep σ x v → Rep σ' (x.ren f) v
  | .bool _, v, _, _, h => by cases h; exact .bool _
  | .int _ _, v, _, _, h => by cases h; exact .int _ _
  | .str _, v, _, _, h => by cases h; exact .str _
  | .any, v, _, _, _ => .any v
  | .nilp, v, _, _, h => by cases h; exact .nilp
  | .nilf, v, _, _, h => by cases h; exact .nilf
  | .nili, v, _, _, h => by cases h; exact .nili
  | .iface, v, _, _, h => by cases h; exact .iface _ _
  | .ptr b o, v, _, hl, h => by
    cases h with
    | ptr _ _ c sz h1 => exact .ptr _ _ c sz (hn b _ (of_decide_eq_true hl) h1)
  | .ref b e o m t, v, _, hl, h => by
    cases h with
    | ref _ _ _ _ _ ad cap c sz h1 h2 h3 h4 h5 h6 h7 => exact .ref _ _ _ _ _ ad cap c sz h1 h2 h3 h4 (hn b _ (of_decide_eq_true hl) h5) h6 h7
  | .sl xs t, v, hf, _, h => by
    have : xs = [] := by simpa [AV.flat] using hf
    subst this
    cases h with
    | slnil _ a cap h1 h2 h3 => exact .slnil t a cap h1 h2 h3
    | sl _ _ b off s cap val h1 h2 h3 h4 h5 h6 h7 h8 => exact .sl [] t b off s cap val h1 h2 h3 h4 (fun i x hx => by simp at hx) (fun i x hx => by simp at hx) h7 h8
  | .ep x i o, v, hf, _, _ => by cases hf
  | .fn g cs, v, hf, hl, h => by
    cases h with
    | fn _ _ vs h1 h2 => exact .fn g _ vs (by rw [renL_map]; simpa using h1) (flatL_ren hn cs vs hf hl h2)
  | .agg cs, v, hf, hl, h => by
    cases h with
    | agg _ vs h1 h2 h3 => exact .agg _ vs (by rw [renL_map]; simpa using h1) h2 (flatL_ren hn cs vs hf hl h3)
  | .tup cs, v, hf, hl, h => by
    cases h with
    | tup _ vs h1 h3 => exact .tup _ vs (by rw [renL_map]; simpa using h1) (flatL_ren hn cs vs hf hl h3)
theorem flatL_ren {n : Nat} {f : Nat → Nat} {σ σ' : Sg} (hn : ∀ b x, b < n → σ.nm b = some x → σ'.nm (f b) = some x) : ∀ (cs : List AV) (vs : List Value), flatL cs = true → ltL n cs = true →
    (∀ (i : Nat) (c : AV) (v : Value), cs[i]? = some c → vs[i]? = some v → Rep σ c v) → ∀ (i : Nat) (c : AV) (v : Value), (renL f cs)[i]? = some c → vs[i]? = some v → Rep σ' c v
  | [], vs, _, _, _, i, c, v, hc, _ => by simp [renL] at hc
  | x :: cs, vs, hf, hl, h, i, c, v, hc, hv => by
    simp only [ltL, Bool.and_eq_true] at hl
    simp only [flatL, Bool.and_eq_true] at hf
    cases vs with
    | nil => simp at hv
    | cons u us =>
      cases i with
      | zero =>
        simp [renL] at hc hv
        subst hc; subst hv
        exact flat_ren hn x u hf.1 hl.1 (h 0 x u rfl rfl)
      | succ i => exact flatL_ren hn cs us hf.2 hl.2 (fun i c v h1 h2 => h (i + 1) c v (by simpa using h1) (by simpa using h2)) i c v (by simpa [renL] using hc) (by simpa using hv)
end

theorem flatL_get : ∀ {cs : List AV} {i : Nat} {x : AV}, flatL cs = true → cs[i]? = some x → x.flat = true
  | [], i, x, _, h => by simp at h
  | c :: r, 0, x, hf, h => by
    simp at h; subst h
    simp only [flatL, Bool.and_eq_true] at hf
    exact hf.1
  | c :: r, i + 1, x, hf, h => by
    simp only [flatL, Bool.and_eq_true] at hf
    exact flatL_get hf.2 (by simpa using h)
/-- Cells as elements. -/
def elemA (e : Nat) (cs : List AV) : AV := if e = 1 then (match cs.head? with
  | some (.agg l) => .agg [.agg l]
  | some c => c
  | none => .agg []) else .agg (cs.take e)
def gath (e : Nat) : Nat → List AV → List AV
  | 0, _ => []
  | n + 1, cs => elemA e cs :: gath e n (cs.drop e)
@[simp] theorem gath_len (e : Nat) : ∀ (n : Nat) (cs : List AV), (gath e n cs).length = n
  | 0, _ => rfl
  | n + 1, cs => by simp [gath, gath_len e n]
theorem elemA_cells {e : Nat} {cs : List AV} (h : e ≤ cs.length) : (elemA e cs).cells = cs.take e := by
  unfold elemA
  split
  · rename_i h1
    subst h1
    cases cs with
    | nil => simp at h
    | cons c r => cases c <;> simp
  · simp
theorem gath_get (e : Nat) : ∀ (n : Nat) (cs : List AV) (i : Nat) (x : AV), n * e ≤ cs.length → (gath e n cs)[i]? = some x → x.cells = (cs.drop (i * e)).take e ∧ i < n
  | 0, cs, i, x, _, h => by simp [gath] at h
  | n + 1, cs, 0, x, hl, h => by
    simp [gath] at h
    subst h
    rw [Nat.add_mul] at hl
    exact ⟨by rw [elemA_cells (by omega)]; simp, by omega⟩
  | n + 1, cs, i + 1, x, hl, h => by
    rw [Nat.add_mul] at hl
    have := gath_get e n (cs.drop e) i x (by simp; omega) (by simpa [gath] using h)
    refine ⟨?_, by omega⟩
    rw [this.1, List.drop_drop, Nat.add_mul, Nat.one_mul, Nat.add_comm]

mutual
/-- What lent objects look like by value. -/
def seeV (A : AHeap) : AV → Option AV
  | .ref b e o n _ => (A b).bind fun cs => if (o + n) * e ≤ cs.length ∧ ltL 0 cs = true then some (.sl (gath e n ((looseL cs).drop (o * e))) false) else none
  | .agg l => (seeL A l).map .agg
  | .sl xs t => some (.sl xs false)
  | v => if v.lt 0 = true then some v.loose else none
def seeL (A : AHeap) : List AV → Option (List AV)
  | [] => some []
  | x :: r => (seeV A x).bind fun y => (seeL A r).map (y :: ·)
end
theorem seeV_bool (A : AHeap) (b : Bool) : seeV A (.bool b) = some (.bool b) := rfl
theorem seeV_int (A : AHeap) (k : IntKind) (n : Int) : seeV A (.int k n) = some (.int k n) := rfl
theorem seeV_str (A : AHeap) (s : ByteArray) : seeV A (.str s) = some (.str s) := rfl
theorem seeV_nilp (A : AHeap) : seeV A .nilp = some .nilp := rfl
theorem seeV_nilf (A : AHeap) : seeV A .nilf = some .nilf := rfl
theorem seeV_sl (A : AHeap) (xs : List AV) (t : Bool) : seeV A (.sl xs t) = some (.sl xs false) := rfl
theorem seeV_agg (A : AHeap) (l : List AV) : seeV A (.agg l) = (seeL A l).map .agg := rfl
theorem seeV_ref (A : AHeap) (b e o n : Nat) (t : Cp) : seeV A (.ref b e o n t) = (A b).bind fun cs => if (o + n) * e ≤ cs.length ∧ ltL 0 cs = true then some (.sl (gath e n ((looseL cs).drop (o * e))) false) else none := rfl
theorem seeL_nil (A : AHeap) : seeL A [] = some [] := rfl
theorem seeL_cons (A : AHeap) (x : AV) (r : List AV) : seeL A (x :: r) = (seeV A x).bind fun y => (seeL A r).map (y :: ·) := rfl

def allSg (w : World) : Sg := ⟨fun c => w.heap[c]?, fun _ => none, fun c => w.heap[c]?⟩
theorem Sim.all {B : Nat → Prop} {σ : Sg} {A : AHeap} {w : World} (h : Sim B σ A w) : Sim (fun c => c < w.heap.size) (allSg w) .nil w :=
  ⟨fun c h => h, fun b o e => e, fun c o e => .inl e, fun b c n e => (by cases e), fun b hb => absurd hb (Nat.not_lt_zero b), fun b cs e => (by cases e), fun b b' cs cs' c n n' e => (by cases e)⟩

section
variable {B : Nat → Prop} {σ : Sg} {A : AHeap} {w : World} (hs : Sim B σ A w)
include hs
theorem low_all {x : AV} {v : Value} (hl : x.lt 0 = true) (h : Rep σ x v) : Rep (allSg w) x v := by
  have := rep_ren (n := 0) (f := fun b => b) (σ := σ) (σ' := allSg w) (fun b x hb => absurd hb (Nat.not_lt_zero _)) (fun b o e => hs.mem b o e) x v hl h
  rwa [ren_low _ _ hl] at this
mutual
theorem see_rep : ∀ (x y : AV) (v : Value), seeV A x = some y → Rep σ x v → Rep (allSg w) y v
  | .ref b e o n t, y, v, hy, h => by
    rw [seeV_ref] at hy
    obtain ⟨cs, hb, hy⟩ := Option.bind_eq_some_iff.1 hy
    split at hy
    · rename_i hc
      obtain rfl := Option.some.inj hy
      cases h with
      | ref _ _ _ _ _ ad cap c sz h1 h2 h3 h4 h5 h6 h7 =>
        by_cases hn : n = 0
        · subst hn
          exact .slnil false _ cap (fun h => by cases h) h2 (fun h => by cases h)
        · have hcap : cap ≠ 0 := by omega
          obtain rfl := h4 hcap
          obtain ⟨c', cur, tt, k1, k2, k3, k4, k5, k6⟩ := hs.own b cs hb
          rw [h5] at k1
          injection k1 with k1; injection k1 with k1 k1'
          subst k1
          have hlen : (gath e n ((looseL cs).drop (o * e))).length = n := gath_len ..
          have hfit : n * e ≤ ((looseL cs).drop (o * e)).length := by
            rw [List.length_drop, looseL_len]
            have := hc.1
            rw [Nat.add_mul] at this
            omega
          have hcell : ∀ (i : Nat) (x : AV), (gath e n ((looseL cs).drop (o * e)))[i]? = some x → ∀ (j : Nat) (y : AV), x.cells[j]? = some y → ∃ y0, cs[o * e + i * e + j]? = some y0 ∧ y = y0.loose := by
            intro i x hx j y hy
            obtain ⟨g1, g2⟩ := gath_get e n _ i x hfit hx
            rw [g1, List.getElem?_take] at hy
            split at hy
            · rw [List.drop_drop, List.getElem?_drop, looseL_map, List.getElem?_map] at hy
              obtain ⟨y0, e1, e2⟩ := Option.map_eq_some_iff.1 hy
              exact ⟨y0, e1, e2.symm⟩
            · cases hy
          have hval : ∀ (i : Nat) (x : AV), (gath e n ((looseL cs).drop (o * e)))[i]? = some x → ∀ (j : Nat) (y : AV), x.cells[j]? = some y → ∃ v, cur[o * e + i * e + j]? = some v ∧ Rep σ y v ∧ v.oneCell' = true ∧ y.lt 0 = true := by
            intro i x hx j y hy
            obtain ⟨y0, e1, rfl⟩ := hcell i x hx j y hy
            obtain ⟨v, e2, e3, e4⟩ := k6 _ _ e1
            exact ⟨v, e2, rep_loose _ _ e3, e4, by rw [loose_lt]; exact ltL_get hc.2 _ _ e1⟩
          have := Rep.sl (σ := allSg w) (gath e n ((looseL cs).drop (o * e))) false c (o * e) e cap (fun i j => if (cur[o * e + i * e + j]?.getD (.bool false)).oneCell' = true then cur[o * e + i * e + j]?.getD (.bool false) else .bool false) (by rw [hlen]; exact h1) h2 (fun h => by cases h)
            (fun i x hx => by
              obtain ⟨g1, g2⟩ := gath_get e n _ i x hfit hx
              rw [g1, List.length_take, List.length_drop]
              have : (i + 1) * e ≤ n * e := Nat.mul_le_mul_right _ (by omega)
              rw [Nat.add_mul] at this
              omega)
            (fun i x hx j y hy => by
              obtain ⟨v, e1, e2, e3, _⟩ := hval i x hx j y hy
              simp only [Sg.cell, allSg, k4]
              rw [e1]
              simp [e3])
            (fun i x hx j y hy => by
              obtain ⟨v, e1, e2, e3, e4⟩ := hval i x hx j y hy
              rw [e1]
              simp only [Option.getD_some, e3, if_true]
              exact low_all hs e4 e2)
            (fun i j => by
              split
              · assumption
              · rfl)
            (fun i x hx => by
              obtain ⟨g1, g2⟩ := gath_get e n _ i x hfit hx
              refine ltL_of fun y hy => ?_
              obtain ⟨j, hy⟩ := List.mem_iff_getElem?.1 hy
              obtain ⟨v, _, _, _, e4⟩ := hval i x hx j y hy
              exact e4)
          rw [hlen] at this
          exact this
    · cases hy
  | .agg l, y, v, hy, h => by
    rw [seeV_agg] at hy
    obtain ⟨l', hl, rfl⟩ := Option.map_eq_some_iff.1 hy
    cases h with
    | agg _ vs h1 h2 h3 =>
      obtain ⟨k1, k2⟩ := seeL_rep l l' vs hl h1 h3
      exact .agg _ vs k1 h2 k2
  | .sl xs t, y, v, hy, h => by
    obtain rfl := Option.some.inj hy
    exact low_all hs rfl (rep_loose _ _ h)
  | .bool _, y, v, hy, h | .int _ _, y, v, hy, h | .str _, y, v, hy, h | .ptr _ _, y, v, hy, h | .ep _ _ _, y, v, hy, h | .fn _ _, y, v, hy, h | .tup _, y, v, hy, h | .nilp, y, v, hy, h | .nilf, y, v, hy, h | .nili, y, v, hy, h | .iface, y, v, hy, h | .any, y, v, hy, h => by
    simp only [seeV] at hy
    split at hy
    · rename_i hl
      obtain rfl := Option.some.inj hy
      exact low_all hs (by rw [loose_lt]; exact hl) (rep_loose _ _ h)
    · cases hy
theorem seeL_rep : ∀ (l l' : List AV) (vs : List Value), seeL A l = some l' → l.length = vs.length → (∀ (i : Nat) (c : AV) (v : Value), l[i]? = some c → vs[i]? = some v → Rep σ c v) → l'.length = vs.length ∧ ∀ (i : Nat) (c : AV) (v : Value), l'[i]? = some c → vs[i]? = some v → Rep (allSg w) c v
  | [], l', vs, hl, h1, h2 => by
    obtain rfl := Option.some.inj hl
    exact ⟨h1, by simp⟩
  | x :: l, l', [], hl, h1, h2 => by simp at h1
  | x :: l, l', v :: vs, hl, h1, h2 => by
    rw [seeL_cons] at hl
    obtain ⟨y, hy, hl⟩ := Option.bind_eq_some_iff.1 hl
    obtain ⟨l'', hl'', rfl⟩ := Option.map_eq_some_iff.1 hl
    obtain ⟨k1, k2⟩ := seeL_rep l l'' vs hl'' (by simpa using h1) (fun i c u hc hu => h2 (i + 1) c u (by simpa using hc) (by simpa using hu))
    refine ⟨by simpa using k1, fun i c u hc hu => ?_⟩
    cases i with
    | zero =>
      simp at hc hu
      subst hc; subst hu
      exact see_rep x y v hy (h2 0 x v rfl rfl)
    | succ i => exact k2 i c u (by simpa using hc) (by simpa using hu)
end
end

theorem T.borrow {f : FuncId} {args args' : List AV} {A : AHeap} {R : AV → AHeap → Prop} (h : T P f args' .nil R) (hl : seeL A args = some args') (hR : ∀ r A', R r A' → r.flat = true ∧ ∀ b cs, A' b = some cs → flatL cs = true) :
    T P f args A fun r A1 => ∃ r' A1', R r' A1' ∧ r = r'.ren (shiftN A.n) ∧ A1 = addObjs A A1'.l := by
  refine ⟨h.1, fun B w0 σ w vs hb hs ha => ?_⟩
  have ha1 : RepL (allSg w) args' vs := seeL_rep hs args args' vs hl ha.1 ha.2
  refine (h.2 _ w _ w vs (Keeps.refl _ _) hs.all ha1).mono fun e w' ⟨r', A1', v, σ2, he, hr, hle, hs3, hrep, hk⟩ => ?_
  obtain ⟨f1, f2⟩ := hR _ _ hr
  let g := shiftN A.n
  let σ3 : Sg := ⟨σ.mem, fun i => if i < A.n then σ.nm i else σ2.nm (i - A.n), σ.base⟩
  have hren : ∀ b x, b < A1'.n → σ2.nm b = some x → σ3.nm (g b) = some x := by
    intro b x _ e
    show (if g b < A.n then σ.nm (g b) else σ2.nm (g b - A.n)) = some x
    simp only [g, shiftN]
    rw [if_neg (by omega), show A.n + b - A.n = b by omega]
    exact e
  have hlt : ∀ {x : AV} {u : Value}, Rep σ2 x u → x.lt A1'.n = true := fun {x u} hr => hs3.lt_of x u hr
  have hle3 : σ.Le σ3 := ⟨fun b o h => h, fun b x e => by
    show (if b < A.n then _ else _) = _
    rw [if_pos (hs.nm b x.1 x.2 e).1]; exact e, rfl⟩
  have hsame : ∀ c, c < w.heap.size → w'.heap[c]? = w.heap[c]? := fun c hc => hk.block c hc
  have hmem : ∀ c o, σ.mem c = some o → c < w.heap.size := by
    intro c o e
    have := hs.mem c o e
    rcases Nat.lt_or_ge c w.heap.size with h | h
    · exact h
    · simp [Array.getElem?_eq_none h] at this
  have hn : (addObjs A A1'.l).n = A.n + A1'.n := by simp [addObjs, AHeap.n]
  have hget' : ∀ i, (addObjs A A1'.l) i = if i < A.n then A i else (A1' (i - A.n)).map (renL g) := by
    intro i
    show hget (A.l ++ _) i = _
    rw [hget_append, hget_map]
  refine ⟨r'.ren g, addObjs A A1'.l, v, σ3, he, ⟨r', A1', hr, rfl, rfl⟩, hle3, ⟨?_, ?_, hs.low, ?_, ?_, ?_, ?_⟩, flat_ren hren r' v f1 (hlt hrep) hrep, hb.trans (hk.mono fun c hc => hs.base c hc)⟩
  · exact fun c hc => Nat.lt_of_lt_of_le (hs.base c hc) hk.size
  · intro b o e
    rw [hsame b (hmem b o e)]
    exact hs.mem b o e
  · intro b c n e
    have e : (if b < A.n then σ.nm b else σ2.nm (b - A.n)) = some (c, n) := e
    rw [hn]
    split at e
    · rename_i hlt
      obtain ⟨_, hh⟩ := hs.nm b c n e
      exact ⟨by omega, by rw [hsame c (hs.nmLt e)]; exact hh⟩
    · obtain ⟨h1, h2⟩ := hs3.nm _ c n e
      exact ⟨by omega, h2⟩
  · intro b hb
    rw [hn] at hb
    show ∃ x, (if b < A.n then σ.nm b else σ2.nm (b - A.n)) = some x
    split
    · rename_i hlt; exact hs.tot b hlt
    · exact hs3.tot _ (by omega)
  · intro i cs hi
    rw [hget'] at hi
    split at hi
    · rename_i hlt
      obtain ⟨c, cur, t, k1, k2, k3, k4, k5, k6⟩ := hs.own i cs hi
      refine ⟨c, cur, t, hle3.nm _ _ k1, k2, k3, by rw [hsame c (hs.nmLt k1)]; exact k4, k5, fun j x hx => ?_⟩
      obtain ⟨u, e1, e2, e3⟩ := k6 j x hx
      exact ⟨u, e1, e2.mono hle3, e3⟩
    · obtain ⟨cs', h1, rfl⟩ := Option.map_eq_some_iff.1 hi
      obtain ⟨c, cur, t, k1, k2, k3, k4, k5, k6⟩ := hs3.own _ cs' h1
      have hi' : i = g (i - A.n) := by simp only [g, shiftN]; omega
      refine ⟨c, cur, t, by rw [hi']; exact hren _ _ (AHeap.lt h1) k1, fun hB => k2 (hs.base c hB), ?_, k4, by rw [renL_map]; simpa using k5, fun j x hx => ?_⟩
      · show σ.mem c = none
        cases hm : σ.mem c with
        | none => rfl
        | some o => exact absurd (hmem c o hm) k2
      · rw [renL_map, List.getElem?_map] at hx
        obtain ⟨y, hy, rfl⟩ := Option.map_eq_some_iff.1 hx
        obtain ⟨u, e1, e2, e3⟩ := k6 j y hy
        exact ⟨u, e1, flat_ren hren y u (flatL_get (f2 _ _ h1) hy) (hlt e2) e2, e3⟩
  · intro i i' cs cs' c n n' e1 e2 e3 e4
    have old : ∀ i cs c n, i < A.n → (addObjs A A1'.l) i = some cs → σ3.nm i = some (c, n) → A i = some cs ∧ σ.nm i = some (c, n) := by
      intro i cs c n hi h1 h2
      rw [hget', if_pos hi] at h1
      have h2 : (if i < A.n then σ.nm i else _) = some (c, n) := h2
      rw [if_pos hi] at h2
      exact ⟨h1, h2⟩
    have new : ∀ i cs c n, ¬ i < A.n → (addObjs A A1'.l) i = some cs → σ3.nm i = some (c, n) → ∃ cs0, A1' (i - A.n) = some cs0 ∧ σ2.nm (i - A.n) = some (c, n) ∧ ¬ c < w.heap.size := by
      intro i cs c n hi h1 h2
      rw [hget', if_neg hi] at h1
      have h2 : (if i < A.n then σ.nm i else σ2.nm (i - A.n)) = some (c, n) := h2
      rw [if_neg hi] at h2
      obtain ⟨cs0, h3, _⟩ := Option.map_eq_some_iff.1 h1
      obtain ⟨c', cur, t, k1, k2, _⟩ := hs3.own _ cs0 h3
      rw [h2] at k1
      injection k1 with k1; injection k1 with k1 _
      subst k1
      exact ⟨cs0, h3, h2, k2⟩
    by_cases hi : i < A.n <;> by_cases hi' : i' < A.n
    · obtain ⟨a1, a2⟩ := old i cs c n hi e1 e3
      obtain ⟨b1, b2⟩ := old i' cs' c n' hi' e2 e4
      exact hs.inj _ _ _ _ _ _ _ a1 b1 a2 b2
    · obtain ⟨a1, a2⟩ := old i cs c n hi e1 e3
      obtain ⟨_, b1, b2, b3⟩ := new i' cs' c n' hi' e2 e4
      exact absurd (hs.nmLt a2) b3
    · obtain ⟨a1, a2⟩ := old i' cs' c n' hi' e2 e4
      obtain ⟨_, b1, b2, b3⟩ := new i cs c n hi e1 e3
      exact absurd (hs.nmLt a2) b3
    · obtain ⟨_, a1, a2, _⟩ := new i cs c n hi e1 e3
      obtain ⟨_, b1, b2, _⟩ := new i' cs' c n' hi' e2 e4
      have := hs3.inj _ _ _ _ _ _ _ a1 b1 a2 b2
      omega

/-- A pure function to which objects may be lent. -/
def spR (sp : List AV → Option AV) : List AV → AHeap → Option (AV × AHeap) := fun args A => (seeL A args).bind fun a => (sp a).bind fun r => if r.flat = true then some (r, A) else none
theorem QP.toR {f : FuncId} {sp : List AV → Option AV} (h : QP P f sp) : QE P f (spR sp) := by
  intro args A r A1 e
  obtain ⟨a, h1, e⟩ := Option.bind_eq_some_iff.1 e
  obtain ⟨r0, h2, e⟩ := Option.bind_eq_some_iff.1 e
  split at e
  · rename_i hf
    injection e with e
    injection e with e1 e2
    subst e1; subst e2
    obtain ⟨⟨k1, k2⟩, k3⟩ := h a r0 h2
    refine (k3.borrow h1 ?_).mono ?_
    · rintro r A' ⟨rfl, rfl⟩
      exact ⟨hf, fun b cs e => by cases e⟩
    · rintro r1 A1 ⟨r', A1', ⟨rfl, rfl⟩, rfl, rfl⟩
      exact ⟨ren_low _ _ k2, AHeap.ext' (by simp [addObjs, AHeap.nil])⟩
  · cases e
/-- A function that makes objects, to which objects may be lent. -/
def flatO : List (Option (List AV)) → Bool
  | [] => true
  | none :: r => flatO r
  | some cs :: r => flatL cs && flatO r
theorem flatO_get : ∀ {l : List (Option (List AV))} {b : Nat} {cs : List AV}, flatO l = true → hget l b = some cs → flatL cs = true
  | [], b, cs, _, h => by cases h
  | o :: r, b, cs, hf, h => by
    simp only [hget] at h
    split at h
    · subst h
      simp only [flatO, Bool.and_eq_true] at hf
      exact hf.1
    · cases o with
      | none => exact flatO_get (l := r) hf h
      | some c =>
        simp only [flatO, Bool.and_eq_true] at hf
        exact flatO_get hf.2 h
def spRN (sp : List AV → Option (AV × List (Option (List AV)))) : List AV → AHeap → Option (AV × AHeap) := fun args A => (seeL A args).bind fun a => (sp a).bind fun p => if p.1.flat = true ∧ flatO p.2 = true then some (p.1.ren (shiftN A.n), addObjs A p.2) else none
theorem QN.toR {f : FuncId} {sp : List AV → Option (AV × List (Option (List AV)))} (h : QN P f sp) : QE P f (spRN sp) := by
  intro args A r A1 e
  obtain ⟨a, h1, e⟩ := Option.bind_eq_some_iff.1 e
  obtain ⟨⟨r0, os⟩, h2, e⟩ := Option.bind_eq_some_iff.1 e
  split at e
  · rename_i hf
    injection e with e
    injection e with e1 e2
    subst e1; subst e2
    obtain ⟨k1, k3⟩ := h a r0 os h2
    refine (k3.borrow h1 ?_).mono ?_
    · rintro r A' ⟨rfl, rfl⟩
      exact ⟨hf.1, fun b cs e => flatO_get hf.2 e⟩
    · rintro r1 A1 ⟨r', A1', ⟨rfl, rfl⟩, rfl, rfl⟩
      exact ⟨rfl, rfl⟩
  · cases e

end Go.Proofs.YtllahdjejcideaaAi
