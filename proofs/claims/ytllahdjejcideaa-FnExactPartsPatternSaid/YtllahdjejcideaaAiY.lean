/- Contracts, tables of contracts; owned objects that will not change again become values; loops. -/
import Derived.Test.YtllahdjejcideaaAiX2
namespace Go.Proofs.YtllahdjejcideaaAi
open Go Go.RowKit
set_option linter.unusedVariables false
set_option linter.unusedSimpArgs false

variable {P : Program} {S : Spec} {N : Nat} {σ : Sg} {w : World}

/-! ### contracts -/
/-- A function of which the result is known, and that touches nothing. -/
def QP (P : Program) (f : FuncId) (sp : List AV → Option AV) : Prop := ∀ args r, sp args = some r → (ltL 0 args = true ∧ r.lt 0 = true) ∧ T P f args .nil fun r' A' => r' = r ∧ A' = .nil
/-- A function of which the result and the heap behind it are known. -/
def QE (P : Program) (f : FuncId) (sp : List AV → AHeap → Option (AV × AHeap)) : Prop := ∀ args A r A1, sp args A = some (r, A1) → T P f args A fun r' A' => r' = r ∧ A' = A1

theorem View.nil (f : Nat → Nat) (A : AHeap) : View f A .nil := ⟨fun b h => (by simp [AHeap.nil, AHeap.n] at h), fun b cs h => (by cases h), fun b b' cs cs' h => (by cases h)⟩

theorem QP.at {f : FuncId} {sp : List AV → Option AV} (h : QP P f sp) {args : List AV} {r : AV} (e : sp args = some r) (A : AHeap) : T P f args A fun r' A' => r' = r ∧ A' = A := by
  obtain ⟨⟨h1, h2⟩, h3⟩ := h args r e
  have := h3.embed (A := A) (View.nil (fun b => b) A) h1
  rw [renL_low _ _ h1] at this
  refine this.mono ?_
  rintro r1 A1 ⟨r', A1', ⟨rfl, rfl⟩, rfl, rfl⟩
  exact ⟨ren_low _ _ h2, AHeap.ext' (by simp [AHeap.nil, upd])⟩

/-- New objects come behind. -/
def shiftN (n : Nat) : Nat → Nat := fun b => n + b
def addObjs (A : AHeap) (os : List (Option (List AV))) : AHeap := ⟨A.l ++ os.map (Option.map (renL (shiftN A.n)))⟩

/-- A function that makes objects and touches none. -/
def QN (P : Program) (f : FuncId) (sp : List AV → Option (AV × List (Option (List AV)))) : Prop := ∀ args r os, sp args = some (r, os) → ltL 0 args = true ∧ T P f args .nil fun r' A' => r' = r ∧ A' = ⟨os⟩
def spN (sp : List AV → Option (AV × List (Option (List AV)))) : List AV → AHeap → Option (AV × AHeap) := fun args A => (sp args).map fun p => (p.1.ren (shiftN A.n), addObjs A p.2)
theorem T.new {f : FuncId} {args : List AV} {R : AV → AHeap → Prop} (h : T P f args .nil R) (h1 : ltL 0 args = true) (A : AHeap) : T P f args A fun r A1 => ∃ r' A1', R r' A1' ∧ r = r'.ren (shiftN A.n) ∧ A1 = addObjs A A1'.l := by
  have := h.embed (A := A) (View.nil (fun b => b) A) h1
  rw [renL_low _ _ h1] at this
  have he : extN AHeap.nil.n A.n (fun b => b) = shiftN A.n := by
    funext b; simp [extN, AHeap.nil, AHeap.n, shiftN]
  rw [he] at this
  refine this.mono ?_
  rintro r1 A1 ⟨r', A1', hR, rfl, rfl⟩
  exact ⟨r', A1', hR, rfl, rfl⟩
theorem QN.toE {f : FuncId} {sp : List AV → Option (AV × List (Option (List AV)))} (h : QN P f sp) : QE P f (spN sp) := by
  intro args A r A1 e
  obtain ⟨⟨r0, os⟩, e0, e1⟩ := Option.map_eq_some_iff.1 e
  injection e1 with e1 e2
  subst e1; subst e2
  obtain ⟨h1, h2⟩ := h args r0 os e0
  refine (h2.new h1 A).mono ?_
  rintro r1 A1 ⟨r', A1', ⟨rfl, rfl⟩, rfl, rfl⟩
  exact ⟨rfl, rfl⟩

/-- A method by a pointer to one object without names. -/
def QM (P : Program) (f : FuncId) (sp : List AV → List AV → Option (AV × List AV)) : Prop := ∀ cs args r cs', sp cs args = some (r, cs') → (ltL 0 args = true ∧ ltL 0 cs = true ∧ r.lt 0 = true ∧ ltL 0 cs' = true) ∧ T P f (.ptr 0 0 :: args) ⟨[some cs]⟩ fun r' A' => r' = r ∧ A' = ⟨[some cs']⟩
def spM (sp : List AV → List AV → Option (AV × List AV)) : List AV → AHeap → Option (AV × AHeap)
  | .ptr b 0 :: args, A => (A b).bind fun cs => (sp (looseL cs) args).map fun p => (p.1, A.set b p.2)
  | _, _ => none
theorem looseL_map : ∀ cs : List AV, looseL cs = cs.map AV.loose
  | [] => rfl
  | x :: r => by rw [looseL, looseL_map r]; rfl
theorem Sim.loose {B : Nat → Prop} {l : List (Option (List AV))} (h : Sim B σ ⟨l⟩ w) : Sim B σ ⟨l.map (Option.map looseL)⟩ w := by
  have hn : (AHeap.mk (l.map (Option.map looseL))).n = (AHeap.mk l).n := by simp [AHeap.n]
  have hg : ∀ b cs, hget (l.map (Option.map looseL)) b = some cs → ∃ cs0, hget l b = some cs0 ∧ cs = looseL cs0 := by
    intro b cs hb
    rw [hget_map] at hb
    obtain ⟨cs0, h1, rfl⟩ := Option.map_eq_some_iff.1 hb
    exact ⟨cs0, h1, rfl⟩
  refine ⟨h.base, h.mem, h.low, fun b c n e => by rw [hn]; exact h.nm b c n e, fun b e => h.tot b (by rw [← hn]; exact e), fun b cs hb => ?_, fun b b' cs cs' c n n' e1 e2 => ?_⟩
  · obtain ⟨cs0, h1, rfl⟩ := hg b cs hb
    obtain ⟨c, cur, t, k1, k2, k3, k4, k5, k6⟩ := h.own b cs0 h1
    refine ⟨c, cur, t, k1, k2, k3, k4, by rw [looseL_len]; exact k5, fun j x hx => ?_⟩
    rw [looseL_map, List.getElem?_map] at hx
    obtain ⟨y, hy, rfl⟩ := Option.map_eq_some_iff.1 hx
    obtain ⟨v, e1, e2, e3⟩ := k6 j y hy
    exact ⟨v, e1, rep_loose _ _ e2, e3⟩
  · obtain ⟨_, h1, _⟩ := hg _ _ e1
    obtain ⟨_, h2, _⟩ := hg _ _ e2
    exact h.inj b b' _ _ c n n' h1 h2
theorem T.looseA {f : FuncId} {args : List AV} {l : List (Option (List AV))} {R : AV → AHeap → Prop} (h : T P f args ⟨l.map (Option.map looseL)⟩ R) : T P f args ⟨l⟩ R :=
  ⟨h.1, fun B w0 σ w vs hb hs ha => h.2 B w0 σ w vs hb hs.loose ha⟩
mutual
theorem loose_lt (n : Nat) : ∀ x : AV, x.loose.lt n = x.lt n
  | .fn _ cs => by simp only [AV.loose, AV.lt, looseL_lt n cs]
  | .agg cs => by simp only [AV.loose, AV.lt, looseL_lt n cs]
  | .tup cs => by simp only [AV.loose, AV.lt, looseL_lt n cs]
  | .sl _ _ | .ep _ _ _ | .bool _ | .int _ _ | .str _ | .ptr _ _ | .ref _ _ _ _ _ | .nilp | .nilf | .nili | .iface | .any => rfl
theorem looseL_lt (n : Nat) : ∀ cs : List AV, ltL n (looseL cs) = ltL n cs
  | [] => rfl
  | x :: r => by simp only [looseL, ltL, loose_lt n x, looseL_lt n r]
end
theorem QM.toE {f : FuncId} {sp : List AV → List AV → Option (AV × List AV)} (h : QM P f sp) : QE P f (spM sp) := by
  intro args A r A1 e
  unfold spM at e
  split at e
  · rename_i b args
    obtain ⟨cs, hb, e⟩ := Option.bind_eq_some_iff.1 e
    obtain ⟨⟨r0, cs'⟩, e0, e1⟩ := Option.map_eq_some_iff.1 e
    injection e1 with e1 e2
    subst e1; subst e2
    obtain ⟨⟨h1, h2, h3, h4⟩, hT⟩ := h (looseL cs) args r0 cs' e0
    rw [looseL_lt] at h2
    replace hT := T.looseA (l := [some cs]) hT
    have hlt : b < A.n := AHeap.lt hb
    have hv : View (fun _ => b) A ⟨[some cs]⟩ := by
      refine ⟨fun i _ => hlt, fun i c hi => ?_, fun i i' c c' h1 h2 _ => ?_⟩
      · have : i = 0 := by have := AHeap.lt (A := ⟨[some cs]⟩) hi; simp [AHeap.n] at this; exact this
        subst this
        simp [hget] at hi
        subst hi
        exact ⟨ltL_mono (Nat.zero_le _) _ h2, by rw [renL_low _ _ h2]; exact hb⟩
      · have e1 := AHeap.lt (A := ⟨[some cs]⟩) h1
        have e2 := AHeap.lt (A := ⟨[some cs]⟩) h2
        simp [AHeap.n] at e1 e2
        omega
    have := hT.embed hv (by simp only [ltL, AV.lt, AHeap.n]; simpa using ltL_mono (Nat.zero_le 1) _ h1)
    simp only [renL, AV.ren, renL_low _ _ h1] at this
    refine this.mono ?_
    rintro r1 A1 ⟨r', A1', ⟨rfl, rfl⟩, rfl, rfl⟩
    exact ⟨ren_low _ _ h3, AHeap.ext' (by simp [upd, renL_low _ _ h4, AHeap.set])⟩
  · cases e

def tabQ : List (FuncId × (List AV → Option AV)) → FuncId → List AV → Option AV
  | [], _, _ => none
  | (g, sp) :: l, f, args => if f = g then sp args else tabQ l f args
def tabE : List (FuncId × (List AV → AHeap → Option (AV × AHeap))) → FuncId → List AV → AHeap → Option (AV × AHeap)
  | [], _, _, _ => none
  | (g, sp) :: l, f, args, A => if f = g then sp args A else tabE l f args A
def tab (l : List (FuncId × (List AV → Option AV))) (l2 : List (FuncId × (List AV → AHeap → Option (AV × AHeap)))) : Spec := ⟨tabQ l, tabE l2⟩
theorem Quiet.nil : Quiet P (tab [] []) := ⟨fun f args r h => (by cases h), fun f args A r A1 h => (by cases h)⟩
theorem Quiet.q1 {g : FuncId} {sp : List AV → Option AV} {l : List (FuncId × (List AV → Option AV))} {l2 : List (FuncId × (List AV → AHeap → Option (AV × AHeap)))} (h : QP P g sp) (k : Quiet P (tab l l2)) : Quiet P (tab ((g, sp) :: l) l2) := ⟨fun f args r e A => by
  simp only [tab, tabQ] at e
  split at e
  · rename_i hf; subst hf; exact h.at e A
  · exact k.q f args r e A, k.e⟩
theorem Quiet.e1 {g : FuncId} {sp : List AV → AHeap → Option (AV × AHeap)} {l : List (FuncId × (List AV → Option AV))} {l2 : List (FuncId × (List AV → AHeap → Option (AV × AHeap)))} (h : QE P g sp) (k : Quiet P (tab l l2)) : Quiet P (tab l ((g, sp) :: l2)) := ⟨k.q, fun f args A r A1 e => by
  simp only [tab, tabE] at e
  split at e
  · rename_i hf; subst hf; exact h args A r A1 e
  · exact k.e f args A r A1 e⟩

/-- The end of a function with one known result that touches nothing. -/
def endP (rs : List ARes) (r : AV) : Ex → St → Prop
  | .normal, s | .ret, s => optW (resultsA s rs) fun v => v = r
  | _, _ => False

theorem P_code (hS : Quiet P S) (hm : P.follows .mixedOrders = true) {f : FuncId} {nargs : Nat} {q : FuncId → Nat} {hints : List Hint} {c : AC} {rs : List ARes} (h : acLin P f nargs q hints = some (c, rs))
    {args : List AV} (ha : args.length = nargs) {r : AV} (hr : r.lt 0 = true) (vc : wpc 0 P S c (initSt args .nil) (endP rs r)) : T P f args .nil fun r' A' => r' = r ∧ A' = .nil := by
  refine T_code hS hm h ha (wpc_mono c (fun e s k => ?_) _ vc)
  cases e with
  | exit id => exact k
  | _ =>
    simp only [endP, optW_iff] at k
    obtain ⟨v, h0, rfl⟩ := k
    simp only [endW, optW_iff]
    exact ⟨v, h0, v, .nil, EndS.pure hr, rfl, rfl⟩

/-- A contract by a family of arguments and results. -/
noncomputable def pf {ι α : Type} (p : ι → Prop) (args : ι → List AV) (res : ι → α) : List AV → Option α := by
  classical exact fun a => if h : ∃ i, p i ∧ args i = a then some (res (Classical.choose h)) else none
theorem pf_eq {ι α : Type} {p : ι → Prop} {args : ι → List AV} {res : ι → α} (i : ι) (hp : p i) (hd : ∀ j, p j → args j = args i → res j = res i) : pf p args res (args i) = some (res i) := by
  have h : ∃ j, p j ∧ args j = args i := ⟨i, hp, rfl⟩
  unfold pf
  rw [dif_pos h]
  have := Classical.choose_spec h
  rw [hd _ this.1 this.2]
theorem pf_some {ι α : Type} {p : ι → Prop} {args : ι → List AV} {res : ι → α} {a : List AV} {r : α} (h : pf p args res a = some r) : ∃ i, p i ∧ args i = a ∧ res i = r := by
  unfold pf at h
  split at h
  · rename_i hh
    exact ⟨_, (Classical.choose_spec hh).1, (Classical.choose_spec hh).2, Option.some.inj h⟩
  · cases h
theorem QP_pf {ι : Type} {f : FuncId} {p : ι → Prop} {args : ι → List AV} {res : ι → AV} (hl : ∀ i, p i → ltL 0 (args i) = true ∧ (res i).lt 0 = true) (h : ∀ i, p i → T P f (args i) .nil fun r' A' => r' = res i ∧ A' = .nil) : QP P f (pf p args res) := by
  intro a r e
  obtain ⟨i, hp, rfl, rfl⟩ := pf_some e
  exact ⟨hl i hp, h i hp⟩
theorem QN_pf {ι : Type} {f : FuncId} {p : ι → Prop} {args : ι → List AV} {res : ι → AV × List (Option (List AV))} (hl : ∀ i, p i → ltL 0 (args i) = true) (h : ∀ i, p i → T P f (args i) .nil fun r' A' => r' = (res i).1 ∧ A' = ⟨(res i).2⟩) : QN P f (pf p args res) := by
  intro a r os e
  obtain ⟨i, hp, rfl, e2⟩ := pf_some e
  refine ⟨hl i hp, ?_⟩
  have := h i hp
  rw [e2] at this
  exact this

/-! ### objects that will not change again -/
/-- A slice of an object, by value. -/
def FzOne (b : Nat) (cs : List AV) (v v' : AV) : Prop := v' = v ∨ v' = v.loose ∨ ∃ e o n t xs t', v = .ref b e o n t ∧ v' = .sl xs t' ∧ (t' = true → t = .tight) ∧ (o + n) * e ≤ cs.length ∧ xs.length = n ∧
  (∀ x ∈ xs, x.cells.length = e ∧ ltL 0 x.cells = true) ∧ (xs.flatMap AV.cells = (cs.drop (o * e)).take (n * e) ∨ xs.flatMap AV.cells = looseL ((cs.drop (o * e)).take (n * e)))
def FzL (b : Nat) (cs : List AV) (l l' : List AV) : Prop := l.length = l'.length ∧ ∀ (i : Nat) x x', l[i]? = some x → l'[i]? = some x' → FzOne b cs x x'
def Fz (b : Nat) (cs : List AV) (v v' : AV) : Prop := FzOne b cs v v' ∨ (∃ l l', v = .agg l ∧ v' = .agg l' ∧ FzL b cs l l') ∨ ∃ l l', v = .tup l ∧ v' = .tup l' ∧ l.length = l'.length ∧ ∀ (i : Nat) x x', l[i]? = some x → l'[i]? = some x' → FzOne b cs x x' ∨ ∃ l l', x = .agg l ∧ x' = .agg l' ∧ FzL b cs l l'

theorem Fz.refl (b : Nat) (cs : List AV) (v : AV) : Fz b cs v v := .inl (.inl rfl)

theorem flatMap_cell (e : Nat) (xs : List AV) (h : ∀ x ∈ xs, x.cells.length = e) (i j : Nat) {x c : AV} (hx : xs[i]? = some x) (hc : x.cells[j]? = some c) : (xs.flatMap AV.cells)[i * e + j]? = some c := by
  have hj : j < e := by rw [← h x (List.mem_of_getElem? hx)]; exact (List.getElem?_eq_some_iff.1 hc).1
  have he : 0 < e := by omega
  rw [flatMap_get e xs _ h he]
  have h1 : (i * e + j) / e = i := by
    rw [Nat.mul_comm, Nat.mul_add_div he, Nat.div_eq_of_lt hj, Nat.add_zero]
  have h2 : (i * e + j) % e = j := by
    rw [Nat.mul_comm, Nat.mul_add_mod, Nat.mod_eq_of_lt hj]
  rw [h1, h2, hx]
  exact hc

/-- A slice of an object by value, where the object's block is known to stay. -/
theorem sl_rep {σ' : Sg} {e o n : Nat} {xs : List AV} {t' : Bool} {c0 cap : Nat} {cur : Array Value} {te : TypeId} {fr : Nat × Nat} (hn : xs.length = n) (hcap : n ≤ cap) (hmx : cap ≤ maxLen) (ht : t' = true → cap = n)
    (hx : ∀ x ∈ xs, x.cells.length = e ∧ ltL 0 x.cells = true) (hm : σ'.mem c0 = some (.cells cur te fr))
    (hc : ∀ (k : Nat) c, (xs.flatMap AV.cells)[k]? = some c → ∃ v, cur[o * e + k]? = some v ∧ Rep σ' c v ∧ v.oneCell' = true) :
    Rep σ' (.sl xs t') (.slice (some ⟨c0, o * e, none⟩) n cap) := by
  have key : ∀ (i j : Nat) (x c : AV), xs[i]? = some x → x.cells[j]? = some c → ∃ u, σ'.cell c0 (o * e + i * e + j) = some u ∧ Rep σ' c u ∧ u.oneCell' = true := by
    intro i j x c hxi hcj
    have h1 := flatMap_cell e xs (fun x h => (hx x h).1) i j hxi hcj
    obtain ⟨u, k1, k2, k3⟩ := hc _ _ h1
    refine ⟨u, ?_, k2, k3⟩
    unfold Sg.cell
    rw [hm]
    simp only
    rw [Nat.add_assoc]
    exact k1
  classical
  let val : Nat → Nat → Value := fun i j => match σ'.cell c0 (o * e + i * e + j) with | some u => if u.oneCell' = true then u else .bool false | none => .bool false
  have hval : ∀ (i j : Nat) (x c : AV), xs[i]? = some x → x.cells[j]? = some c → σ'.cell c0 (o * e + i * e + j) = some (val i j) ∧ Rep σ' c (val i j) := by
    intro i j x c hxi hcj
    obtain ⟨u, k1, k2, k3⟩ := key i j x c hxi hcj
    have : val i j = u := by simp only [val, k1, if_pos k3]
    rw [this]
    exact ⟨k1, k2⟩
  rw [← hn]
  refine .sl xs t' c0 (o * e) e cap val (by omega) hmx (fun h => by rw [hn]; exact ht h) (fun i x hxi => (hx x (List.mem_of_getElem? hxi)).1) ?_ ?_ ?_ (fun i x hxi => (hx x (List.mem_of_getElem? hxi)).2)
  · exact fun i x hxi j c hcj => (hval i j x c hxi hcj).1
  · exact fun i x hxi j c hcj => (hval i j x c hxi hcj).2
  · intro i j
    simp only [val]
    split
    · split
      · assumption
      · rfl
    · rfl

theorem FzOne.rep {B : Nat → Prop} {A : AHeap} (h : Sim B σ A w) {b : Nat} {cs : List AV} (hb : A b = some cs) {σ' : Sg} (hle : σ.Le σ') (hm : ∀ c n, σ.nm b = some (c, n) → σ'.mem c = w.heap[c]?) {v v' : AV} {u : Value} (hf : FzOne b cs v v') (hr : Rep σ v u) : Rep σ' v' u := by
  rcases hf with rfl | rfl | ⟨e, o, n, t, xs, t', rfl, rfl, ht, hfit, hl, hx, hfl⟩
  · exact hr.mono hle
  · exact rep_loose _ _ (hr.mono hle)
  · obtain ⟨ad, cap, c0, sz, rfl, h3, h4, h5, h6, h7, h8, h9⟩ := hr.refInv
    by_cases h0 : n = 0
    · subst h0
      have : xs = [] := List.length_eq_zero_iff.1 hl
      subst this
      exact .slnil _ _ _ (fun h => h5 (ht h)) h4 (fun h => by cases h)
    · have had := h6 (by omega)
      subst had
      obtain ⟨c1, cur, te, k1, _, _, hh, hcl, hcell⟩ := h.own b cs hb
      rw [h7] at k1
      injection k1 with k1; injection k1 with k1 _
      subst k1
      refine sl_rep hl h3 h4 (fun h => h5 (ht h)) hx (by rw [hm _ _ h7]; exact hh) fun k c hk => ?_
      have key : ∀ c, ((cs.drop (o * e)).take (n * e))[k]? = some c → ∃ v, cur[o * e + k]? = some v ∧ Rep σ' c v ∧ v.oneCell' = true := by
        intro c hk
        rw [List.getElem?_take] at hk
        split at hk
        · rw [List.getElem?_drop] at hk
          obtain ⟨u, e1, e2, e3⟩ := hcell _ _ hk
          exact ⟨u, e1, e2.mono hle, e3⟩
        · cases hk
      rcases hfl with hfl | hfl
      · rw [hfl] at hk; exact key c hk
      · rw [hfl, looseL_map, List.getElem?_map] at hk
        obtain ⟨y, hy, rfl⟩ := Option.map_eq_some_iff.1 hk
        obtain ⟨u, e1, e2, e3⟩ := key y hy
        exact ⟨u, e1, rep_loose _ _ e2, e3⟩

theorem FzL.rep {B : Nat → Prop} {A : AHeap} (h : Sim B σ A w) {b : Nat} {cs : List AV} (hb : A b = some cs) {σ' : Sg} (hle : σ.Le σ') (hm : ∀ c n, σ.nm b = some (c, n) → σ'.mem c = w.heap[c]?) {l l' : List AV} {u : Value} (hf : FzL b cs l l') (hr : Rep σ (.agg l) u) : Rep σ' (.agg l') u := by
  cases hr with
  | agg cs vs hl h1 hr =>
    refine .agg _ _ (by rw [← hf.1, hl]) h1 fun i c v hc hv => ?_
    have hlt : i < l.length := by rw [hf.1]; exact (List.getElem?_eq_some_iff.1 hc).1
    exact FzOne.rep h hb hle hm (hf.2 i _ c (List.getElem?_eq_getElem hlt) hc) (hr i _ v (List.getElem?_eq_getElem hlt) hv)

theorem Fz.rep {B : Nat → Prop} {A : AHeap} (h : Sim B σ A w) {b : Nat} {cs : List AV} (hb : A b = some cs) {σ' : Sg} (hle : σ.Le σ') (hm : ∀ c n, σ.nm b = some (c, n) → σ'.mem c = w.heap[c]?) {v v' : AV} {u : Value} (hf : Fz b cs v v') (hr : Rep σ v u) : Rep σ' v' u := by
  rcases hf with hf | ⟨l, l', rfl, rfl, hf⟩ | ⟨l, l', rfl, rfl, hl', hf⟩
  · exact FzOne.rep h hb hle hm hf hr
  · exact FzL.rep h hb hle hm hf hr
  · cases hr with
    | tup cs vs hl hr =>
      refine .tup _ _ (by rw [← hl', hl]) fun i c v hc hv => ?_
      have hlt : i < l.length := by rw [hl']; exact (List.getElem?_eq_some_iff.1 hc).1
      have hr' := hr i _ v (List.getElem?_eq_getElem hlt) hv
      rcases hf i _ c (List.getElem?_eq_getElem hlt) hc with hf | ⟨k, k', e1, rfl, hf⟩
      · exact FzOne.rep h hb hle hm hf hr'
      · rw [e1] at hr'
        exact FzL.rep h hb hle hm hf hr'

def Sg.freeze (σ : Sg) (c : Nat) (o : Option Obj) : Sg := { σ with mem := fun i => if i = c then o else σ.mem i }

/-- An object that will not change again. -/
theorem Shift.freeze {s s' : St} {b : Nat} {cs : List AV} (hb : s.A b = some cs) (ht : ∀ i, s'.t i = .any ∨ Fz b cs (s.t i) (s'.t i)) (hn : s'.A.n = s.A.n) (hA : ∀ i l', s'.A i = some l' → i ≠ b ∧ ∃ l, s.A i = some l ∧ FzL b cs l l') : Shift N s s' := by
  intro B w0 n σ a w hs
  obtain ⟨c0, cur, te, hnm, hB, hmem, hh, hcl, hcell⟩ := hs.sim.own b cs hb
  have hle : σ.Le (σ.freeze c0 w.heap[c0]?) := ⟨fun i o h => by
    have hne : i ≠ c0 := fun e => by subst e; rw [hmem] at h; cases h
    simpa [Sg.freeze, hne] using h, fun i m h => h, rfl⟩
  have hm : ∀ c n, σ.nm b = some (c, n) → (σ.freeze c0 w.heap[c0]?).mem c = w.heap[c]? := fun c n e => by
    rw [hnm] at e
    injection e with e; injection e with e _
    subst e
    simp [Sg.freeze]
  refine ⟨σ.freeze c0 w.heap[c0]?, hle.toN N, ⟨hs.sim.base, fun i o h => ?_, fun i o h => ?_, fun i c m h => by rw [hn]; exact hs.sim.nm i c m h, fun i h => hs.sim.tot i (by rw [← hn]; exact h), fun i l' h => ?_, fun i i' l l' c m m' e1 e2 e3 e4 => ?_⟩, fun t => ?_, hs.size, hs.defers, hs.below⟩
  · by_cases hi : i = c0
    · subst hi; simpa [Sg.freeze] using h
    · exact hs.sim.mem i o (by simpa [Sg.freeze, hi] using h)
  · by_cases hi : i = c0
    · subst hi; exact .inr hB
    · exact hs.sim.low i o (by simpa [Sg.freeze, hi] using h)
  · obtain ⟨hne, l, hl, hf⟩ := hA i l' h
    obtain ⟨c, cur', te', k1, k2, k3, k4, k5, k6⟩ := hs.sim.own i l hl
    have hcc : c ≠ c0 := fun e => by subst e; exact hne (hs.sim.inj _ _ _ _ _ _ _ hl hb k1 hnm)
    refine ⟨c, cur', te', k1, k2, by simpa [Sg.freeze, hcc] using k3, k4, by rw [← hf.1]; exact k5, fun j c hj => ?_⟩
    have hlt : j < l.length := by rw [hf.1]; exact (List.getElem?_eq_some_iff.1 hj).1
    obtain ⟨v, e1, e2, e3⟩ := k6 j _ (List.getElem?_eq_getElem hlt)
    exact ⟨v, e1, FzOne.rep hs.sim hb hle hm (hf.2 j _ c (List.getElem?_eq_getElem hlt) hj) e2, e3⟩
  · obtain ⟨_, l0, h1, _⟩ := hA _ _ e1
    obtain ⟨_, l1, h2, _⟩ := hA _ _ e2
    exact hs.sim.inj _ _ _ _ c m m' h1 h2 e3 e4
  · rcases ht t with h | h
    · rw [h]; exact .any _
    · exact Fz.rep hs.sim hb hle hm h (hs.tmps t)

theorem Shift.refl (s : St) : Shift N s s := fun B w0 n σ a w hs => ⟨σ, .refl N σ, hs⟩
theorem Shift.trans {a b c : St} (h : Shift N a b) (k : Shift N b c) : Shift N a c := fun B w0 n σ x w hs => by
  obtain ⟨σ1, l1, s1⟩ := h B w0 n σ x w hs
  obtain ⟨σ2, l2, s2⟩ := k B w0 n σ1 x w s1
  exact ⟨σ2, l1.trans l2, s2⟩

/-- The slice in a temporary, by value. -/
def St.frzT (s : St) (k b : Nat) (v : AV) : St := { t := fun i => if i = k then v else s.t i, A := s.A.del b }
theorem Shift.tmp {s : St} {k b e o n : Nat} {t : Cp} {cs xs : List AV} {t' : Bool} (hk : s.t k = .ref b e o n t) (hb : s.A b = some cs) (ht : t' = true → t = .tight) (hfit : (o + n) * e ≤ cs.length) (hl : xs.length = n)
    (hx : ∀ x ∈ xs, x.cells.length = e ∧ ltL 0 x.cells = true) (hfl : xs.flatMap AV.cells = (cs.drop (o * e)).take (n * e) ∨ xs.flatMap AV.cells = looseL ((cs.drop (o * e)).take (n * e))) : Shift N s (s.frzT k b (.sl xs t')) := by
  refine Shift.freeze hb (fun i => .inr ?_) (AHeap.del_n _ _) (fun i l' h => ?_)
  · simp only [St.frzT]
    by_cases hi : i = k
    · subst hi
      rw [if_pos rfl, hk]
      exact .inl (.inr (.inr ⟨e, o, n, t, xs, t', rfl, rfl, ht, hfit, hl, hx, hfl⟩))
    · rw [if_neg hi]
      exact Fz.refl _ _ _
  · simp only [St.frzT] at h
    rw [AHeap.del_at] at h
    split at h
    · cases h
    · rename_i hne
      exact ⟨hne, l', h, rfl, fun j x x' h1 h2 => .inl (by rw [h1] at h2; exact (Option.some.inj h2).symm)⟩

theorem ones_flat : ∀ (cs : List AV), (∀ x ∈ cs, x.one = true) → cs.flatMap AV.cells = cs
  | [], _ => rfl
  | x :: cs, h => by
    rw [List.flatMap_cons, ones_flat cs fun y hy => h y (List.mem_cons_of_mem _ hy)]
    have hx := h x (List.mem_cons_self ..)
    cases x <;> first | rfl | (simp [AV.one] at hx)

/-- A whole object of one-cell elements. -/
theorem Shift.tmp1 {s : St} {k b n : Nat} {t : Cp} {cs : List AV} (hk : s.t k = .ref b 1 0 n t) (hb : s.A b = some cs) (hn : cs.length = n) (h1 : (cs.all fun x => x.one && x.lt 0) = true) : Shift N s (s.frzT k b (.sl cs (decide (t = .tight)))) := by
  have h1' : ∀ x ∈ cs, x.one = true ∧ x.lt 0 = true := fun x hx => by simpa using List.all_eq_true.1 h1 x hx
  refine Shift.tmp hk hb (fun h => of_decide_eq_true h) (by omega) hn (fun x hx => ?_) ?_
  · have := h1' x hx
    cases x <;> first | exact ⟨rfl, by simpa [AV.cells, ltL] using this.2⟩ | (simp [AV.one] at this)
  · refine .inl ?_
    rw [ones_flat cs fun x hx => (h1' x hx).1]
    simp [← hn]

/-- A slice of an owned object that is written element by element. -/
structure Filled (e : Nat) (cs xs : List AV) (i : Nat) : Prop where
  len : cs.length = xs.length * e
  get : ∀ j, j < i → ∀ c, c < e → cs[j * e + c]? = (xs[j]?).bind fun x => x.cells[c]?

theorem Filled.zero {e : Nat} {cs xs : List AV} (h : cs.length = xs.length * e) : Filled e cs xs 0 := ⟨h, fun j hj => by omega⟩

theorem Filled.step {e : Nat} {cs xs : List AV} {i : Nat} (h : Filled e cs xs i) {x : AV} (hx : xs[i]? = some x) (hc : x.cells.length = e) : Filled e (setCells cs (i * e) x.cells) xs (i + 1) := by
  have hi : i < xs.length := (List.getElem?_eq_some_iff.1 hx).1
  have hfit : i * e + x.cells.length ≤ cs.length := by
    rw [h.len, hc]
    have : (i + 1) * e ≤ xs.length * e := Nat.mul_le_mul_right _ hi
    rw [Nat.add_mul] at this
    omega
  refine ⟨by rw [setCells_length, h.len], fun j hj c hce => ?_⟩
  rw [setCells_get _ _ _ _ hfit]
  by_cases hji : j = i
  · subst hji
    rw [if_pos (by omega), hx]
    simp
  · have hlt : j < i := by omega
    have hle : (j + 1) * e ≤ i * e := Nat.mul_le_mul_right _ hlt
    rw [Nat.add_mul] at hle
    rw [if_neg (by omega)]
    exact h.get j hlt c hce

theorem Filled.all {e : Nat} {cs xs : List AV} (h : Filled e cs xs xs.length) (hx : ∀ x ∈ xs, x.cells.length = e) (he : 0 < e) : xs.flatMap AV.cells = cs := by
  apply List.ext_getElem?
  intro k
  rw [flatMap_get e xs k hx he]
  rcases Nat.lt_or_ge k cs.length with hk | hk
  · have h1 : k / e < xs.length := (Nat.div_lt_iff_lt_mul he).2 (by rw [← h.len]; exact hk)
    have h2 := h.get (k / e) h1 (k % e) (Nat.mod_lt _ he)
    rw [Nat.mul_comm, Nat.div_add_mod] at h2
    exact h2.symm
  · have h1 : xs.length ≤ k / e := (Nat.le_div_iff_mul_le he).2 (by rw [← h.len]; exact hk)
    rw [List.getElem?_eq_none h1, List.getElem?_eq_none hk]
    rfl

theorem setCells_lt {n : Nat} : ∀ (cs : List AV) (off : Nat) (vs : List AV), ltL n cs = true → ltL n vs = true → ltL n (setCells cs off vs) = true
  | cs, off, [], h, _ => h
  | cs, off, v :: vs, h, hv => by
    simp only [ltL, Bool.and_eq_true] at hv
    rw [setCells]
    refine setCells_lt _ _ vs (ltL_of fun x hx => ?_) hv.2
    rcases List.mem_or_eq_of_mem_set hx with h1 | h1
    · obtain ⟨i, hi⟩ := List.getElem?_of_mem h1
      exact ltL_get h i x hi
    · rw [h1]; exact hv.1
theorem newCells_lt {n : Nat} (e m : Nat) {z : List AV} (h : ltL n z = true) : ltL n (newCells e m z) = true := by
  refine ltL_of fun x hx => ?_
  obtain ⟨l, hl, hx⟩ := List.mem_flatten.1 hx
  rw [List.eq_of_mem_replicate hl] at hx
  obtain ⟨i, hi⟩ := List.getElem?_of_mem hx
  exact ltL_get h i x hi

/-! ### loops -/
/-- A part of what is known, under other names. -/
structure Sub (N : Nat) (s s' : St) : Prop where
  ex : ∃ f : Nat → Nat, N ≤ s'.A.n ∧ (∀ b, b < N → f b = b) ∧ View f s.A s'.A ∧ ∀ k, s'.t k = .any ∨ ((s'.t k).lt s'.A.n = true ∧ s.t k = (s'.t k).ren f)
theorem Sub.shift {s s' : St} (h : Sub N s s') : Shift N s s' := by
  obtain ⟨f, h1, h2, h3, h4⟩ := h.ex
  exact .view f h1 h2 h3 h4

/-- Temporaries by a list; of others nothing is known. -/
def tl : List (Nat × AV) → Nat → AV
  | [], _ => .any
  | (k, v) :: r, i => if i = k then v else tl r i
theorem tl_sub {f : Nat → Nat} {n : Nat} {t : Nat → AV} : ∀ {l : List (Nat × AV)}, (∀ p ∈ l, p.2.lt n = true ∧ t p.1 = p.2.ren f) → ∀ k, tl l k = .any ∨ ((tl l k).lt n = true ∧ t k = (tl l k).ren f)
  | [], _, k => .inl rfl
  | (j, v) :: r, h, k => by
    simp only [tl]
    by_cases hk : k = j
    · subst hk
      rw [if_pos rfl]
      exact .inr (h (k, v) (List.mem_cons_self ..))
    · rw [if_neg hk]
      exact tl_sub (fun p hp => h p (List.mem_cons_of_mem _ hp)) k

/-- A heap's first objects as they are seen in another one. -/
def hsub (f : Nat → Nat) (n : Nat) (A : AHeap) : Nat → List (Option (List AV)) → Prop
  | _, [] => True
  | i, none :: r => f i < A.n ∧ hsub f n A (i + 1) r
  | i, some cs :: r => (ltL n cs = true ∧ A (f i) = some (renL f cs)) ∧ hsub f n A (i + 1) r
theorem hsub_get {f : Nat → Nat} {n : Nat} {A : AHeap} : ∀ {l : List (Option (List AV))} {i : Nat}, hsub f n A i l → (∀ b, b < l.length → f (i + b) < A.n) ∧ ∀ b cs, hget l b = some cs → ltL n cs = true ∧ A (f (i + b)) = some (renL f cs)
  | [], i, _ => ⟨fun b h => (by simp at h), fun b cs h => (by cases h)⟩
  | o :: r, i, h => by
    have hr : hsub f n A (i + 1) r := by cases o <;> exact h.2
    have h0 : f i < A.n := by
      cases o with
      | none => exact h.1
      | some cs => exact AHeap.lt h.1.2
    obtain ⟨k1, k2⟩ := hsub_get hr
    refine ⟨fun b hb => ?_, fun b cs hb => ?_⟩
    · cases b with
      | zero => exact h0
      | succ b => rw [show i + (b + 1) = i + 1 + b by omega]; exact k1 b (by simpa using hb)
    · cases b with
      | zero =>
        simp [hget] at hb
        subst hb
        exact h.1
      | succ b =>
        rw [show i + (b + 1) = i + 1 + b by omega]
        exact k2 b cs (by simpa [hget] using hb)

/-- Names that differ. -/
def injB (f : Nat → Nat) (n : Nat) : Bool := (List.range n).all fun i => (List.range n).all fun j => i == j || f i != f j
theorem injB_spec {f : Nat → Nat} {n : Nat} (h : injB f n = true) {i j : Nat} (hi : i < n) (hj : j < n) (e : f i = f j) : i = j := by
  have := List.all_eq_true.1 (List.all_eq_true.1 h i (List.mem_range.2 hi)) j (List.mem_range.2 hj)
  simp [e] at this
  exact this

theorem Sub.mk' (f : Nat → Nat) {s : St} {l : List (Nat × AV)} {os : List (Option (List AV))} (hN : N ≤ os.length) (hf : ∀ b, b < N → f b = b) (hi : injB f os.length = true) (hs : hsub f os.length s.A 0 os) (ht : ∀ p ∈ l, p.2.lt os.length = true ∧ s.t p.1 = p.2.ren f) : Sub N s ⟨tl l, ⟨os⟩⟩ := by
  obtain ⟨h1, h2⟩ := hsub_get hs
  refine ⟨f, hN, hf, ⟨fun b hb => by simpa using h1 b hb, fun b cs hb => by simpa using h2 b cs hb, fun b b' cs cs' e1 e2 e => injB_spec hi (hget_lt e1) (hget_lt e2) e⟩, tl_sub ht⟩

/-- The end of a function with a known result and known objects; others are forgotten. -/
def endH (f : Nat → Nat) (rs : List ARes) (r : AV) (os : List (Option (List AV))) : Ex → St → Prop
  | .normal, s | .ret, s => optW (resultsA s rs) fun v => v = r.ren f ∧ hsub f os.length s.A 0 os
  | _, _ => False
theorem endH_eq1 (f : Nat → Nat) (rs : List ARes) (r : AV) (os : List (Option (List AV))) (t : Nat → AV) (A : AHeap) : endH f rs r os .normal ⟨t, A⟩ = optW (resultsA ⟨t, A⟩ rs) fun v => v = r.ren f ∧ hsub f os.length A 0 os := rfl
theorem endH_eq2 (f : Nat → Nat) (rs : List ARes) (r : AV) (os : List (Option (List AV))) (t : Nat → AV) (A : AHeap) : endH f rs r os .ret ⟨t, A⟩ = optW (resultsA ⟨t, A⟩ rs) fun v => v = r.ren f ∧ hsub f os.length A 0 os := rfl

theorem H_code (hS : Quiet P S) (hm : P.follows .mixedOrders = true) {f : FuncId} {nargs : Nat} {q : FuncId → Nat} {hints : List Hint} {c : AC} {rs : List ARes} (h : acLin P f nargs q hints = some (c, rs))
    {args : List AV} (ha : args.length = nargs) {A : AHeap} {r : AV} {os : List (Option (List AV))} (π : Nat → Nat) (hN : A.n ≤ os.length) (hπ : ∀ b, b < A.n → π b = b) (hi : injB π os.length = true) (hr : r.lt os.length = true)
    (vc : wpc A.n P S c (initSt args A) (endH π rs r os)) : T P f args A fun r' A' => r' = r ∧ A' = ⟨os⟩ := by
  refine T_code hS hm h ha (wpc_mono c (fun e s k => ?_) _ vc)
  cases e with
  | exit id => exact k
  | _ =>
    simp only [endH, optW_iff] at k
    obtain ⟨v, h0, hv, hs⟩ := k
    obtain ⟨h1, h2⟩ := hsub_get hs
    simp only [endW, optW_iff]
    exact ⟨v, h0, r, ⟨os⟩, .view π hN hπ ⟨fun b hb => by simpa using h1 b hb, fun b cs hb => by simpa using h2 b cs hb, fun b b' cs cs' e1 e2 e => injB_spec hi (hget_lt e1) (hget_lt e2) e⟩ ⟨hr, hv⟩, rfl, rfl⟩

/-- A function that sees one object, by its first argument; it may make more. -/
def QB (P : Program) (f : FuncId) (sp : List AV → List AV → Option (AV × List (Option (List AV)))) : Prop := ∀ cs args r os, sp cs args = some (r, os) → (ltL 1 args = true ∧ ltL 0 cs = true ∧ os ≠ []) ∧ T P f args ⟨[some cs]⟩ fun r' A' => r' = r ∧ A' = ⟨os⟩
def nameOf : AV → Option (Nat × AV)
  | .ptr b o => some (b, .ptr 0 o)
  | .ref b e o n t => some (b, .ref 0 e o n t)
  | _ => none
def ext1 (b m : Nat) : Nat → Nat := fun i => if i = 0 then b else m + (i - 1)
def upd1 (l : List (Option (List AV))) (b : Nat) : List (Option (List AV)) → List (Option (List AV))
  | [] => l
  | o :: r => hset l b (o.map (renL (ext1 b l.length))) ++ r.map (Option.map (renL (ext1 b l.length)))
def spB (sp : List AV → List AV → Option (AV × List (Option (List AV)))) : List AV → AHeap → Option (AV × AHeap)
  | x :: args, A => (nameOf x).bind fun p => (A p.1).bind fun cs => if ltL 0 args = true then (sp (looseL cs) (p.2 :: args)).map fun q => (q.1.ren (ext1 p.1 A.n), ⟨upd1 A.l p.1 q.2⟩) else none
  | _, _ => none
theorem QB.toE {f : FuncId} {sp : List AV → List AV → Option (AV × List (Option (List AV)))} (h : QB P f sp) : QE P f (spB sp) := by
  intro args A r A1 e
  unfold spB at e
  split at e
  · rename_i x args
    obtain ⟨⟨b, y⟩, hx, e⟩ := Option.bind_eq_some_iff.1 e
    obtain ⟨cs, hb, e⟩ := Option.bind_eq_some_iff.1 e
    split at e
    · rename_i hargs
      obtain ⟨⟨r0, os⟩, e0, e1⟩ := Option.map_eq_some_iff.1 e
      injection e1 with e1 e2
      subst e1; subst e2
      obtain ⟨⟨h1, h2, h3⟩, hT⟩ := h (looseL cs) (y :: args) r0 os e0
      rw [looseL_lt] at h2
      replace hT := T.looseA (l := [some cs]) hT
      have hb : A b = some cs := hb
      have hlt : b < A.n := AHeap.lt hb
      have hxy : x = y.ren (fun _ => b) := by
        cases x <;> simp [nameOf] at hx
        · obtain ⟨rfl, rfl⟩ := hx; rfl
        · obtain ⟨rfl, rfl⟩ := hx; rfl
      have hv : View (fun _ => b) A ⟨[some cs]⟩ := by
        refine ⟨fun i _ => hlt, fun i c hi => ?_, fun i i' c c' h1 h2 _ => ?_⟩
        · have : i = 0 := by have := AHeap.lt (A := ⟨[some cs]⟩) hi; simp [AHeap.n] at this; exact this
          subst this
          simp [hget] at hi
          subst hi
          exact ⟨ltL_mono (Nat.zero_le _) _ h2, by rw [renL_low _ _ h2]; exact hb⟩
        · have e1 := AHeap.lt (A := ⟨[some cs]⟩) h1
          have e2 := AHeap.lt (A := ⟨[some cs]⟩) h2
          simp [AHeap.n] at e1 e2
          omega
      have := hT.embed hv (by simpa [AHeap.n] using h1)
      simp only [renL, ← hxy, renL_low _ _ hargs] at this
      have hext : extN 1 A.n (fun _ => b) = ext1 b A.n := by
        funext i
        simp only [extN, ext1]
        by_cases hi : i = 0
        · subst hi; simp
        · rw [if_neg (by omega), if_neg hi]
      refine this.mono ?_
      rintro r1 A1 ⟨r', A1', ⟨rfl, rfl⟩, rfl, rfl⟩
      have hn1 : (AHeap.mk [some cs]).n = 1 := rfl
      rw [hn1, hext]
      refine ⟨rfl, ?_⟩
      cases os with
      | nil => exact absurd rfl h3
      | cons o os => simp [upd, upd1]
    · cases e
  · cases e
def pb (sp : List AV → Option (AV × List (Option (List AV)))) : List AV → List AV → Option (AV × List (Option (List AV))) := fun cs args => sp (.agg cs :: args)
theorem QB_pf {ι : Type} {f : FuncId} {p : ι → Prop} {cells args : ι → List AV} {res : ι → AV × List (Option (List AV))} (hl : ∀ i, p i → ltL 1 (args i) = true ∧ ltL 0 (cells i) = true ∧ (res i).2 ≠ [])
    (h : ∀ i, p i → T P f (args i) ⟨[some (cells i)]⟩ fun r' A' => r' = (res i).1 ∧ A' = ⟨(res i).2⟩) : QB P f (pb (pf p (fun i => .agg (cells i) :: args i) res)) := by
  intro cs args0 r os e
  obtain ⟨i, hp, h1, h2⟩ := pf_some e
  injection h1 with h1 h3
  injection h1 with h1
  subst h1; subst h3
  have := h i hp
  have k := hl i hp
  rw [h2] at this k
  exact ⟨k, this⟩

/-- A method by a family. -/
def pm (sp : List AV → Option (AV × List AV)) : List AV → List AV → Option (AV × List AV) := fun cs args => sp (.agg cs :: args)
theorem QM_pf {ι : Type} {f : FuncId} {p : ι → Prop} {cells args : ι → List AV} {res : ι → AV × List AV} (hl : ∀ i, p i → (ltL 0 (args i) = true ∧ ltL 0 (cells i) = true) ∧ (res i).1.lt 0 = true ∧ ltL 0 (res i).2 = true)
    (h : ∀ i, p i → T P f (.ptr 0 0 :: args i) ⟨[some (cells i)]⟩ fun r' A' => r' = (res i).1 ∧ A' = ⟨[some (res i).2]⟩) : QM P f (pm (pf p (fun i => .agg (cells i) :: args i) res)) := by
  intro cs args0 r cs' e
  obtain ⟨i, hp, h1, h2⟩ := pf_some e
  injection h1 with h1 h3
  injection h1 with h1
  subst h1; subst h3
  obtain ⟨⟨a1, a2⟩, a3, a4⟩ := hl i hp
  have := h i hp
  rw [h2] at this a3 a4
  exact ⟨⟨a1, a2, a3, a4⟩, this⟩

/-- A round's end. -/
def Next {ι : Type} (N : Nat) (st : ι → St) (p : ι → Prop) (μ : ι → Nat) (i : ι) (s : St) : Prop := ∃ j, p j ∧ μ j < μ i ∧ Sub N s (st j)
theorem Next.mk {ι : Type} {st : ι → St} {p : ι → Prop} {μ : ι → Nat} {i : ι} {s : St} (j : ι) (h1 : p j) (h2 : μ j < μ i) (h3 : Sub N s (st j)) : Next N st p μ i s := ⟨j, h1, h2, h3⟩
theorem wpLoop_st {ι : Type} {c : AC} {s : St} {Q : Ex → St → Prop} {h : Hold (wpc N P S c)} {h' : Hold Q} (st : ι → St) (p : ι → Prop) (μ : ι → Nat) (i0 : ι) (hp : p i0) (h0 : Sub N s (st i0))
    (hr : ∀ i, p i → wpc N P S c (st i) fun e s' => match e with
      | .normal => Next N st p μ i s'
      | e => Q e s') : wpLoop N (wpc N P S c) s Q h h' := by
  classical
  let G : St → Nat → Prop := fun s m => ∃ i, p i ∧ st i = s ∧ μ i = m
  let ms : St → Nat := fun s => if h : ∃ m, G s m then Classical.choose (least_of h) else 0
  have hms : ∀ i, p i → ms (st i) ≤ μ i ∧ ∃ j, p j ∧ st j = st i ∧ μ j = ms (st i) := by
    intro i hi
    have hex : ∃ m, G (st i) m := ⟨μ i, i, hi, rfl, rfl⟩
    have e : ms (st i) = Classical.choose (least_of hex) := dif_pos hex
    have := Classical.choose_spec (least_of hex)
    rw [e]
    exact ⟨this.2 _ ⟨i, hi, rfl, rfl⟩, this.1⟩
  refine ⟨fun s => ∃ i, p i ∧ st i = s, ms, ⟨_, h0.shift, i0, hp, rfl⟩, ?_⟩
  rintro s1 ⟨i, hi, rfl⟩
  obtain ⟨_, j, hj, hji, hμ⟩ := hms i hi
  rw [← hji]
  refine wpc_mono c (fun e s' he => ?_) _ (hr j hj)
  cases e with
  | normal =>
    obtain ⟨k, hk, hlt, hsub⟩ := he
    refine ⟨st k, hsub.shift, ⟨k, hk, rfl⟩, Nat.lt_of_le_of_lt (hms k hk).1 ?_⟩
    have : ms (st j) = μ j := by rw [hji]; exact hμ.symm
    omega
  | exit id => exact he
  | ret => exact he

end Go.Proofs.YtllahdjejcideaaAi
