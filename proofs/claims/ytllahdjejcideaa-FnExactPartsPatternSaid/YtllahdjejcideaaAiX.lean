/- Tools for contracts. -/
import Derived.Test.YtllahdjejcideaaAiW
import Derived.KernelRfl
namespace Go.Proofs.YtllahdjejcideaaAi
open Go Go.RowKit
set_option linter.unusedVariables false
set_option linter.unusedSimpArgs false

variable {P : Program} {S : Spec} {N : Nat}

def inQ (l l2 : List FuncId) : FuncId → Nat := fun f => if l.contains f then 1 else if l2.contains f then 2 else 0

def acLin (P : Program) (f : FuncId) (nargs : Nat) (q : FuncId → Nat) (hints : List Hint) : Option (AC × List ARes) :=
  (P.funcs[f]?).bind fun fn => fn.body.bind fun body => (ccCode P body).bind fun ac => (fn.results.toList.mapM (ccRes P)).bind fun rs =>
    if ((!(fn.name == "runtime.NumGoroutine")) && (dAll fn.ntmps ac && decide (nargs ≤ fn.ntmps))) = true then some ((lin q ac hints).1, rs) else none

theorem T_code (hS : Quiet P S) (hm : P.follows .mixedOrders = true) {f : FuncId} {nargs : Nat} {q : FuncId → Nat} {hints : List Hint} {c : AC} {rs : List ARes} (h : acLin P f nargs q hints = some (c, rs))
    {args : List AV} (ha : args.length = nargs) {A : AHeap} {R : AV → AHeap → Prop} (vc : wpc A.n P S c (initSt args A) (endW A.n rs R)) : T P f args A R := by
  unfold acLin at h
  obtain ⟨fn, hf, h⟩ := Option.bind_eq_some_iff.1 h
  obtain ⟨body, hb, h⟩ := Option.bind_eq_some_iff.1 h
  obtain ⟨ac, hc, h⟩ := Option.bind_eq_some_iff.1 h
  obtain ⟨rs', hr, h⟩ := Option.bind_eq_some_iff.1 h
  split at h
  · rename_i hh
    simp only [Bool.and_eq_true, Bool.not_eq_true', decide_eq_true_eq] at hh
    simp only [Option.some.injEq, Prod.mk.injEq] at h
    obtain ⟨rfl, rfl⟩ := h
    exact T_of hS hm (nargs := nargs) ⟨fn, body, hf, hh.1, hb, hc, hh.2.1, hr, hh.2.2⟩ q hints ha vc
  · cases h

theorem endW_mono {rs : List ARes} {R R' : AV → AHeap → Prop} (h : ∀ r A, R r A → R' r A) {e : Ex} {s : St} (k : endW N rs R e s) : endW N rs R' e s := by
  unfold endW at *
  cases e with
  | exit id => exact k
  | _ =>
    refine optW_mono ?_ k
    rintro r ⟨r', A', h1, h2⟩
    exact ⟨r', A', h1, h _ _ h2⟩

theorem wpall_mono {K K' : St → Prop} (h : ∀ s, K s → K' s) {ops : List (AOper × List Nat)} : ∀ (n : Nat) (done : List Nat) (s : St), wpall P S ops n done s K → wpall P S ops n done s K'
  | 0, _, s, hK => ⟨hK.1, h s hK.2⟩
  | n + 1, done, s, hK => ⟨fun h0 => h s (hK.1 h0), fun i hi o ho => wpg_mono (fun s' hk => wpall_mono h n _ s' hk) (hK.2 i hi o ho)⟩

theorem wpc_mono : ∀ (c : AC) {Q Q' : Ex → St → Prop}, (∀ e s, Q e s → Q' e s) → ∀ s, wpc N P S c s Q → wpc N P S c s Q'
  | .skip, Q, Q', h, s, hw => h _ _ hw
  | .reg ops, Q, Q', h, s, hw => wps_mono (h .normal) ops s hw
  | .draw ops, Q, Q', h, s, hw => wpall_mono (h .normal) _ _ _ hw
  | .seq a b, Q, Q', h, s, hw => wpc_mono a (fun e s' hk => by
    cases e with
    | normal => exact wpc_mono b h s' hk
    | exit id => exact h _ _ hk
    | ret => exact h _ _ hk) s hw
  | .cond c x y, Q, Q', h, s, hw => by
    simp only [wpc] at *
    refine optW_mono ?_ hw
    intro b hw
    exact brW_mono (wpc_mono x h s) (wpc_mono y h s) hw
  | .block id c, Q, Q', h, s, hw => wpc_mono c (fun e s' hk => by
    cases e with
    | normal => exact h _ _ hk
    | exit i =>
      simp only at hk ⊢
      by_cases hi : i = id
      · rw [if_pos hi] at hk ⊢; exact h _ _ hk
      · rw [if_neg hi] at hk ⊢; exact h _ _ hk
    | ret => exact h _ _ hk) s hw
  | .loop c, Q, Q', h, s, hw => by
    obtain ⟨I, μ, h0, hr⟩ := hw
    refine ⟨I, μ, h0, fun s1 hI => wpc_mono c (fun e s' hk => ?_) s1 (hr s1 hI)⟩
    cases e with
    | normal => exact hk
    | exit id => exact h _ _ hk
    | ret => exact h _ _ hk
  | .exit id, Q, Q', h, s, hw => h _ _ hw
  | .ret, Q, Q', h, s, hw => h _ _ hw
  | .shift, Q, Q', h, s, hw => let ⟨s', h1, h2⟩ := hw; ⟨s', h1, h _ _ h2⟩
  | .bad, Q, Q', h, s, hw => hw

theorem WtA_nil (xs : List AV) : WtA [] xs ↔ xs = [] := by cases xs <;> simp [WtA]
theorem WtA_cons (t : Ty) (ts : List Ty) (xs : List AV) : WtA (t :: ts) xs ↔ ∃ x ys, xs = x :: ys ∧ WtV t x ∧ WtA ts ys := by
  constructor
  · intro h
    cases xs with
    | nil => exact h.elim
    | cons x ys => exact ⟨x, ys, rfl, h.1, h.2⟩
  · rintro ⟨x, ys, rfl, h1, h2⟩; exact ⟨h1, h2⟩
theorem WtV_st (fs : List Ty) (x : AV) : WtV (.st fs) x ↔ ∃ cs, x = .agg cs ∧ WtL fs cs := by
  constructor
  · rintro ⟨h1, h2⟩
    cases x <;> first | (simp [AV.isAgg, Ty.isSt] at h2; done) | skip
    exact ⟨_, rfl, h1⟩
  · rintro ⟨cs, rfl, h⟩; exact ⟨h, rfl⟩
theorem one_of_cells {x c : AV} (h : x.cells = [c]) (ha : x.isAgg = false) : x = c := by
  cases x <;> first | (simp [AV.isAgg] at ha; done) | (simp [AV.cells] at h; exact h)
theorem WtV_int (k : IntKind) (x : AV) : WtV (.int k) x ↔ ∃ n, x = .int k n ∧ k.min ≤ n ∧ n ≤ k.max := by
  constructor
  · rintro ⟨⟨n, h1, h3⟩, h2⟩; exact ⟨n, one_of_cells h1 h2, h3⟩
  · rintro ⟨n, rfl, h⟩; exact ⟨⟨n, rfl, h⟩, rfl⟩
theorem WtV_bool (x : AV) : WtV .bool x ↔ ∃ b, x = .bool b := by
  constructor
  · rintro ⟨⟨n, h1⟩, h2⟩; exact ⟨n, one_of_cells h1 h2⟩
  · rintro ⟨n, rfl⟩; exact ⟨⟨n, rfl⟩, rfl⟩
theorem WtV_str (x : AV) : WtV .str x ↔ ∃ s, x = .str s ∧ s.size ≤ maxLen := by
  constructor
  · rintro ⟨⟨n, h1, h3⟩, h2⟩; exact ⟨n, one_of_cells h1 h2, h3⟩
  · rintro ⟨n, rfl, h⟩; exact ⟨⟨n, rfl, h⟩, rfl⟩
theorem WtV_sl (e : Ty) (x : AV) : WtV (.sl e) x ↔ ∃ xs, x = .sl xs false ∧ xs.length ≤ maxLen ∧ ∀ y ∈ xs, WtV e y := by
  constructor
  · rintro ⟨⟨n, h1, h3⟩, h2⟩; exact ⟨n, one_of_cells h1 h2, h3⟩
  · rintro ⟨n, rfl, h⟩; exact ⟨⟨n, rfl, h⟩, rfl⟩
theorem WtL_nil (cs : List AV) : WtL [] cs ↔ cs = [] := Iff.rfl
theorem WtL_int (k : IntKind) (fs : List Ty) (cs : List AV) : WtL (.int k :: fs) cs ↔ ∃ n r, cs = .int k n :: r ∧ (k.min ≤ n ∧ n ≤ k.max) ∧ WtL fs r := by
  constructor
  · rintro ⟨a, b, rfl, ⟨n, rfl, h⟩, h2⟩; exact ⟨n, b, rfl, h, h2⟩
  · rintro ⟨n, r, rfl, h, h2⟩; exact ⟨[.int k n], r, rfl, ⟨n, rfl, h⟩, h2⟩
theorem WtL_bool (fs : List Ty) (cs : List AV) : WtL (.bool :: fs) cs ↔ ∃ n r, cs = .bool n :: r ∧ WtL fs r := by
  constructor
  · rintro ⟨a, b, rfl, ⟨n, rfl⟩, h2⟩; exact ⟨n, b, rfl, h2⟩
  · rintro ⟨n, r, rfl, h2⟩; exact ⟨[.bool n], r, rfl, ⟨n, rfl⟩, h2⟩
theorem WtL_str (fs : List Ty) (cs : List AV) : WtL (.str :: fs) cs ↔ ∃ n r, cs = .str n :: r ∧ n.size ≤ maxLen ∧ WtL fs r := by
  constructor
  · rintro ⟨a, b, rfl, ⟨n, rfl, h⟩, h2⟩; exact ⟨n, b, rfl, h, h2⟩
  · rintro ⟨n, r, rfl, h, h2⟩; exact ⟨[.str n], r, rfl, ⟨n, rfl, h⟩, h2⟩
theorem WtL_sl (e : Ty) (fs : List Ty) (cs : List AV) : WtL (.sl e :: fs) cs ↔ ∃ xs r, cs = .sl xs false :: r ∧ (xs.length ≤ maxLen ∧ ∀ y ∈ xs, WtV e y) ∧ WtL fs r := by
  constructor
  · rintro ⟨a, b, rfl, ⟨n, rfl, h⟩, h2⟩; exact ⟨n, b, rfl, h, h2⟩
  · rintro ⟨n, r, rfl, h, h2⟩; exact ⟨[.sl n false], r, rfl, ⟨n, rfl, h⟩, h2⟩
theorem WtL_st (gs fs : List Ty) (cs : List AV) : WtL (.st gs :: fs) cs ↔ ∃ a b, cs = a ++ b ∧ WtL gs a ∧ WtL fs b := Iff.rfl


/-! ### other names -/
theorem rep_sl {σ σ' : Sg} (hm : ∀ b o, σ.mem b = some o → σ'.mem b = some o) {xs : List AV} {t : Bool} {v : Value} (h : Rep σ (.sl xs t) v) : Rep σ' (.sl xs t) v :=
  h.low' (n := 0) hm (fun b x h => absurd h (Nat.not_lt_zero b)) rfl
theorem rep_epsl {σ σ' : Sg} (hm : ∀ b o, σ.mem b = some o → σ'.mem b = some o) {xs : List AV} {t : Bool} {i o : Nat} {v : Value} (h : Rep σ (.ep (.sl xs t) i o) v) : Rep σ' (.ep (.sl xs t) i o) v :=
  h.low' (n := 0) hm (fun b x h => absurd h (Nat.not_lt_zero b)) rfl
mutual
theorem rep_ren {n : Nat} {f : Nat → Nat} {σ σ' : Sg} (hn : ∀ b x, b < n → σ.nm b = some x → σ'.nm (f b) = some x) (hm : ∀ b o, σ.mem b = some o → σ'.mem b = some o) : ∀ (x : AV) (v : Value), x.lt n = true → Rep σ x v → Rep σ' (x.ren f) v
  | .bool _, v, _, h => by cases h; exact .bool _
  | .int _ _, v, _, h => by cases h; exact .int _ _
  | .str _, v, _, h => by cases h; exact .str _
  | .any, v, _, _ => .any v
  | .nilp, v, _, h => by cases h; exact .nilp
  | .nilf, v, _, h => by cases h; exact .nilf
  | .nili, v, _, h => by cases h; exact .nili
  | .iface, v, _, h => by cases h; exact .iface _ _
  | .ptr b o, v, hl, h => by
    cases h with
    | ptr _ _ c sz h1 => exact .ptr _ _ c sz (hn b _ (of_decide_eq_true hl) h1)
  | .ref b e o m t, v, hl, h => by
    cases h with
    | ref _ _ _ _ _ ad cap c sz h1 h2 h3 h4 h5 h6 h7 => exact .ref _ _ _ _ _ ad cap c sz h1 h2 h3 h4 (hn b _ (of_decide_eq_true hl) h5) h6 h7
  | .sl xs t, v, _, h => rep_sl hm h
  | .ep x i o, v, hl, h => by
    cases h with
    | epsl xs t _ _ y b o' val h1 h2 h3 h4 h5 => exact rep_epsl hm (.epsl xs t i o y b o' val h1 h2 h3 h4 h5)
    | epref b e o' m t _ _ c sz h1 => exact .epref _ _ _ _ _ _ _ c sz (hn b _ (of_decide_eq_true (by simpa [AV.lt] using hl)) h1)
  | .fn g cs, v, hl, h => by
    cases h with
    | fn _ _ vs h1 h2 => exact .fn g _ vs (by rw [renL_map]; simpa using h1) (repL_ren hn hm cs vs hl h2)
  | .agg cs, v, hl, h => by
    cases h with
    | agg _ vs h1 h2 h3 => exact .agg _ vs (by rw [renL_map]; simpa using h1) h2 (repL_ren hn hm cs vs hl h3)
  | .tup cs, v, hl, h => by
    cases h with
    | tup _ vs h1 h3 => exact .tup _ vs (by rw [renL_map]; simpa using h1) (repL_ren hn hm cs vs hl h3)
theorem repL_ren {n : Nat} {f : Nat → Nat} {σ σ' : Sg} (hn : ∀ b x, b < n → σ.nm b = some x → σ'.nm (f b) = some x) (hm : ∀ b o, σ.mem b = some o → σ'.mem b = some o) : ∀ (cs : List AV) (vs : List Value), ltL n cs = true →
    (∀ (i : Nat) (c : AV) (v : Value), cs[i]? = some c → vs[i]? = some v → Rep σ c v) → ∀ (i : Nat) (c : AV) (v : Value), (renL f cs)[i]? = some c → vs[i]? = some v → Rep σ' c v
  | [], vs, _, _, i, c, v, hc, _ => by simp [renL] at hc
  | x :: cs, vs, hl, h, i, c, v, hc, hv => by
    simp only [ltL, Bool.and_eq_true] at hl
    cases vs with
    | nil => simp at hv
    | cons u us =>
      cases i with
      | zero =>
        simp [renL] at hc hv
        subst hc; subst hv
        exact rep_ren hn hm x u hl.1 (h 0 x u rfl rfl)
      | succ i => exact repL_ren hn hm cs us hl.2 (fun i c v h1 h2 => h (i + 1) c v (by simpa using h1) (by simpa using h2)) i c v (by simpa [renL] using hc) (by simpa using hv)
end

mutual
theorem rep_unren {n : Nat} {f : Nat → Nat} {σ σ' : Sg} (hn : ∀ b x, b < n → σ.nm (f b) = some x → σ'.nm b = some x) (hm : ∀ b o, σ.mem b = some o → σ'.mem b = some o) : ∀ (x : AV) (v : Value), x.lt n = true → Rep σ (x.ren f) v → Rep σ' x v
  | .bool _, v, _, h => by cases h; exact .bool _
  | .int _ _, v, _, h => by cases h; exact .int _ _
  | .str _, v, _, h => by cases h; exact .str _
  | .any, v, _, _ => .any v
  | .nilp, v, _, h => by cases h; exact .nilp
  | .nilf, v, _, h => by cases h; exact .nilf
  | .nili, v, _, h => by cases h; exact .nili
  | .iface, v, _, h => by cases h; exact .iface _ _
  | .ptr b o, v, hl, h => by
    cases h with
    | ptr _ _ c sz h1 => exact .ptr _ _ c sz (hn b _ (of_decide_eq_true hl) h1)
  | .ref b e o m t, v, hl, h => by
    cases h with
    | ref _ _ _ _ _ ad cap c sz h1 h2 h3 h4 h5 h6 h7 => exact .ref _ _ _ _ _ ad cap c sz h1 h2 h3 h4 (hn b _ (of_decide_eq_true hl) h5) h6 h7
  | .sl xs t, v, _, h => rep_sl hm h
  | .ep x i o, v, hl, h => by
    cases x with
    | sl xs t => exact rep_epsl hm h
    | ref b e o' m t =>
      cases h with
      | epref _ _ _ _ _ _ _ c sz h1 => exact .epref _ _ _ _ _ _ _ c sz (hn b _ (of_decide_eq_true (by simpa [AV.lt] using hl)) h1)
    | _ => simp only [AV.ren] at h; cases h
  | .fn g cs, v, hl, h => by
    simp only [AV.ren] at h
    cases h with
    | fn _ _ vs h1 h2 => exact .fn g _ vs (by rw [renL_map] at h1; simpa using h1) (repL_unren hn hm cs vs hl h2)
  | .agg cs, v, hl, h => by
    simp only [AV.ren] at h
    cases h with
    | agg _ vs h1 h2 h3 => exact .agg _ vs (by rw [renL_map] at h1; simpa using h1) h2 (repL_unren hn hm cs vs hl h3)
  | .tup cs, v, hl, h => by
    simp only [AV.ren] at h
    cases h with
    | tup _ vs h1 h3 => exact .tup _ vs (by rw [renL_map] at h1; simpa using h1) (repL_unren hn hm cs vs hl h3)
theorem repL_unren {n : Nat} {f : Nat → Nat} {σ σ' : Sg} (hn : ∀ b x, b < n → σ.nm (f b) = some x → σ'.nm b = some x) (hm : ∀ b o, σ.mem b = some o → σ'.mem b = some o) : ∀ (cs : List AV) (vs : List Value), ltL n cs = true →
    (∀ (i : Nat) (c : AV) (v : Value), (renL f cs)[i]? = some c → vs[i]? = some v → Rep σ c v) → ∀ (i : Nat) (c : AV) (v : Value), cs[i]? = some c → vs[i]? = some v → Rep σ' c v
  | [], vs, _, _, i, c, v, hc, _ => by simp at hc
  | x :: cs, vs, hl, h, i, c, v, hc, hv => by
    simp only [ltL, Bool.and_eq_true] at hl
    cases vs with
    | nil => simp at hv
    | cons u us =>
      cases i with
      | zero =>
        simp at hc hv
        subst hc; subst hv
        exact rep_unren hn hm x u hl.1 (h 0 _ u (by simp [renL]) rfl)
      | succ i => exact repL_unren hn hm cs us hl.2 (fun i c v h1 h2 => h (i + 1) c v (by simpa [renL] using h1) (by simpa using h2)) i c v (by simpa using hc) (by simpa using hv)
end

/-- A heap as a part of another one is seen. -/
structure View (f : Nat → Nat) (A A' : AHeap) : Prop where
  into : ∀ b, b < A'.n → f b < A.n
  own : ∀ b cs, A' b = some cs → ltL A'.n cs = true ∧ A (f b) = some (renL f cs)
  inj : ∀ b b' cs cs', A' b = some cs → A' b' = some cs' → f b = f b' → b = b'

def Sg.see (σ : Sg) (f : Nat → Nat) (n : Nat) : Sg := { σ with nm := fun b => if b < n then σ.nm (f b) else none }
theorem Sg.see_at {σ : Sg} {f : Nat → Nat} {n b : Nat} (h : b < n) : (σ.see f n).nm b = σ.nm (f b) := if_pos h
theorem Sg.see_rep {σ : Sg} {f : Nat → Nat} {n : Nat} {x : AV} {v : Value} (hl : x.lt n = true) (h : Rep σ (x.ren f) v) : Rep (σ.see f n) x v :=
  rep_unren (σ := σ) (σ' := σ.see f n) (fun b y hb e => by rw [Sg.see_at hb]; exact e) (fun _ _ h => h) x v hl h

theorem Sim.view {B : Nat → Prop} {σ : Sg} {A A' : AHeap} {w : World} (h : Sim B σ A w) {f : Nat → Nat} (hv : View f A A') : Sim B (σ.see f A'.n) A' w := by
  refine ⟨h.base, h.mem, h.low, fun b c n e => ?_, fun b hb => ?_, fun b cs hb => ?_, fun b b' cs cs' c n n' e1 e2 e3 e4 => ?_⟩
  · simp only [Sg.see] at e
    split at e
    · rename_i hb; exact ⟨hb, (h.nm _ _ _ e).2⟩
    · cases e
  · rw [Sg.see_at hb]; exact h.tot _ (hv.into b hb)
  · obtain ⟨hl, hA⟩ := hv.own b cs hb
    obtain ⟨c, cur, e, h1, h2, h3, h4, h5, h6⟩ := h.own _ _ hA
    refine ⟨c, cur, e, by rw [Sg.see_at (AHeap.lt hb)]; exact h1, h2, h3, h4, by rw [renL_map] at h5; simpa using h5, fun j x hx => ?_⟩
    obtain ⟨v, k1, k2, k3⟩ := h6 j (x.ren f) (by rw [renL_map, List.getElem?_map, hx]; rfl)
    exact ⟨v, k1, Sg.see_rep (ltL_get hl j x hx) k2, k3⟩
  · rw [Sg.see_at (AHeap.lt e1)] at e3
    rw [Sg.see_at (AHeap.lt e2)] at e4
    exact hv.inj _ _ _ _ e1 e2 (h.inj _ _ _ _ _ _ _ (hv.own _ _ e1).2 (hv.own _ _ e2).2 e3 e4)

theorem Sg.see_le {σ : Sg} {f : Nat → Nat} {n N : Nat} (hN : N ≤ n) (hf : ∀ b, b < N → f b = b) : σ.LeN N (σ.see f n) :=
  ⟨fun _ _ h => h, fun b x hb e => by rw [Sg.see_at (by omega), hf b hb]; exact e, rfl⟩

theorem Shift.view {s s' : St} (f : Nat → Nat) (hN : N ≤ s'.A.n) (hf : ∀ b, b < N → f b = b) (hv : View f s.A s'.A) (ht : ∀ k, s'.t k = .any ∨ ((s'.t k).lt s'.A.n = true ∧ s.t k = (s'.t k).ren f)) : Shift N s s' := fun B w0 n σ a w hs => by
  refine ⟨_, Sg.see_le hN hf, hs.sim.view hv, fun k => ?_, hs.size, hs.defers, hs.below⟩
  rcases ht k with h | ⟨h1, h2⟩
  · rw [h]; exact .any _
  · have := hs.tmps k
    rw [h2] at this
    exact Sg.see_rep h1 this

theorem EndS.view {r r' : AV} {A A' : AHeap} (f : Nat → Nat) (hN : N ≤ A'.n) (hf : ∀ b, b < N → f b = b) (hv : View f A A') (hr : r'.lt A'.n = true ∧ r = r'.ren f) : EndS N r A r' A' := fun B σ w v hs h => by
  refine ⟨_, Sg.see_le hN hf, hs.view hv, ?_⟩
  rw [hr.2] at h
  exact Sg.see_rep hr.1 h

theorem EndS.refl (r : AV) (A : AHeap) : EndS N r A r A := fun B σ w v hs h => ⟨σ, .refl N σ, hs, h⟩

mutual
theorem ren_low (f : Nat → Nat) : ∀ x : AV, x.lt 0 = true → x.ren f = x
  | .ptr b _, h => by simp [AV.lt] at h
  | .ref b _ _ _ _, h => by simp [AV.lt] at h
  | .ep v _ _, h => by simp only [AV.lt] at h; simp only [AV.ren, ren_low f v h]
  | .fn _ cs, h => by simp only [AV.lt] at h; simp only [AV.ren, renL_low f cs h]
  | .agg cs, h => by simp only [AV.lt] at h; simp only [AV.ren, renL_low f cs h]
  | .tup cs, h => by simp only [AV.lt] at h; simp only [AV.ren, renL_low f cs h]
  | .bool _, _ | .int _ _, _ | .str _, _ | .sl _ _, _ | .nilp, _ | .nilf, _ | .nili, _ | .iface, _ | .any, _ => rfl
theorem renL_low (f : Nat → Nat) : ∀ cs : List AV, ltL 0 cs = true → renL f cs = cs
  | [], _ => rfl
  | x :: r, h => by
    simp only [ltL, Bool.and_eq_true] at h
    simp only [renL, ren_low f x h.1, renL_low f r h.2]
end
mutual
theorem ren_id : ∀ x : AV, x.ren (fun b => b) = x
  | .ptr b _ => rfl
  | .ref b _ _ _ _ => rfl
  | .ep v _ _ => by simp only [AV.ren, ren_id v]
  | .fn _ cs => by simp only [AV.ren, renL_id cs]
  | .agg cs => by simp only [AV.ren, renL_id cs]
  | .tup cs => by simp only [AV.ren, renL_id cs]
  | .bool _ | .int _ _ | .str _ | .sl _ _ | .nilp | .nilf | .nili | .iface | .any => rfl
theorem renL_id : ∀ cs : List AV, renL (fun b => b) cs = cs
  | [] => rfl
  | x :: r => by simp only [renL, ren_id x, renL_id r]
end

theorem EndS.pure {r : AV} {A : AHeap} (h : r.lt 0 = true) : EndS 0 r A r .nil :=
  .view (fun b => b) (Nat.le_refl _) (fun b h => rfl) ⟨fun b h => (by simp [AHeap.nil, AHeap.n] at h), fun b cs h => (by cases h), fun b b' cs cs' h => (by cases h)⟩ ⟨h, (ren_id r).symm⟩

end Go.Proofs.YtllahdjejcideaaAi
