/- Tools for contracts. -/
import Derived.Test.YtllahdjejcideaaAiW
import Derived.KernelRfl
namespace Go.Proofs.YtllahdjejcideaaAi
open Go Go.RowKit
set_option linter.unusedVariables false
set_option linter.unusedSimpArgs false

variable {P : Program} {S : Spec}

def inL (l : List FuncId) : FuncId → Bool := fun f => l.contains f

def acLin (P : Program) (f : FuncId) (nargs : Nat) (q : FuncId → Bool) (hints : List Hint) : Option (AC × List ARes) :=
  (P.funcs[f]?).bind fun fn => fn.body.bind fun body => (ccCode P body).bind fun ac => (fn.results.toList.mapM (ccRes P)).bind fun rs =>
    if ((!(fn.name == "runtime.NumGoroutine")) && (dAll fn.ntmps ac && decide (nargs ≤ fn.ntmps))) = true then some ((lin q ac hints).1, rs) else none

theorem T_code (hS : Quiet P S) (hm : P.follows .mixedOrders = true) {f : FuncId} {nargs : Nat} {q : FuncId → Bool} {hints : List Hint} {c : AC} {rs : List ARes} (h : acLin P f nargs q hints = some (c, rs))
    {args : List AV} (ha : args.length = nargs) {A : AHeap} {R : AV → AHeap → Prop} (vc : wpc P S c (initSt args A) (endW rs R)) : T P f args A R := by
  unfold acLin at h
  obtain ⟨fn, hf, h⟩ := Option.bind_eq_some_iff.1 h
  obtain ⟨body, hb, h⟩ := Option.bind_eq_some_iff.1 h
  obtain ⟨ac, hc, h⟩ := Option.bind_eq_some_iff.1 h
  obtain ⟨rs', hr, h⟩ := Option.bind_eq_some_iff.1 h
  split at h
  · rename_i hh
    simp only [Bool.and_eq_true, Bool.not_eq_true', decide_eq_true_eq] at hh
    simp only [Option.some.injEq, Prod.mk.injEq] at h
    obtain ⟨rfl, rfl⟩ := h
    exact T_of hS hm (nargs := nargs) ⟨fn, body, hf, hh.1, hb, hc, hh.2.1, hr, hh.2.2⟩ q hints ha vc
  · cases h

/-- A function of which the result is known, and that touches nothing. -/
def QF (P : Program) (f : FuncId) (sp : List AV → Option AV) : Prop := ∀ args r, sp args = some r → ∀ A, T P f args A fun r' A' => r' = r ∧ A' = A

def tab : List (FuncId × (List AV → Option AV)) → Spec
  | [], _, _ => none
  | (g, sp) :: l, f, args => if f = g then sp args else tab l f args
theorem Quiet.nil : Quiet P (tab []) := fun f args r h => by cases h
theorem Quiet.cons {g : FuncId} {sp : List AV → Option AV} {l : List (FuncId × (List AV → Option AV))} (h : QF P g sp) (k : Quiet P (tab l)) : Quiet P (tab ((g, sp) :: l)) := fun f args r e => by
  simp only [tab] at e
  split at e
  · rename_i hf; subst hf; exact h args r e
  · exact k f args r e

theorem endW_mono {rs : List ARes} {R R' : AV → AHeap → Prop} (h : ∀ r A, R r A → R' r A) {e : Ex} {s : St} (k : endW rs R e s) : endW rs R' e s := by
  unfold endW at *
  cases e with
  | exit id => exact k
  | _ =>
    refine optW_mono ?_ k
    rintro r ⟨A', h1, h2⟩
    exact ⟨A', h1, h _ _ h2⟩

theorem wpall_mono {K K' : St → Prop} (h : ∀ s, K s → K' s) {ops : List (AOper × List Nat)} : ∀ (n : Nat) (done : List Nat) (s : St), wpall P S ops n done s K → wpall P S ops n done s K'
  | 0, _, s, hK => ⟨hK.1, h s hK.2⟩
  | n + 1, done, s, hK => ⟨fun h0 => h s (hK.1 h0), fun i hi o ho => wpg_mono (fun s' hk => wpall_mono h n _ s' hk) (hK.2 i hi o ho)⟩

theorem wpc_mono : ∀ (c : AC) {Q Q' : Ex → St → Prop}, (∀ e s, Q e s → Q' e s) → ∀ s, wpc P S c s Q → wpc P S c s Q'
  | .skip, Q, Q', h, s, hw => h _ _ hw
  | .reg ops, Q, Q', h, s, hw => wps_mono (h .normal) ops s hw
  | .draw ops, Q, Q', h, s, hw => wpall_mono (h .normal) _ _ _ hw
  | .seq a b, Q, Q', h, s, hw => wpc_mono a (fun e s' hk => by
    cases e with
    | normal => exact wpc_mono b h s' hk
    | exit id => exact h _ _ hk
    | ret => exact h _ _ hk) s hw
  | .cond c x y, Q, Q', h, s, hw => by
    simp only [wpc] at *
    refine optW_mono ?_ hw
    intro b hw
    exact brW_mono (wpc_mono x h s) (wpc_mono y h s) hw
  | .block id c, Q, Q', h, s, hw => wpc_mono c (fun e s' hk => by
    cases e with
    | normal => exact h _ _ hk
    | exit i =>
      simp only at hk ⊢
      by_cases hi : i = id
      · rw [if_pos hi] at hk ⊢; exact h _ _ hk
      · rw [if_neg hi] at hk ⊢; exact h _ _ hk
    | ret => exact h _ _ hk) s hw
  | .loop c, Q, Q', h, s, hw => by
    obtain ⟨I, μ, h0, hr⟩ := hw
    refine ⟨I, μ, h0, fun s1 hI => wpc_mono c (fun e s' hk => ?_) s1 (hr s1 hI)⟩
    cases e with
    | normal => exact hk
    | exit id => exact h _ _ hk
    | ret => exact h _ _ hk
  | .exit id, Q, Q', h, s, hw => h _ _ hw
  | .ret, Q, Q', h, s, hw => h _ _ hw
  | .shift, Q, Q', h, s, hw => let ⟨s', h1, h2⟩ := hw; ⟨s', h1, h _ _ h2⟩
  | .bad, Q, Q', h, s, hw => hw

theorem WtA_nil (xs : List AV) : WtA [] xs ↔ xs = [] := by cases xs <;> simp [WtA]
theorem WtA_cons (t : Ty) (ts : List Ty) (xs : List AV) : WtA (t :: ts) xs ↔ ∃ x ys, xs = x :: ys ∧ WtV t x ∧ WtA ts ys := by
  constructor
  · intro h
    cases xs with
    | nil => exact h.elim
    | cons x ys => exact ⟨x, ys, rfl, h.1, h.2⟩
  · rintro ⟨x, ys, rfl, h1, h2⟩; exact ⟨h1, h2⟩
theorem WtV_st (fs : List Ty) (x : AV) : WtV (.st fs) x ↔ ∃ cs, x = .agg cs ∧ WtL fs cs := by
  constructor
  · rintro ⟨h1, h2⟩
    cases x <;> first | (simp [AV.isAgg, Ty.isSt] at h2; done) | skip
    exact ⟨_, rfl, h1⟩
  · rintro ⟨cs, rfl, h⟩; exact ⟨h, rfl⟩
theorem one_of_cells {x c : AV} (h : x.cells = [c]) (ha : x.isAgg = false) : x = c := by
  cases x <;> first | (simp [AV.isAgg] at ha; done) | (simp [AV.cells] at h; exact h)
theorem WtV_int (k : IntKind) (x : AV) : WtV (.int k) x ↔ ∃ n, x = .int k n ∧ k.min ≤ n ∧ n ≤ k.max := by
  constructor
  · rintro ⟨⟨n, h1, h3⟩, h2⟩; exact ⟨n, one_of_cells h1 h2, h3⟩
  · rintro ⟨n, rfl, h⟩; exact ⟨⟨n, rfl, h⟩, rfl⟩
theorem WtV_bool (x : AV) : WtV .bool x ↔ ∃ b, x = .bool b := by
  constructor
  · rintro ⟨⟨n, h1⟩, h2⟩; exact ⟨n, one_of_cells h1 h2⟩
  · rintro ⟨n, rfl⟩; exact ⟨⟨n, rfl⟩, rfl⟩
theorem WtV_str (x : AV) : WtV .str x ↔ ∃ s, x = .str s ∧ s.size ≤ maxLen := by
  constructor
  · rintro ⟨⟨n, h1, h3⟩, h2⟩; exact ⟨n, one_of_cells h1 h2, h3⟩
  · rintro ⟨n, rfl, h⟩; exact ⟨⟨n, rfl, h⟩, rfl⟩
theorem WtV_sl (e : Ty) (x : AV) : WtV (.sl e) x ↔ ∃ xs, x = .sl xs false ∧ xs.length ≤ maxLen ∧ ∀ y ∈ xs, WtV e y := by
  constructor
  · rintro ⟨⟨n, h1, h3⟩, h2⟩; exact ⟨n, one_of_cells h1 h2, h3⟩
  · rintro ⟨n, rfl, h⟩; exact ⟨⟨n, rfl, h⟩, rfl⟩
theorem WtL_nil (cs : List AV) : WtL [] cs ↔ cs = [] := Iff.rfl
theorem WtL_int (k : IntKind) (fs : List Ty) (cs : List AV) : WtL (.int k :: fs) cs ↔ ∃ n r, cs = .int k n :: r ∧ (k.min ≤ n ∧ n ≤ k.max) ∧ WtL fs r := by
  constructor
  · rintro ⟨a, b, rfl, ⟨n, rfl, h⟩, h2⟩; exact ⟨n, b, rfl, h, h2⟩
  · rintro ⟨n, r, rfl, h, h2⟩; exact ⟨[.int k n], r, rfl, ⟨n, rfl, h⟩, h2⟩
theorem WtL_bool (fs : List Ty) (cs : List AV) : WtL (.bool :: fs) cs ↔ ∃ n r, cs = .bool n :: r ∧ WtL fs r := by
  constructor
  · rintro ⟨a, b, rfl, ⟨n, rfl⟩, h2⟩; exact ⟨n, b, rfl, h2⟩
  · rintro ⟨n, r, rfl, h2⟩; exact ⟨[.bool n], r, rfl, ⟨n, rfl⟩, h2⟩
theorem WtL_str (fs : List Ty) (cs : List AV) : WtL (.str :: fs) cs ↔ ∃ n r, cs = .str n :: r ∧ n.size ≤ maxLen ∧ WtL fs r := by
  constructor
  · rintro ⟨a, b, rfl, ⟨n, rfl, h⟩, h2⟩; exact ⟨n, b, rfl, h, h2⟩
  · rintro ⟨n, r, rfl, h, h2⟩; exact ⟨[.str n], r, rfl, ⟨n, rfl, h⟩, h2⟩
theorem WtL_sl (e : Ty) (fs : List Ty) (cs : List AV) : WtL (.sl e :: fs) cs ↔ ∃ xs r, cs = .sl xs false :: r ∧ (xs.length ≤ maxLen ∧ ∀ y ∈ xs, WtV e y) ∧ WtL fs r := by
  constructor
  · rintro ⟨a, b, rfl, ⟨n, rfl, h⟩, h2⟩; exact ⟨n, b, rfl, h, h2⟩
  · rintro ⟨n, r, rfl, h, h2⟩; exact ⟨[.sl n false], r, rfl, ⟨n, rfl, h⟩, h2⟩
theorem WtL_st (gs fs : List Ty) (cs : List AV) : WtL (.st gs :: fs) cs ↔ ∃ a b, cs = a ++ b ∧ WtL gs a ∧ WtL fs b := Iff.rfl

/-- The end of a function that touches nothing. -/
def endQ (rs : List ARes) (r : AV) (A : AHeap) : Ex → St → Prop
  | .normal, s | .ret, s => optW (resultsA s rs) fun v => A.le s.A ∧ v = r
  | _, _ => False

theorem Q_code (hS : Quiet P S) (hm : P.follows .mixedOrders = true) {f : FuncId} {nargs : Nat} {q : FuncId → Bool} {hints : List Hint} {c : AC} {rs : List ARes} (h : acLin P f nargs q hints = some (c, rs))
    {args : List AV} (ha : args.length = nargs) {A : AHeap} {r : AV} (vc : wpc P S c (initSt args A) (endQ rs r A)) : T P f args A fun r' A' => r' = r ∧ A' = A := by
  refine T_code hS hm h ha (wpc_mono c (fun e s k => ?_) _ vc)
  cases e with
  | exit id => exact k
  | _ =>
    simp only [endQ, optW_iff] at k
    obtain ⟨v, h0, h1, rfl⟩ := k
    simp only [endW, optW_iff]
    exact ⟨v, h0, A, h1, rfl, rfl⟩

/-- A loop by its invariant. -/
theorem wpLoop_of {f : St → (Ex → St → Prop) → Prop} {s : St} {Q : Ex → St → Prop} {h : Hold f} {k : Hold Q} (I : St → Prop) (μ : St → Nat) (h0 : I s) (hr : ∀ s1, I s1 → f s1 fun e s' => match e with
    | .normal => I s' ∧ μ s' < μ s1
    | e => Q e s') : wpLoop f s Q h k := ⟨I, μ, h0, hr⟩

end Go.Proofs.YtllahdjejcideaaAi
