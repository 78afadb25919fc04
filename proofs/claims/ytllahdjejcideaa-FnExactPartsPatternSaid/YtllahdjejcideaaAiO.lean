/- Every operation does what its condition says. -/
import Derived.Test.YtllahdjejcideaaAiN
namespace Go.Proofs.YtllahdjejcideaaAi
open Go Go.RowKit
set_option linter.unusedVariables false
set_option linter.unusedSimpArgs false

variable {P : Program} {S : Spec} {σ : Sg} {w : World}

/-- Operations that are not `pureOp`s. -/
def isSp : AOp → Bool
  | .st _ _ _ | .alloc _ | .box _ _ | .bsl _ _ _ _ | .mks _ _ _ _ _ | .app _ _ _ _ | .cpy _ _ _ | .clr _ _ _ | .call _ _ | .callq _ _ | .calle _ _ _ | .bad | .eqn _ _ | .eqi _ _ => true
  | _ => false
def spOp : Op → Bool
  | .store .. | .alloc .. | .box .. | .buildSlice .. | .makeSlice .. | .call .. | .binOp .. => true
  | _ => false

theorem opW_pure {s : St} {op : AOp} {K : AV → AHeap → Prop} (hp : isSp op = false) (h : opW P S s op K) : ∃ r, pureOp s op = some r ∧ K r s.A := by
  cases op <;> first
    | (cases hp; done)
    | (simp only [opW] at h
       exact optW_iff.1 h)

theorem map_sp {p : AOp → Bool} {α : Type} {x : Option α} {f : α → AOp} {op0 : AOp} (h : x.map f = some op0) (hf : ∀ y, p (f y) = false) (hsp : p op0 = true) : False := by
  obtain ⟨y, _, rfl⟩ := Option.map_eq_some_iff.1 h
  rw [hf y] at hsp
  cases hsp
theorem bind_sp {α : Type} {x : Option α} {f : α → Option AOp} {op0 : AOp} (h : x.bind f = some op0) (hf : ∀ y, f y = some op0 → False) : False := by
  obtain ⟨y, _, h⟩ := Option.bind_eq_some_iff.1 h
  exact hf y h

theorem cc_sp {op : Op} {op0 : AOp} (hc : ccOp P op = some op0) (hsp : isSp op0 = true) : spOp op = true := by
  cases op <;> first
    | rfl
    | (exfalso
       simp only [ccOp] at hc
       repeat' first
         | refine map_sp (p := isSp) hc (fun _ => rfl) hsp
         | refine bind_sp hc fun _ hc => ?_
         | (cases hc; done)
         | contradiction
         | split at hc)

def isCalle : AOp → Bool
  | .calle _ _ _ => true
  | _ => false
theorem cc_calle {op : Op} {op0 : AOp} (hc : ccOp P op = some op0) (hsp : isCalle op0 = true) : False := by
  cases op <;> (
       simp only [ccOp] at hc
       repeat' first
         | refine map_sp (p := isCalle) hc (fun _ => rfl) hsp
         | refine bind_sp hc fun _ hc => ?_
         | (cases hc; done)
         | contradiction
         | (simp only [Option.some.injEq] at hc; subst hc; cases hsp; done)
         | split at hc)

def isEq : AOp → Bool
  | .eqn _ _ | .eqi _ _ => true
  | _ => false
def isBin : Op → Bool
  | .binOp .. => true
  | _ => false
theorem cc_eq {op : Op} {op0 : AOp} (hc : ccOp P op = some op0) (hsp : isEq op0 = true) : isBin op = true := by
  cases op <;> first
    | rfl
    | (exfalso
       simp only [ccOp] at hc
       repeat' first
         | refine map_sp (p := isEq) hc (fun _ => rfl) hsp
         | refine bind_sp hc fun _ hc => ?_
         | (cases hc; done)
         | contradiction
         | split at hc)

theorem nqSp {q : FuncId → Nat} {op : AOp} (h : ∀ f caps args, op ≠ .call (.c (.fn f caps)) args) : quietOp q op = op := by
  unfold quietOp
  split
  · exact absurd rfl (h _ _ _)
  · rfl

theorem ccOpd_const {x : Operand} {v : AV} (h : ccOpd x = some (.c v)) : (∃ f, x = .func f ∧ v = .fn f []) ∨ ∃ u, x = .const u ∧ ccVal u = some v := by
  cases x with
  | tmp t => simp [ccOpd] at h
  | const u => simp [ccOpd] at h; exact .inr ⟨u, rfl, h⟩
  | func f => simp [ccOpd] at h; exact .inl ⟨f, rfl, h.symm⟩
  | global g => simp [ccOpd] at h

theorem ccVal_nili {u : Value} (h : ccVal u = some .nili) : u = .nilIface := by
  unfold ccVal at h
  split at h
  · simp at h
  · unfold ccVal1 at h
    split at h <;> first | rfl | (simp at h)
theorem ccVal_sl {u : Value} (h : ccVal u = some (.sl [] true)) : u = .slice none 0 0 := by
  unfold ccVal at h
  split at h
  · simp at h
  · unfold ccVal1 at h
    split at h <;> first | rfl | (simp at h)

theorem eqn_slice {t e : TypeId} (hu : P.underlying t = some (.slice e)) (ad : Option Addr) (n c : Nat) (neg : Bool) (x y : Operand) :
    (do eqGuard (if neg = true then .neq else .eql) t x y (.slice ad n c) (.slice none 0 0); binOp (if neg = true then .neq else .eql) t (.slice ad n c) (.slice none 0 0) : Sem Value).run P w = .ok (.bool (if neg = true then !ad.isNone else ad.isNone)) w := by
  have h : ∀ d : Nat, (Op.equalIn (d + 1) t (.slice ad n c) (.slice none 0 0)).run P w = .ok ad.isNone w := fun d => by
    cases ad <;> simp [Op.equalIn, run_underlying hu]
  cases neg
  · simp [eqGuard, binOp, Op.equal, Op.maxDepth, h 9999]
  · simp [eqGuard, binOp, Op.equal, Op.maxDepth, h 9999]

theorem eqn_iface {t : TypeId} {ms : Array (String × TypeId)} (hu : P.underlying t = some (.interface ms)) (tp : TypeId) (v : Value) (neg : Bool) (x y : Operand) :
    (do eqGuard (if neg = true then .neq else .eql) t x y (.iface tp v) .nilIface; binOp (if neg = true then .neq else .eql) t (.iface tp v) .nilIface : Sem Value).run P w = .ok (.bool neg) w := by
  have h : ∀ d : Nat, (Op.equalIn (d + 1) t (.iface tp v) .nilIface).run P w = .ok false w := fun d => by
    simp [Op.equalIn, run_underlying hu]
  cases neg
  · simp [eqGuard, binOp, Op.equal, Op.maxDepth, h 9999]
  · simp [eqGuard, binOp, Op.equal, Op.maxDepth, h 9999]

theorem eqn_nili {t : TypeId} {ms : Array (String × TypeId)} (hu : P.underlying t = some (.interface ms)) (neg : Bool) (x : Operand) (u : Value) :
    (do eqGuard (if neg = true then .neq else .eql) t x (.const u) .nilIface .nilIface; binOp (if neg = true then .neq else .eql) t .nilIface .nilIface : Sem Value).run P w = .ok (.bool (!neg)) w := by
  have h : ∀ d : Nat, (Op.equalIn (d + 1) t .nilIface .nilIface).run P w = .ok true w := fun d => by
    simp [Op.equalIn, run_underlying hu]
  cases neg
  · simp [eqGuard, binOp, Op.equal, Op.maxDepth, h 9999]
  · simp [eqGuard, binOp, Op.equal, Op.maxDepth, h 9999]

theorem eq_cc {op : BinOp} {t : TypeId} {x y : Operand} {yt : TypeId} {op0 : AOp} (hc : ccOp P (.binOp op t x y yt) = some op0) (h : isEq op0 = true) :
    ∃ neg x1, op = (if neg = true then .neq else .eql) ∧ ccOpd x = some x1 ∧
      ((∃ e, P.underlying t = some (.slice e) ∧ op0 = .eqn neg x1 ∧ y = .const (.slice none 0 0)) ∨ (∃ ms, P.underlying t = some (.interface ms) ∧ op0 = .eqi neg x1 ∧ y = .const .nilIface)) := by
  simp only [ccOp, Option.bind_eq_some_iff] at hc
  obtain ⟨x1, hx', y', hy', eq, heq, hc⟩ := hc
  cases eq with
  | none => simp only [Option.some.injEq] at hc; subst hc; cases h
  | some neg' =>
    have hop : op = if neg' = true then .neq else .eql := by
      cases op <;> simp at heq <;> subst heq <;> rfl
    refine ⟨neg', x1, hop, hx', ?_⟩
    simp only at hc
    split at hc
    · simp only [Option.some.injEq] at hc; subst hc; cases h
    · simp only [Option.some.injEq] at hc; subst hc; cases h
    · simp only [Option.some.injEq] at hc; subst hc; cases h
    · split at hc
      · obtain ⟨_, _, rfl⟩ := Option.map_eq_some_iff.1 hc; cases h
      · cases hc
    · rename_i e hu
      split at hc
      · simp only [Option.some.injEq] at hc
        obtain ⟨f, _, hf⟩ | ⟨u, rfl, hu'⟩ := ccOpd_const hy'
        · cases hf
        exact .inl ⟨e, hu, hc.symm, by rw [ccVal_sl hu']⟩
      · cases hc
    · rename_i ms hu
      split at hc
      · simp only [Option.some.injEq] at hc
        obtain ⟨f, _, hf⟩ | ⟨u, rfl, hu'⟩ := ccOpd_const hy'
        · cases hf
        exact .inr ⟨ms, hu, hc.symm, by rw [ccVal_nili hu']⟩
      · cases hc
    · cases hc

theorem eqn_sound {B : Nat → Prop} {n : Nat} {w0 : World} {s : St} {a : Act} (hs : SimSt B w0 n σ s a w) {o : Oper} {op0 : AOp} (hc : ccOp P o.op = some op0) (he : isEq op0 = true) {K : AV → AHeap → Prop} (hK : opW P S s op0 K) :
    ∃ r q, (execOp a.eval o).run P w = .ok (.value q) w ∧ Rep σ r q ∧ K r s.A := by
  obtain ⟨dst, op, ty, pos, after, guard⟩ := o
  simp only at hc
  have hsp := cc_eq hc he
  cases op with
  | binOp op t x y yt =>
    obtain ⟨neg, x1, rfl, hx', hh⟩ := eq_cc hc he
    have hr := ev_rep hs hx'
    rcases hh with ⟨e, hu, rfl, rfl⟩ | ⟨ms, hu, rfl, rfl⟩
    · show ∃ r q, (do pure (Next.value (← (do eqGuard _ t x _ (a.eval x) (.slice none 0 0); binOp _ t (a.eval x) (.slice none 0 0) : Sem Value))) : Sem Next).run P w = .ok (.value q) w ∧ Rep σ r q ∧ K r s.A
      generalize a.eval x = v at hr
      simp only [opW] at hK
      obtain ⟨qn, hqn, hK⟩ := optW_iff.1 hK
      cases hb : s.ev x1 <;> simp only [hb, nilOf, Option.some.injEq] at hqn <;> first | (cases hqn; done) | (subst hqn)
      · rename_i xs tt
        rw [hb] at hr
        obtain ⟨ad, n, c, rfl, hn⟩ : ∃ ad n c, v = .slice ad n c ∧ (ad.isNone = true → xs = []) := by
          cases hr
          · exact ⟨_, _, _, rfl, fun _ => rfl⟩
          · exact ⟨_, _, _, rfl, fun h => by simp at h⟩
        exact ⟨_, _, value_run (eqn_slice hu ad n c neg x _), .bool _, hK _ (fun h => by simp [hn h])⟩
      · rw [hb] at hr
        obtain ⟨ad, cap, _, sz, rfl, _⟩ := hr.refInv
        exact ⟨_, _, value_run (eqn_slice hu (some ad) _ cap neg x _), .bool _, hK⟩
    · show ∃ r q, (do pure (Next.value (← (do eqGuard _ t x _ (a.eval x) .nilIface; binOp _ t (a.eval x) .nilIface : Sem Value))) : Sem Next).run P w = .ok (.value q) w ∧ Rep σ r q ∧ K r s.A
      generalize a.eval x = v at hr
      simp only [opW] at hK
      obtain ⟨qn, hqn, hK⟩ := optW_iff.1 hK
      cases hb : s.ev x1 <;> simp only [hb, nilI, Option.some.injEq] at hqn <;> first | (cases hqn; done) | (subst hqn)
      · rw [hb] at hr
        cases hr
        refine ⟨_, _, value_run (eqn_nili hu neg x _), .bool _, ?_⟩
        cases neg <;> exact hK
      · rw [hb] at hr
        cases hr
        refine ⟨_, _, value_run (eqn_iface hu _ _ neg x _), .bool _, ?_⟩
        cases neg <;> exact hK
  | _ => cases hsp

end Go.Proofs.YtllahdjejcideaaAi
