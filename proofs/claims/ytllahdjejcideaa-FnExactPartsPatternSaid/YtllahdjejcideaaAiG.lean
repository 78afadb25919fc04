/- Each operation that does nothing to memory. -/
import Derived.Test.YtllahdjejcideaaAiF
namespace Go.Proofs.YtllahdjejcideaaAi
open Go Go.RowKit
set_option linter.unusedVariables false
set_option linter.unusedSimpArgs false

variable {P : Program} {σ : Sg} {w : World}

theorem guard_int (op : BinOp) (t : TypeId) (xo yo : Operand) (k k' : IntKind) (a b : Int) : (eqGuard op t xo yo (.int k a) (.int k' b)).run P w = .ok () w := by cases op <;> rfl
theorem guard_str (op : BinOp) (t : TypeId) (xo yo : Operand) (a b : ByteArray) : (eqGuard op t xo yo (.string a) (.string b)).run P w = .ok () w := by cases op <;> rfl
theorem guard_bool (op : BinOp) (t : TypeId) (xo yo : Operand) (a b : Bool) : (eqGuard op t xo yo (.bool a) (.bool b)).run P w = .ok () w := by cases op <;> rfl
theorem intBin_run {op : BinOp} {k : IntKind} {a b : Int} {r : AV} (h : intBin op k a b = some r) (t : TypeId) : ∃ q, (binOp op t (.int k a) (.int k b)).run P w = .ok q w ∧ Rep σ r q := by
  cases op <;> simp only [intBin] at h <;> first
    | (cases h; done)
    | (obtain rfl := Option.some.inj h
       first
       | exact ⟨.int k _, by simp only [binOp, ne_eq, not_true_eq_false, if_false]; rfl, .int _ _⟩
       | exact ⟨.bool _, by simp only [binOp, ne_eq, not_true_eq_false, if_false]; rfl, .bool _⟩)
    | (split at h
       · cases h
       · rename_i h0
         obtain rfl := Option.some.inj h
         exact ⟨.int k _, by simp [binOp, Op.intDiv, h0], .int _ _⟩)

theorem bin_run {op : BinOp} {x y r : AV} {u v : Value} (hx : Rep σ x u) (hy : Rep σ y v) (h : binA op x y = some r) (t : TypeId) (xo yo : Operand) :
    ∃ q, (do eqGuard op t xo yo u v; binOp op t u v : Sem Value).run P w = .ok q w ∧ Rep σ r q := by
  unfold binA at h
  split at h
  · rename_i k a k' b
    split at h <;> simp at h
    rename_i hb
    subst h
    cases hx; cases hy
    refine ⟨_, ?_, .int _ _⟩
    have hb' : ¬ b < 0 := hb
    simp only [Sem.run_bind, guard_int, Result.andThen_ok, binOp, Op.shift, if_neg hb', Sem.run_pure]
  · rename_i k a k' b
    split at h <;> simp at h
    rename_i hb
    subst h
    cases hx; cases hy
    refine ⟨_, ?_, .int _ _⟩
    have hb' : ¬ b < 0 := hb
    simp only [Sem.run_bind, guard_int, Result.andThen_ok, binOp, Op.shift, if_neg hb', Sem.run_pure]
  · rename_i op' k a k' b hshl hshr
    split at h
    · rename_i hk
      subst hk
      cases hx; cases hy
      simp only [Sem.run_bind, guard_int, Result.andThen_ok]
      exact intBin_run h t
    · cases h
  · rename_i a b
    split at h <;> simp at h
    rename_i hz
    subst h
    cases hx; cases hy
    refine ⟨_, ?_, .str _⟩
    have : ¬ (((a.size + b.size : Nat) : Int) > IntKind.i64.max) := by
      have : IntKind.i64.max = 9223372036854775807 := rfl
      omega
    simp only [Sem.run_bind, guard_str, Result.andThen_ok, binOp, Op.stringOp, if_neg this, Sem.run_pure]
  · rename_i a b
    simp at h
    subst h
    cases hx; cases hy
    refine ⟨_, ?_, .bool _⟩
    simp only [Sem.run_bind, guard_str, Result.andThen_ok, binOp, Op.stringOp, Sem.run_pure, beq_toListBytes]
  · rename_i a b
    simp at h
    subst h
    cases hx; cases hy
    refine ⟨_, ?_, .bool _⟩
    simp only [Sem.run_bind, guard_str, Result.andThen_ok, binOp, Op.stringOp, Sem.run_pure]
    simp [bne, beq_toListBytes]
  · cases h

theorem un_run {op : UnOp} {x r : AV} {u : Value} (hx : Rep σ x u) (h : unA op x = some r) : ∃ q, (Op.unary op u).run P w = .ok q w ∧ Rep σ r q := by
  unfold unA at h
  split at h <;> first | (cases h; done) | (obtain rfl := Option.some.inj h; cases hx)
  · exact ⟨_, by simp [Op.unary], .bool _⟩
  · exact ⟨.int _ _, rfl, .int _ _⟩
  · exact ⟨.int _ _, rfl, .int _ _⟩

theorem eqb_run {neg : Bool} {a b : Bool} (t : TypeId) (hu : P.underlying t = some .bool) (xo yo : Operand) (op : BinOp) (ho : op = if neg = true then .neq else .eql) :
    (do eqGuard op t xo yo (.bool a) (.bool b); binOp op t (.bool a) (.bool b) : Sem Value).run P w = .ok (.bool (if neg = true then a != b else a == b)) w := by
  subst ho
  simp only [Sem.run_bind, guard_bool, Result.andThen_ok]
  cases neg
  · simp only [Bool.false_eq_true, if_false, binOp, Sem.run_bind, run_equal_bool w t a b hu, Result.andThen_ok, Sem.run_pure]
  · simp only [if_true, binOp, Sem.run_bind, run_equal_bool w t a b hu, Result.andThen_ok, Sem.run_pure]
    rfl

theorem eqs_run {neg : Bool} {xs ys : List AV} {ks : List Kd} {us vs : List Value} {r : Bool} (t : TypeId) {fs : Array Field} (hu : P.underlying t = some (.struct fs)) (hk : kindsT P 20 t = some ks)
    (hg : P.eqGuardType P.depth t = false) (hx : RepL σ xs us) (hy : RepL σ ys vs) (he : cellsEq ks xs ys = some r) (xo yo : Operand) (op : BinOp) (ho : op = if neg = true then .neq else .eql) :
    (do eqGuard op t xo yo (.agg us.toArray) (.agg vs.toArray); binOp op t (.agg us.toArray) (.agg vs.toArray) : Sem Value).run P w = .ok (.bool (if neg = true then !r else r)) w := by
  have h1 := eq_run 20 t ks xs ys us vs r true w hk hx hy he (by unfold aggT; rw [hu]; rfl) 10000 (by omega)
  simp only [mkVal, if_true] at h1
  have h2 : (Op.equal t (.agg us.toArray) (.agg vs.toArray)).run P w = .ok r w := h1
  have h3 : (eqGuard op t xo yo (.agg us.toArray) (.agg vs.toArray)).run P w = .ok () w := by
    cases op <;> first | rfl | simp [eqGuard, hg]
  subst ho
  simp only [Sem.run_bind, h3, Result.andThen_ok]
  cases neg
  · simp only [Bool.false_eq_true, if_false, binOp, Sem.run_bind, h2, Result.andThen_ok, Sem.run_pure]
  · simp only [if_true, binOp, Sem.run_bind, h2, Result.andThen_ok, Sem.run_pure]

theorem fieldAt_run {p q : AV} {v : Value} {t : TypeId} {fs : Array Field} {f : Nat} {fd : Field} (hp : Rep σ p v) (hu : P.underlying t = some (.struct fs)) (hf : fs[f]? = some fd) (hz : ¬ ((szT P fd.type).getD 0) = 0)
    (e : p.addOff fd.offset = some q) : ∃ u, (Instr.fieldAt t v f).run P w = .ok u w ∧ Rep σ q u := by
  obtain ⟨ad, rfl, hsp, hq⟩ := addOff_rep hp e
  cases hn : szT P fd.type with
  | none => simp [hn] at hz
  | some n =>
    have hn0 : n ≠ 0 := by simpa [hn] using hz
    refine ⟨_, ?_, hq⟩
    simp only [Instr.fieldAt, Sem.run_bind, run_underlying hu, Result.andThen_ok, hf, Instr.sureAddr, Sem.run_pure, fieldPlace, run_sizeOf hn, if_neg hn0]
    rw [← addr_eta hsp, add_plain]

theorem field_run {x : AV} {v : Value} {t : TypeId} {fs : Array Field} {f n : Nat} {fd : Field} {g : Bool} {cs : List AV} {r : AV} (hx : Rep σ (.agg cs) v) (hu : P.underlying t = some (.struct fs)) (hf : fs[f]? = some fd)
    (hn : szT P fd.type = some n) (hg : aggT P fd.type = some g)
    (e : (if g = true then (if fd.offset + n ≤ cs.length then some (AV.agg ((cs.drop fd.offset).take n)) else none) else cs[fd.offset]?) = some r) : ∃ u, (Instr.field t v f).run P w = .ok u w ∧ Rep σ r u := by
  cases hx with
  | agg cs vs hl h1 hr =>
    simp only [Instr.field, Sem.run_bind, run_underlying hu, Result.andThen_ok, hf, asAgg, Sem.run_pure]
    by_cases hgt : g = true
    · subst hgt
      simp only [if_true] at e
      split at e <;> simp at e
      rename_i hfit
      subst e
      rw [run_part P w fd.type n true hn hg vs fd.offset (by omega) (by simp)]
      have hd := (RepL.drop ⟨hl, hr⟩ fd.offset).take n
      exact ⟨_, rfl, by simp only [mkVal, if_true]; exact .agg _ _ hd.1 (fun u hu' => h1 u (List.mem_of_mem_drop (List.mem_of_mem_take hu'))) hd.2⟩
    · rw [if_neg hgt] at e
      simp at hgt
      subst hgt
      have hlt : fd.offset < vs.length := by rw [← hl]; exact (List.getElem?_eq_some_iff.1 e).1
      refine ⟨vs[fd.offset], ?_, hr _ _ _ e (List.getElem?_eq_getElem hlt)⟩
      simp [part, run_isAgg hg, hlt]

end Go.Proofs.YtllahdjejcideaaAi
