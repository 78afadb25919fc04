/- The abstract code of a function out of its code; that operations that do nothing to memory compute what the abstract ones do. -/
import Derived.Test.YtllahdjejcideaaAiC
namespace Go.Proofs.YtllahdjejcideaaAi
open Go Go.RowKit
set_option linter.unusedVariables false
set_option linter.unusedSimpArgs false

/-! ### out of the code -/
def ccVal1 : Value → Option AV
  | .bool b => some (.bool b)
  | .int k n => some (.int k n)
  | .string s => some (.str s)
  | .pointer none => some .nilp
  | .slice none 0 0 => some (.sl [] true)
  | .nilFunc => some .nilf
  | .nilIface => some .nili
  | _ => none
def ccVal : Value → Option AV
  | .agg cs => (cs.toList.mapM ccVal1).map .agg
  | v => ccVal1 v
def ccOpd : Operand → Option Opd
  | .tmp n => some (.t n)
  | .const v => (ccVal v).map .c
  | .func f => some (.c (.fn f []))
  | .global _ => none
def ccOpds (xs : Array Operand) : Option (List Opd) := xs.toList.mapM ccOpd
def ccOpt : Option Operand → Option (Option Opd)
  | none => some none
  | some x => (ccOpd x).map some
def aggT (P : Program) (t : TypeId) : Option Bool := (P.underlying t).map fun | .struct _ | .array _ _ => true | _ => false
def szT (P : Program) (t : TypeId) : Option Nat := (P.info? t).map (·.size)
def byT (P : Program) (t : TypeId) : Option Nat := (P.info? t).map (·.bytes)
def zeroT (P : Program) (t : TypeId) : Option (List AV) := ((P.info? t).bind (·.zero)).bind fun z => z.cells.toList.mapM ccVal1
def elT (P : Program) (t : TypeId) : Option TypeId := match P.underlying t with | some (.slice e) => some e | _ => none
def isU8 (P : Program) (t : TypeId) : Bool := match P.underlying t with | some (.int .u8) => true | _ => false
def isStr (P : Program) (t : TypeId) : Bool := match P.underlying t with | some .string => true | _ => false
/-- The kinds of the cells of a type of plain data whose '==' goes cell by cell. -/
def kindsT (P : Program) : Nat → TypeId → Option (List Kd)
  | 0, _ => none
  | d + 1, t => match P.underlying t with
    | some .bool => if szT P t = some 1 then some [.b] else none
    | some (.int k) => if szT P t = some 1 then some [.i k] else none
    | some .string => if szT P t = some 1 then some [.s] else none
    | some (.struct fs) => if P.stoodInHeld t = false then (fs.toList.foldlM (fun (acc : List Kd) f => if f.name ≠ "_" ∧ f.offset = acc.length then (kindsT P d f.type).bind fun ks => if szT P f.type = some ks.length then some (acc ++ ks) else none else none) []) else none
    | _ => none

def ccOp (P : Program) : Op → Option AOp
  | .move x | .assign x => (ccOpd x).map .mv
  | .pick c a b => (ccOpd c).bind fun c => (ccOpd a).bind fun a => (ccOpd b).map fun b => .pick c a b
  | .extract x i => (ccOpd x).map fun x => .ext x i
  | .binOp op t x y _ => (ccOpd x).bind fun x => (ccOpd y).bind fun y =>
    (match op with
     | .eql => some (some false)
     | .neq => some (some true)
     | _ => some none).bind fun (eq : Option Bool) =>
    match eq with
    | none => some (.bin op x y)
    | some neg => match P.underlying t with
      | some (.int _) | some .string => some (.bin op x y)
      | some .bool => some (.eqb neg x y)
      | some (.struct _) => if P.eqGuardType P.depth t = false then (kindsT P 20 t).map fun ks => .eqs neg ks x y else none
      | some (.slice _) => (match y with | .c (.sl [] true) => some (.eqn neg x) | _ => none)
      | some (.interface _) => (match y with | .c .nili => some (.eqi neg x) | _ => none)
      | _ => none
  | .unOp op _ x => (ccOpd x).map fun x => .un op x
  | .convert s d x =>
    match P.underlying s, P.underlying d with
    | some (.int _), some (.int k) => (ccOpd x).map fun x => .conv k x
    | some .string, some .string => (ccOpd x).map fun x => .cstr x
    | some (.slice e), some .string => if isU8 P e = true then (ccOpd x).map fun x => .b2s x else none
    | _, _ => none
  | .fieldAddr t x f =>
    match P.underlying t with
    | some (.struct fs) => (fs[f]?).bind fun fd => if ((szT P fd.type).getD 0) = 0 then none else (ccOpd x).map fun x => .fad x fd.offset
    | _ => none
  | .field t x f =>
    match P.underlying t with
    | some (.struct fs) => (fs[f]?).bind fun fd => (szT P fd.type).bind fun n => (aggT P fd.type).bind fun g => (ccOpd x).map fun x => .fld x fd.offset n g
    | _ => none
  | .indexAddr t x i => (elT P t).bind fun e => (szT P e).bind fun n => (ccOpd x).bind fun x => (ccOpd i).map fun i => .iad n x i
  | .index t x i => if isStr P t = true then (ccOpd x).bind fun x => (ccOpd i).map fun i => .idx x i else none
  | .nilCheck x => (ccOpd x).map .nilc
  | .makeFunc (.func f) first captured => if first.size = 0 then (ccOpds captured).map fun cs => .mkf f cs else none
  | .slice t x lo hi mx =>
    if isStr P t = true then (match mx with | none => (ccOpd x).bind fun x => (ccOpt lo).bind fun lo => (ccOpt hi).map fun hi => .sls x lo hi | some _ => none)
    else if (mx.isSome && !hi.isSome) = true then none else (elT P t).bind fun e => (szT P e).bind fun n => (ccOpd x).bind fun x => (ccOpt lo).bind fun lo => (ccOpt hi).bind fun hi => (ccOpt mx).map fun mx => .sli n x lo hi mx
  | .build t parts =>
    match P.underlying t with
    | some (.struct fs) => (fs.toList.mapM fun f => (szT P f.type).map fun n => (f.offset, n)).bind fun (places : List (Nat × Nat)) => (zeroT P t).bind fun z =>
        (parts.toList.mapM fun (p : Nat × Operand) => (places[p.1]?).bind fun pl => (ccOpd p.2).map fun x => (pl.1, pl.2, x)).map fun ps => .bld z ps
    | _ => none
  | .buildSlice t len parts => (elT P t).bind fun e => (szT P e).bind fun n => (zeroT P e).bind fun z =>
      if z.length = n ∧ n ≠ 0 ∧ len * n ≤ 16777216 then (parts.toList.mapM fun (p : Nat × Operand) => (ccOpd p.2).map fun x => (p.1, x)).map fun ps => .bsl n len z ps else none
  | .makeSlice t l c => (elT P t).bind fun e => (szT P e).bind fun n => (byT P e).bind fun by_ => (zeroT P e).bind fun z =>
      if z.length = n then (ccOpd l).bind fun l => (ccOpd c).map fun c => .mks n by_ z l c else none
  | .load t x => (szT P t).bind fun n => (aggT P t).bind fun g => (ccOpd x).map fun x => .ld x n g
  | .store t x v => (szT P t).bind fun n => (ccOpd x).bind fun x => (ccOpd v).map fun v => .st x n v
  | .alloc t => (zeroT P t).map .alloc
  | .box t x => (szT P t).bind fun n => (ccOpd x).map fun x => .box n x
  | .call { callee := .value f, args, .. } => (ccOpd f).bind fun f => (ccOpds args).map fun as => .call f as
  | .call { callee := .builtin b, args, argTypes } =>
    match b, args.toList, argTypes.toList with
    | .len, [x], [t] => if isStr P t = true then (ccOpd x).map .lens else if (elT P t).isSome = true then (ccOpd x).map .len else none
    | .append, [s, x], [t, u] => (elT P t).bind fun e => (elT P u).bind fun _ => (szT P e).bind fun n => (byT P e).bind fun by_ => (zeroT P e).bind fun z =>
        if z.length = n ∧ n ≠ 0 then (ccOpd s).bind fun s => (ccOpd x).map fun x => .app n by_ s x else none
    | .copy, [d, x], [t, u] => (elT P t).bind fun e => (elT P u).bind fun _ => (szT P e).bind fun n => if n = 0 then none else (ccOpd d).bind fun d => (ccOpd x).map fun x => .cpy n d x
    | .clear, [x], [t] => (elT P t).bind fun e => (szT P e).bind fun n => (zeroT P e).bind fun z => if z.length = n then (ccOpd x).map fun x => .clr n z x else none
    | .max, [x, y], _ => (ccOpd x).bind fun x => (ccOpd y).map fun y => .max x y
    | .min, [x, y], _ => (ccOpd x).bind fun x => (ccOpd y).map fun y => .min x y
    | _, _, _ => none
  | _ => none

/-- An operation that has no abstract one is `bad`. -/
def ccOper (P : Program) (ops : Array Oper) (o : Oper) : Option AOper :=
  (match o.guard with
    | none => some none
    | some (j, want) => (ops[j]?).bind fun p => p.dst.map fun d => some (d, want)).map fun g =>
  { dst := o.dst, op := (ccOp P o.op).getD .bad, guard := g }

def depsOf (o : Oper) : List Nat := (o.after.toList.filter fun e => Region.binds .any e).map (·.on)

def ccCode (P : Program) : Code → Option AC
  | .skip => some .skip
  | .region _ ops false => (ops.toList.mapM (ccOper P ops)).map .reg
  | .region _ ops true => (ops.toList.mapM fun o => (ccOper P ops o).map fun a => (a, depsOf o)).map .draw
  | .seq a b => (ccCode P a).bind fun a => (ccCode P b).map fun b => .seq a b
  | .cond c x y => (ccOpd c).bind fun c => (ccCode P x).bind fun x => (ccCode P y).map fun y => .cond c x y
  | .block id c => (ccCode P c).map fun c => .block id c
  | .loop c => (ccCode P c).map .loop
  | .exit id => some (.exit id)
  | .ret => some .ret
  | _ => some .bad

def ccRes (P : Program) : ResultVar → Option ARes
  | .tmp t => some (.tmp t)
  | .cell a t => (szT P t).bind fun n => (aggT P t).map fun g => .cell a n g

theorem rep_undef (σ : Sg) : Rep σ (.tup []) undef := .tup [] [] rfl (by simp)

theorem mapM_some_length {α β : Type} (f : α → Option β) : ∀ (l : List α) (r : List β), l.mapM f = some r → r.length = l.length ∧ ∀ (i : Nat) (x : α), l[i]? = some x → ∃ y, r[i]? = some y ∧ f x = some y
  | [], r, h => by
    simp at h
    subst h
    exact ⟨rfl, by simp⟩
  | a :: l, r, h => by
    rw [List.mapM_cons] at h
    cases ha : f a with
    | none => simp [ha] at h
    | some y =>
      cases hl : l.mapM f with
      | none => simp [ha, hl] at h
      | some ys =>
        simp [ha, hl] at h
        subst h
        obtain ⟨h1, h2⟩ := mapM_some_length f l ys hl
        refine ⟨by simp [h1], fun i x hx => ?_⟩
        cases i with
        | zero => simp at hx; subst hx; exact ⟨y, rfl, ha⟩
        | succ i => exact h2 i x (by simpa using hx)

theorem ccVal1_rep {σ : Sg} {v : Value} {x : AV} (h : ccVal1 v = some x) : Rep σ x v ∧ v.oneCell' = true ∧ x.one = true := by
  unfold ccVal1 at h
  split at h <;> first | (obtain rfl := Option.some.inj h) | (cases h)
  · exact ⟨.bool _, rfl, rfl⟩
  · exact ⟨.int _ _, rfl, rfl⟩
  · exact ⟨.str _, rfl, rfl⟩
  · exact ⟨.nilp, rfl, rfl⟩
  · exact ⟨.slnil true none 0 (fun _ => rfl) (Nat.zero_le _) (fun _ => rfl), rfl, rfl⟩
  · exact ⟨.nilf, rfl, rfl⟩
  · exact ⟨.nili, rfl, rfl⟩

theorem ccVals_rep {σ : Sg} {vs : List Value} {xs : List AV} (h : vs.mapM ccVal1 = some xs) : RepL σ xs vs ∧ ∀ v ∈ vs, v.oneCell' = true := by
  obtain ⟨hl, hr⟩ := mapM_some_length _ _ _ h
  refine ⟨⟨hl, fun i c v hc hv => ?_⟩, fun v hv => ?_⟩
  · obtain ⟨y, hy, hf⟩ := hr i v hv
    rw [hy] at hc
    obtain rfl := Option.some.inj hc
    exact (ccVal1_rep hf).1
  · obtain ⟨i, hi⟩ := List.getElem?_of_mem hv
    obtain ⟨y, hy, hf⟩ := hr i v hi
    exact (ccVal1_rep (σ := σ) hf).2.1

theorem ccVal_rep {σ : Sg} {v : Value} {x : AV} (h : ccVal v = some x) : Rep σ x v := by
  unfold ccVal at h
  split at h
  · rename_i cs
    cases hm : cs.toList.mapM ccVal1 with
    | none => simp [hm] at h
    | some xs =>
      simp [hm] at h
      subst h
      obtain ⟨h1, h2⟩ := ccVals_rep (σ := σ) hm
      have := Rep.agg (σ := σ) xs cs.toList h1.1 h2 h1.2
      simpa using this
  · exact (ccVal1_rep h).1

theorem ev_rep {B : Nat → Prop} {n : Nat} {w0 w : World} {σ : Sg} {s : St} {a : Act} (hs : SimSt B w0 n σ s a w) {x : Operand} {y : Opd} (h : ccOpd x = some y) : Rep σ (s.ev y) (a.eval x) := by
  cases x with
  | tmp t => simp [ccOpd] at h; subst h; exact hs.tmps t
  | const v =>
    simp [ccOpd] at h
    obtain ⟨z, hz, rfl⟩ := h
    exact ccVal_rep hz
  | func f => simp [ccOpd] at h; subst h; exact .fn f [] [] rfl (by simp)
  | global g => simp [ccOpd] at h

theorem evs_rep {B : Nat → Prop} {n : Nat} {w0 w : World} {σ : Sg} {s : St} {a : Act} (hs : SimSt B w0 n σ s a w) {xs : Array Operand} {ys : List Opd} (h : ccOpds xs = some ys) : RepL σ (ys.map s.ev) (xs.toList.map a.eval) := by
  obtain ⟨hl, hr⟩ := mapM_some_length _ _ _ h
  refine ⟨by simp [hl], fun i c v hc hv => ?_⟩
  simp only [List.getElem?_map, Option.map_eq_some_iff] at hc hv
  obtain ⟨y, hy, rfl⟩ := hc
  obtain ⟨x, hx, rfl⟩ := hv
  obtain ⟨y', hy', hf⟩ := hr i x hx
  rw [hy] at hy'
  obtain rfl := Option.some.inj hy'
  exact ev_rep hs hf

theorem SimSt.put {B : Nat → Prop} {n : Nat} {w0 w : World} {σ : Sg} {s : St} {a : Act} (hs : SimSt B w0 n σ s a w) {x : AV} {v : Value} (hr : Rep σ x v) (d : Option Nat) (hd : ∀ i, d = some i → i < n) :
    SimSt B w0 n σ (s.put d x) (a.put d v) w := by
  cases d with
  | none => exact hs
  | some d =>
    have hlt := hd d rfl
    refine ⟨hs.sim, fun t => ?_, by simp [Act.put, hs.size], hs.defers, hs.below⟩
    simp only [St.put, putT, Act.put]
    by_cases ht : t = d
    · subst ht
      have : t < a.tmps.size := by rw [hs.size]; exact hlt
      simpa [this] using hr
    · have : d ≠ t := fun e => ht e.symm
      simpa [ht, Array.getElem?_setIfInBounds_ne this] using hs.tmps t

/-- The same state, seen with more knowledge, another heap and another world. -/
theorem SimSt.move {B : Nat → Prop} {n : Nat} {w0 w w' : World} {σ σ' : Sg} {s : St} {a : Act} (hs : SimSt B w0 n σ s a w) (hle : σ.Le σ') {A' : AHeap} (hsim : Sim B σ' A' w') (hb : Keeps B w0 w') :
    SimSt B w0 n σ' { s with A := A' } a w' := ⟨hsim, fun t => (hs.tmps t).mono hle, hs.size, hs.defers, hb⟩

end Go.Proofs.YtllahdjejcideaaAi
