/- The relation between abstract values and the model's memory; the triple of a call; the conditions of code. Definitions alone. -/
import Derived.Test.YtllahdjejcideaaAiA
namespace Go.Proofs.YtllahdjejcideaaAi
open Go Go.RowKit
set_option linter.unusedVariables false
set_option linter.unusedSimpArgs false

/-- What is known of memory for ever: blocks that never change again; the blocks and sizes of names; what was known at first. -/
structure Sg where
  mem : Nat → Option Obj
  nm : Nat → Option (Nat × Nat)
  base : Nat → Option Obj

def Sg.cell (σ : Sg) (b off : Nat) : Option Value :=
  match σ.mem b with
  | some (.cells c _ _) => c[off]?
  | _ => none

structure Sg.Le (σ σ' : Sg) : Prop where
  mem : ∀ b o, σ.mem b = some o → σ'.mem b = some o
  nm : ∀ b x, σ.nm b = some x → σ'.nm b = some x
  base : σ'.base = σ.base

/-- The same of the first names alone. -/
structure Sg.LeN (n : Nat) (σ σ' : Sg) : Prop where
  mem : ∀ b o, σ.mem b = some o → σ'.mem b = some o
  nm : ∀ b x, b < n → σ.nm b = some x → σ'.nm b = some x
  base : σ'.base = σ.base

inductive Rep (σ : Sg) : AV → Value → Prop
  | bool (b : Bool) : Rep σ (.bool b) (.bool b)
  | int (k : IntKind) (n : Int) : Rep σ (.int k n) (.int k n)
  | str (s : ByteArray) : Rep σ (.str s) (.string s)
  | any (v : Value) : Rep σ .any v
  | ptr (b off c sz : Nat) (hn : σ.nm b = some (c, sz)) : Rep σ (.ptr b off) (.pointer (some ⟨c, off, none⟩))
  | slnil (t : Bool) (a : Option Addr) (cap : Nat) (h : t = true → cap = 0) (hc : cap ≤ maxLen) (ha : a = none → cap = 0) : Rep σ (.sl [] t) (.slice a 0 cap)
  | sl (xs : List AV) (t : Bool) (b off s cap : Nat) (val : Nat → Nat → Value)
      (hlen : xs.length ≤ cap) (hcap : cap ≤ maxLen) (ht : t = true → cap = xs.length)
      (hs : ∀ (i : Nat) (x : AV), xs[i]? = some x → x.cells.length = s)
      (hm : ∀ (i : Nat) (x : AV), xs[i]? = some x → ∀ (j : Nat) (c : AV), x.cells[j]? = some c → σ.cell b (off + i * s + j) = some (val i j))
      (hr : ∀ (i : Nat) (x : AV), xs[i]? = some x → ∀ (j : Nat) (c : AV), x.cells[j]? = some c → Rep σ c (val i j))
      (h1 : ∀ (i j : Nat), (val i j).oneCell' = true)
      (hp : ∀ (i : Nat) (x : AV), xs[i]? = some x → ltL 0 x.cells = true) :
      Rep σ (.sl xs t) (.slice (some ⟨b, off, none⟩) xs.length cap)
  | ref (b e o n : Nat) (t : Cp) (ad : Addr) (cap c sz : Nat) (hcap : n ≤ cap) (hm : cap ≤ maxLen) (ht : t = .tight → cap = n)
      (ha : cap ≠ 0 → ad = ⟨c, o * e, none⟩) (hn : σ.nm b = some (c, sz)) (hfit : (o + cap) * e ≤ sz) (hfull : t = .full → (o + cap) * e = sz) :
      Rep σ (.ref b e o n t) (.slice (some ad) n cap)
  | epsl (xs : List AV) (t : Bool) (i off : Nat) (x : AV) (b o : Nat) (val : Nat → Value) (hx : xs[i]? = some x)
      (hm : ∀ (j : Nat) (c : AV), x.cells[j]? = some c → σ.cell b (o + j) = some (val j))
      (hr : ∀ (j : Nat) (c : AV), x.cells[j]? = some c → Rep σ c (val j))
      (h1 : ∀ (j : Nat), (val j).oneCell' = true) (hp : ltL 0 x.cells = true) :
      Rep σ (.ep (.sl xs t) i off) (.pointer (some ⟨b, o + off, none⟩))
  | epref (b e o n : Nat) (t : Cp) (i off c sz : Nat) (hn : σ.nm b = some (c, sz)) : Rep σ (.ep (.ref b e o n t) i off) (.pointer (some ⟨c, (o + i) * e + off, none⟩))
  | fn (f : FuncId) (caps : List AV) (vs : List Value) (hl : caps.length = vs.length) (hr : ∀ (i : Nat) (c : AV) (v : Value), caps[i]? = some c → vs[i]? = some v → Rep σ c v) :
      Rep σ (.fn f caps) (.func (.func f) #[] vs.toArray)
  | nilp : Rep σ .nilp (.pointer none)
  | nilf : Rep σ .nilf .nilFunc
  | nili : Rep σ .nili .nilIface
  | iface (t : TypeId) (v : Value) : Rep σ .iface (.iface t v)
  | agg (cs : List AV) (vs : List Value) (hl : cs.length = vs.length) (h1 : ∀ v ∈ vs, v.oneCell' = true) (hr : ∀ (i : Nat) (c : AV) (v : Value), cs[i]? = some c → vs[i]? = some v → Rep σ c v) :
      Rep σ (.agg cs) (.agg vs.toArray)
  | tup (cs : List AV) (vs : List Value) (hl : cs.length = vs.length) (hr : ∀ (i : Nat) (c : AV) (v : Value), cs[i]? = some c → vs[i]? = some v → Rep σ c v) :
      Rep σ (.tup cs) (.tuple vs.toArray)

def RepL (σ : Sg) (cs : List AV) (vs : List Value) : Prop := cs.length = vs.length ∧ ∀ (i : Nat) (c : AV) (v : Value), cs[i]? = some c → vs[i]? = some v → Rep σ c v

/-- A protected block is as it was. -/
structure Keeps (B : Nat → Prop) (w w' : World) : Prop where
  os : w'.os = w.os
  tape : w'.tape = w.tape
  output : w'.output = w.output
  size : w.heap.size ≤ w'.heap.size
  block : ∀ k, B k → w'.heap[k]? = w.heap[k]?

/-- An owned object: its name's block, which is not protected and not known to stay. -/
def Owns (B : Nat → Prop) (σ : Sg) (w : World) (b : Nat) (cs : List AV) : Prop :=
  ∃ c cur e, σ.nm b = some (c, cur.size) ∧ ¬ B c ∧ σ.mem c = none ∧ w.heap[c]? = some (.cells cur e (0, 0)) ∧ cs.length ≤ cur.size ∧
    ∀ (j : Nat) x, cs[j]? = some x → ∃ v, cur[j]? = some v ∧ Rep σ x v ∧ v.oneCell' = true

structure Sim (B : Nat → Prop) (σ : Sg) (A : AHeap) (w : World) : Prop where
  base : ∀ c, B c → c < w.heap.size
  mem : ∀ b o, σ.mem b = some o → w.heap[b]? = some o
  low : ∀ c o, σ.mem c = some o → σ.base c = some o ∨ ¬ B c
  nm : ∀ b c n, σ.nm b = some (c, n) → b < A.n ∧ ∃ cs e fr, w.heap[c]? = some (.cells cs e fr) ∧ cs.size = n
  tot : ∀ b, b < A.n → ∃ x, σ.nm b = some x
  own : ∀ b cs, A b = some cs → Owns B σ w b cs
  inj : ∀ b b' cs cs' c n n', A b = some cs → A b' = some cs' → σ.nm b = some (c, n) → σ.nm b' = some (c, n') → b = b'

/-- A function with a Go body that a call enters. -/
def Enters (P : Program) (f : FuncId) : Prop := ∃ fn, P.funcs[f]? = some fn ∧ (fn.name == "runtime.NumGoroutine") = false ∧ fn.body.isNone = false

/-- The triple of a call. -/
def T (P : Program) (f : FuncId) (args : List AV) (A : AHeap) (R : AV → AHeap → Prop) : Prop :=
  Enters P f ∧ ∀ (B : Nat → Prop) (w0 : World) (σ : Sg) (w : World) (vs : List Value), Keeps B w0 w → Sim B σ A w → RepL σ args vs →
    Calls P f vs.toArray w fun e w' => ∃ r A' v σ', e = .returned v ∧ R r A' ∧ σ.Le σ' ∧ Sim B σ' A' w' ∧ Rep σ' r v ∧ Keeps B w0 w'

theorem T.mono {P : Program} {f : FuncId} {args : List AV} {A : AHeap} {R R' : AV → AHeap → Prop} (h : T P f args A R) (hr : ∀ r A', R r A' → R' r A') : T P f args A R' :=
  ⟨h.1, fun B w0 σ w vs hb hs ha => (h.2 B w0 σ w vs hb hs ha).mono fun _ _ ⟨r, A', v, σ', he, hR, rest⟩ => ⟨r, A', v, σ', he, hr _ _ hR, rest⟩⟩

/-! ### conditions of operations and code -/

/-- What the simplifier is not to look into. -/
inductive Hold {α : Sort _} (x : α) : Type
  | mk

/-- A call. -/
def callW (P : Program) (f : FuncId) (args : List AV) (A : AHeap) (K : AV → AHeap → Prop) (_ : Hold K := .mk) : Prop := T P f args A K
/-- What there has to be. -/
def optW {α : Type} (x : Option α) (K : α → Prop) (_ : Hold K := .mk) : Prop := match x with
  | some v => K v
  | none => False
theorem optW_some {α : Type} {v : α} {K : α → Prop} {h : Hold K} : optW (some v) K h = K v := rfl
theorem optW_none {α : Type} {K : α → Prop} {h : Hold K} : optW none K h = False := rfl
theorem optW_iff {α : Type} {x : Option α} {K : α → Prop} {h : Hold K} : optW x K h ↔ ∃ v, x = some v ∧ K v := by
  cases x <;> simp [optW]
/-- A choice. -/
def brW (b : Bool) (x y : Prop) (_ : Hold x := .mk) (_ : Hold y := .mk) : Prop := if b = true then x else y
theorem brW_true {x y : Prop} {h : Hold x} {k : Hold y} : brW true x y h k = x := by simp [brW]
theorem brW_false {x y : Prop} {h : Hold x} {k : Hold y} : brW false x y h k = y := by simp [brW]
theorem brW_of {b : Bool} {x y : Prop} {h : Hold x} {k : Hold y} (h1 : b = true → x) (h2 : b = false → y) : brW b x y h k := by
  cases b
  · simpa [brW] using h2 rfl
  · simpa [brW] using h1 rfl
/-- Whether a slice is nil: known, or known to be so only where it is empty. -/
def nilW (q : Option Nat) (K : Bool → Prop) (_ : Hold K := .mk) : Prop := match q with
  | some n => ∀ r, (r = true → n = 0) → K r
  | none => K false

def mostBytes : Nat := 140737488355328

def okIf (c : Bool) : Option Unit := if c = true then some () else none
/-- append: `ys` go in behind a slice. In place where that is sure; else under a new name. -/
def appW (A : AHeap) (esz bytes : Nat) (s : AV) (ys : List AV) (m : Nat) (K : AV → AHeap → Prop) (_ : Hold K := .mk) : Prop :=
  match s with
  | .sl xs t => brW (decide (m = 0)) (K (.sl xs t) A)
      (optW (if t = true then sliceCells A esz (.sl xs t) else none) fun old => (xs.length + m) * (bytes + 1) ≤ mostBytes ∧ K (.ref A.n esz 0 (xs.length + m) .full) (A.push (old ++ ys)))
  | .ref b e o n t => brW (decide (m = 0)) (K (.ref b e o n t) A)
      (optW ((okIf (e == esz)).bind fun _ => A b) fun cs => optW (okIf (decide ((o + n) * esz ≤ cs.length))) fun _ =>
          match t with
          | .full => brW (decide ((o + n + m) * esz ≤ cs.length)) (K (.ref b e o (n + m) .full) (A.set b (setCells cs ((o + n) * esz) ys)))
            (optW (okIf (o == 0)) fun _ => (n + m) * (bytes + 1) ≤ mostBytes ∧ K (.ref A.n esz 0 (n + m) .full) ((A.del b).push (cs.take (n * esz) ++ ys)))
          | .tight => (n + m) * (bytes + 1) ≤ mostBytes ∧ K (.ref A.n esz 0 (n + m) .full) (A.push (((cs.drop (o * esz)).take (n * esz)) ++ ys))
          | .unk => False)
  | _ => False

def newCells (esz n : Nat) (zero : List AV) : List AV := (List.replicate n zero).flatten

/-- What is proved of calls: of those that touch no owned object (q), of others (e). -/
structure Spec where
  q : FuncId → List AV → Option AV
  e : FuncId → List AV → AHeap → Option (AV × AHeap)
structure Quiet (P : Program) (S : Spec) : Prop where
  q : ∀ f args r, S.q f args = some r → ∀ A, T P f args A fun r' A' => r' = r ∧ A' = A
  e : ∀ f args A r A1, S.e f args A = some (r, A1) → T P f args A fun r' A' => r' = r ∧ A' = A1

def calleeOf : AV → Option (FuncId × List AV)
  | .fn f caps => some (f, caps)
  | _ => none

def stG (A : AHeap) (size : Nat) (p v : AV) : Option AHeap := if v.cells.length = size ∧ v.solid = true then stA A p v.cells else none
def intsA : AV → AV → Option (Int × Int)
  | .int _ n, .int _ m => some (n, m)
  | _, _ => none
def cpyG (A : AHeap) (esz : Nat) (d : AV) (ys : List AV) (m : Nat) : Option (Nat × AHeap) :=
  match d with
  | .ref b e o n _ => if e = esz then (A b).bind fun cs => if (o + min n m) * esz ≤ cs.length then some (min n m, A.set b (setCells cs (o * esz) (ys.take (min n m * esz)))) else none else none
  | _ => none
def clrG (A : AHeap) (esz : Nat) (zero : List AV) (x : AV) : Option AHeap :=
  match x with
  | .ref b e o n _ => if e = esz then (A b).bind fun cs => if (o + n) * esz ≤ cs.length then some (A.set b (setCells cs (o * esz) (newCells esz n zero))) else none else none
  | .sl [] _ => some A
  | _ => none
def nilOf : AV → Option (Option Nat)
  | .sl xs _ => some (some xs.length)
  | .ref _ _ _ _ _ => some none
  | _ => none
def nilI : AV → Option Bool
  | .nili => some true
  | .iface => some false
  | _ => none

/-- Loads that a call does not turn. -/
def cksW (A A' : AHeap) : List (AV × Nat × Bool) → Prop
  | [] => True
  | c :: r => ldVar A' c.1 c.2.1 c.2.2 = ldVar A c.1 c.2.1 c.2.2 ∧ cksW A A' r

def opW (P : Program) (S : Spec) (s : St) (op : AOp) (K : AV → AHeap → Prop) : Prop :=
  match op with
  | .st x size v => optW (stG s.A size (s.ev x) (s.ev v)) fun A' => K (.tup []) A'
  | .alloc cs => K (.ptr s.A.n 0) (s.A.push cs)
  | .box size x => (s.ev x).solid = true ∧ K (.ptr s.A.n 0) (s.A.push (s.ev x).cells)
  | .bsl esz len zero parts => optW (fillA (newCells esz len zero) (parts.map fun p => (p.1 * esz, esz, s.ev p.2))) fun cs =>
      brW (len == 0) (K (.sl [] true) (s.A.push cs)) (K (.ref s.A.n esz 0 len .tight) (s.A.push cs))
  | .mks esz bytes zero l c => optW (intsA (s.ev l) (s.ev c)) fun p =>
      0 ≤ p.1 ∧ p.1 = p.2 ∧ p.1 * ((bytes : Int) + 1) ≤ (mostBytes : Int) ∧ K (.ref s.A.n esz 0 p.1.toNat .tight) (s.A.push (newCells esz p.1.toNat zero))
  | .app esz bytes x y => optW (sliceCells s.A esz (s.ev y)) fun ys => optW (s.ev y).len? fun m => appW s.A esz bytes (s.ev x) ys m K
  | .cpy esz d x => optW (sliceCells s.A esz (s.ev x)) fun ys => optW (s.ev x).len? fun m => optW (cpyG s.A esz (s.ev d) ys m) fun p => K (.int .i64 (p.1 : Nat)) p.2
  | .clr esz zero x => optW (clrG s.A esz zero (s.ev x)) fun A' => K (.tup []) A'
  | .call g args => optW (calleeOf (s.ev g)) fun p => callW P p.1 (args.map s.ev ++ p.2) s.A K
  | .callq g args => optW ((calleeOf (s.ev g)).bind fun p => S.q p.1 (looseL (args.map s.ev ++ p.2))) fun r => K r s.A
  | .calle g args cks => optW ((calleeOf (s.ev g)).bind fun p => S.e p.1 (looseL (args.map s.ev ++ p.2)) s.A) fun r => cksW s.A r.2 (cks.map fun c => (s.ev c.1, c.2)) ∧ K r.1 r.2
  | .eqn neg x => optW (nilOf (s.ev x)) fun q => nilW q fun r => K (.bool (if neg = true then !r else r)) s.A
  | .eqi neg x => optW (nilI (s.ev x)) fun r => K (.bool (if neg = true then !r else r)) s.A
  | .bad => False
  | op => optW (pureOp s op) fun v => K v s.A

def wpo (P : Program) (S : Spec) (s : St) (o : AOper) (K : St → Prop) : Prop := opW P S s o.op fun r A' => K ({ s with A := A' }.put o.dst r)

def guardOk (s : St) : Option (Nat × Bool) → Option Bool
  | none => some true
  | some (g, want) => match s.t g with
    | .bool b => some (b == want)
    | .any => none
    | _ => some false

def wpg (P : Program) (S : Spec) (s : St) (o : AOper) (K : St → Prop) : Prop := optW (guardOk s o.guard) fun b => brW b (wpo P S s o K) (K (s.put o.dst (.tup [])))

def wps (P : Program) (S : Spec) : List AOper → St → (St → Prop) → Prop
  | [], s, K => K s
  | o :: r, s, K => wpg P S s o fun s' => wps P S r s' K

/-- Which operations may come next. -/
def readyA (ops : List (AOper × List Nat)) (done : List Nat) : List Nat :=
  (List.range ops.length).filter fun i => !done.contains i && (match ops[i]? with | some o => o.2.all done.contains | none => false)

/-- All orders. -/
def wpall (P : Program) (S : Spec) (ops : List (AOper × List Nat)) : Nat → List Nat → St → (St → Prop) → Prop
  | 0, done, s, K => readyA ops done = [] ∧ K s
  | n + 1, done, s, K =>
    (readyA ops done = [] → K s) ∧ ∀ i ∈ readyA ops done, ∀ o, ops[i]? = some o → wpg P S s o.1 fun s' => wpall P S ops n (i :: done) s' K

/-! ### an order that stands for all -/
/-- It looks at no memory and does nothing to it. -/
def isPure : AOp → Bool
  | .st _ _ _ | .alloc _ | .box _ _ | .bsl _ _ _ _ | .mks _ _ _ _ _ | .app _ _ _ _ | .cpy _ _ _ | .clr _ _ _ | .call _ _ | .calle _ _ _ | .bad | .ld _ _ _ | .b2s _ | .eqn _ _ | .eqi _ _ => false
  | _ => true
/-- It changes nothing that is there. -/
def grows : AOp → Bool
  | .st _ _ _ | .app _ _ _ _ | .cpy _ _ _ | .clr _ _ _ | .call _ _ | .calle _ _ _ | .bad => false
  | _ => true
def isLd : AOp → Bool
  | .ld _ _ _ | .b2s _ => true
  | _ => false

def optOpds : Option Opd → List Opd
  | some x => [x]
  | none => []
def opdsOf : AOp → List Opd
  | .mv x | .un _ x | .conv _ x | .b2s x | .cstr x | .fad x _ | .fld x _ _ _ | .nilc x | .len x | .lens x | .ld x _ _ | .box _ x | .clr _ _ x | .eqn _ x | .eqi _ x | .ext x _ => [x]
  | .eqb _ x y | .eqs _ _ x y | .bin _ x y | .iad _ x y | .idx x y | .st x _ y | .app _ _ x y | .cpy _ x y | .max x y | .min x y | .mks _ _ _ x y => [x, y]
  | .pick c a b => [c, a, b]
  | .mkf _ caps => caps
  | .sli _ x lo hi mx => x :: (optOpds lo ++ (optOpds hi ++ optOpds mx))
  | .sls x lo hi => x :: (optOpds lo ++ optOpds hi)
  | .bld _ parts => parts.map fun p => p.2.2
  | .bsl _ _ _ parts => parts.map fun p => p.2
  | .call f args | .callq f args => f :: args
  | .calle f args cks => f :: (args ++ cks.map fun c => c.1)
  | .alloc _ | .bad => []

/-- The temporaries that an operation looks at. -/
def looks (o : AOper) : List Nat :=
  ((opdsOf o.op).filterMap fun | .t n => some n | .c _ => none) ++ (match o.guard with | some (g, _) => [g] | none => [])

def apartA (x y : AOper) : Bool :=
  (match x.dst with
   | some d => !(looks y).contains d && y.dst != some d
   | none => true) &&
  (match y.dst with
   | some d => !(looks x).contains d
   | none => true)

def opdB : Opd → Opd → Bool
  | .t m, .t n => m == n
  | _, _ => false
/-- A load that a call is known not to turn. -/
def ckd : AOp → AOp → Bool
  | .ld p n g, .calle _ _ cks => cks.any fun c => opdB c.1 p && (c.2.1 == n && c.2.2 == g)
  | _, _ => false
/-- `x` may as well come before `y`. -/
def commutes (x y : AOper) : Bool := apartA x y && (isPure x.op || (isLd x.op && (grows y.op || ckd x.op y.op)))

/-- One order: at each step all that might come instead is behind, or commutes. -/
def linOk (ops : List (AOper × List Nat)) (anc : List Nat) : List Nat → List Nat → Bool
  | done, [] => (List.range ops.length).all done.contains
  | done, i :: r =>
    (match ops[i]? with
     | some oi => !done.contains i && oi.2.all done.contains && (List.range ops.length).all fun j => done.contains j || j == i || (anc.getD j 0).testBit i || (match ops[j]? with | some oj => commutes oi.1 oj.1 | none => true)
     | none => false) && linOk ops anc (i :: done) r

def ancOf (ops : List (AOper × List Nat)) : List Nat :=
  ops.foldl (fun acc o => acc ++ [o.2.foldl (fun m d => m ||| (1 <<< d) ||| acc.getD d 0) 0]) []
/-- What a mask says is behind is behind. -/
def ancOk (ops : List (AOper × List Nat)) (anc : List Nat) : Bool :=
  (List.range ops.length).all fun j => match ops[j]? with
    | some o => (List.range ops.length).all fun i => !(anc.getD j 0).testBit i || o.2.any fun d => d == i || (anc.getD d 0).testBit i
    | none => true

def ordered (ops : List (AOper × List Nat)) (order : List Nat) : List AOper := order.filterMap fun i => (ops[i]?).map (·.1)

/-- Calls of functions of which results are known. -/
def quietOp (q : FuncId → Nat) : AOp → AOp
  | .call (.c (.fn f caps)) args => if q f = 1 then .callq (.c (.fn f caps)) args else if q f = 2 then .calle (.c (.fn f caps)) args [] else .call (.c (.fn f caps)) args
  | op => op
def quietOper (q : FuncId → Nat) (o : AOper) : AOper := { o with op := quietOp q o.op }

def addCk (cks : List (Nat × List (Opd × Nat × Bool))) (o : AOper) (i : Nat) : AOper :=
  match o.op with
  | .calle f args _ => { o with op := .calle f args ((cks.lookup i).getD []) }
  | _ => o
/-- The operations of a drawn region, calls of quiet functions and checks put in. -/
def drawn (q : FuncId → Nat) (cks : List (Nat × List (Opd × Nat × Bool))) (ops : List (AOper × List Nat)) : List (AOper × List Nat) := ops.mapIdx fun i o => (addCk cks (quietOper q o.1) i, o.2)

structure Hint where
  shift : Bool := false
  order : Option (List Nat) := none
  cks : List (Nat × List (Opd × Nat × Bool)) := []

def preA (h : Hint) (c : AC) : AC := if h.shift = true then .seq .shift c else c
def popH : List Hint → Hint × List Hint
  | [] => ({}, [])
  | h :: r => (h, r)

/-- The code as it is looked at: calls of quiet functions, one order in place of all, places to look at the state in another way. -/
def lin (q : FuncId → Nat) : AC → List Hint → AC × List Hint
  | .reg ops, hs => (preA (popH hs).1 (.reg (ops.map (quietOper q))), (popH hs).2)
  | .draw ops, hs =>
    (preA (popH hs).1 (match (popH hs).1.order with
      | some order => if (linOk (drawn q (popH hs).1.cks ops) (ancOf ops) [] order && (ancOk (drawn q (popH hs).1.cks ops) (ancOf ops) && order.length == ops.length)) = true then .reg (ordered (drawn q (popH hs).1.cks ops) order) else .bad
      | none => .draw (drawn q (popH hs).1.cks ops)), (popH hs).2)
  | .seq a b, hs => (.seq (lin q a hs).1 (lin q b (lin q a hs).2).1, (lin q b (lin q a hs).2).2)
  | .cond c x y, hs => (.cond c (lin q x hs).1 (lin q y (lin q x hs).2).1, (lin q y (lin q x hs).2).2)
  | .block id c, hs => (.block id (lin q c hs).1, (lin q c hs).2)
  | .loop c, hs => (preA (popH hs).1 (.loop (lin q c (popH hs).2).1), (lin q c (popH hs).2).2)
  | .ret, hs => (preA (popH hs).1 .ret, (popH hs).2)
  | .skip, hs => (.skip, hs)
  | .exit id, hs => (.exit id, hs)
  | .shift, hs => (.bad, hs)
  | .bad, hs => (.bad, hs)

/-! ### the state -/
structure SimSt (B : Nat → Prop) (w0 : World) (n : Nat) (σ : Sg) (s : St) (a : Act) (w : World) : Prop where
  sim : Sim B σ s.A w
  tmps : ∀ t, Rep σ (s.t t) (a.tmps.getD t undef)
  size : a.tmps.size = n
  defers : a.defers = []
  below : Keeps B w0 w

/-- The same state, looked at in another way; the first names stay. -/
def Shift (N : Nat) (s s' : St) : Prop := ∀ (B : Nat → Prop) (w0 : World) (n : Nat) (σ : Sg) (a : Act) (w : World), SimSt B w0 n σ s a w → ∃ σ', σ.LeN N σ' ∧ SimSt B w0 n σ' s' a w

inductive Ex where
  | normal | exit (id : Nat) | ret

def wpLoop (N : Nat) (f : St → (Ex → St → Prop) → Prop) (s : St) (Q : Ex → St → Prop) (_ : Hold f := .mk) (_ : Hold Q := .mk) : Prop :=
  ∃ (I : St → Prop) (μ : St → Nat), (∃ s0, Shift N s s0 ∧ I s0) ∧ ∀ s1, I s1 → f s1 fun e s' => match e with
    | .normal => ∃ s2, Shift N s' s2 ∧ I s2 ∧ μ s2 < μ s1
    | e => Q e s'

def shiftW (N : Nat) (s : St) (K : St → Prop) (_ : Hold K := .mk) : Prop := ∃ s', Shift N s s' ∧ K s'

def boolOf : AV → Option Bool
  | .bool b => some b
  | _ => none

def wpc (N : Nat) (P : Program) (S : Spec) : AC → St → (Ex → St → Prop) → Prop
  | .skip, s, Q => Q .normal s
  | .reg ops, s, Q => wps P S ops s (Q .normal)
  | .draw ops, s, Q => wpall P S ops ops.length [] s (Q .normal)
  | .seq a b, s, Q => wpc N P S a s fun e s' => match e with
    | .normal => wpc N P S b s' Q
    | e => Q e s'
  | .cond c x y, s, Q => optW (boolOf (s.ev c)) fun b => brW b (wpc N P S x s Q) (wpc N P S y s Q)
  | .block id c, s, Q => wpc N P S c s fun e s' => match e with
    | .exit i => if i = id then Q .normal s' else Q (.exit i) s'
    | e => Q e s'
  | .loop c, s, Q => wpLoop N (wpc N P S c) s Q
  | .exit id, s, Q => Q (.exit id) s
  | .ret, s, Q => Q .ret s
  | .shift, s, Q => shiftW N s (Q .normal)
  | .bad, _, _ => False

/-- A result: a temporary, or what lies at an address. -/
inductive ARes where
  | tmp (t : Nat)
  | cell (t size : Nat) (agg : Bool)

def resA (s : St) : ARes → Option AV
  | .tmp t => some (s.t t)
  | .cell t size agg => ldVar s.A (s.t t) size agg

def resultsA (s : St) (rs : List ARes) : Option AV :=
  (rs.mapM (resA s)).map fun vs => match vs with
    | [v] => v
    | vs => .tup vs

/-- The result and the heap at a function's end, looked at in another way. -/
def EndS (N : Nat) (r : AV) (A : AHeap) (r' : AV) (A' : AHeap) : Prop := ∀ (B : Nat → Prop) (σ : Sg) (w : World) (v : Value), Sim B σ A w → Rep σ r v → ∃ σ', σ.LeN N σ' ∧ Sim B σ' A' w ∧ Rep σ' r' v

/-- What a function's body owes at its end. -/
def endW (N : Nat) (rs : List ARes) (R : AV → AHeap → Prop) : Ex → St → Prop
  | .normal, s | .ret, s => optW (resultsA s rs) fun r => ∃ r' A', EndS N r s.A r' A' ∧ R r' A'
  | _, _ => False

def argT (args : List AV) : Nat → AV := fun i => (args[i]?).getD (.tup [])
def initSt (args : List AV) (A : AHeap) : St := { t := argT args, A := A }

end Go.Proofs.YtllahdjejcideaaAi
