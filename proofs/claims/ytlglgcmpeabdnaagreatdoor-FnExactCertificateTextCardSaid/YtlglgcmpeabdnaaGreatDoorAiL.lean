/- The framework, merged: A B C D E F G H I J K L. -/
import Derived.WalkKit
import Derived.Lib.LaidTab
import Derived.Lib.ItoaNum
/- The abstract values and the abstract code of the own framework: definitions alone. -/
namespace Go.Proofs.YtlglgcmpeabdnaaGreatDoorAi
open Go Go.RowKit
set_option linter.unusedVariables false
set_option linter.unusedSimpArgs false

/-- How far a slice of an owned object reaches: no room behind; room to the object's end; not known; room to the end of an object that is a row of bytes. -/
inductive Cp where
  | tight | full | unk | u8
  deriving Inhabited, DecidableEq

/-- Abstract values. `.ep (.ptr b 0) e 0`: the address of b's object, of which it is known that its type is e. `sl`: a slice whose elements never change again, by value. `ref`: a slice of an owned object. `ep`: the address of a cell of an element of a slice. -/
inductive AV where
  | bool (b : Bool)
  | int (k : IntKind) (n : Int)
  | str (s : ByteArray)
  | ptr (b off : Nat)
  | sl (xs : List AV) (tight : Bool)
  | ref (b esz off len : Nat) (cp : Cp)
  | ep (v : AV) (i off : Nat)
  | fn (f : FuncId) (caps : List AV)
  | mv (f : FuncId) (first : List AV)
  | nilp | nilf | nili | iface | any
  | agg (cs : List AV)
  | tup (vs : List AV)
  deriving Inhabited

@[simp] def AV.cells : AV → List AV
  | .agg cs => cs
  | v => [v]

/-- Owned objects by their names, in order: a row of cells; none: owned no more. -/
structure AHeap where
  l : List (Option (List AV))
def hget : List (Option (List AV)) → Nat → Option (List AV)
  | [], _ => none
  | o :: r, i => if i = 0 then o else hget r (i - 1)
def hset : List (Option (List AV)) → Nat → Option (List AV) → List (Option (List AV))
  | [], _, _ => []
  | o :: r, i, x => if i = 0 then x :: r else o :: hset r (i - 1) x
instance : CoeFun AHeap fun _ => Nat → Option (List AV) := ⟨fun A => hget A.l⟩
abbrev AHeap.n (A : AHeap) : Nat := A.l.length
def AHeap.nil : AHeap := ⟨[]⟩
def AHeap.set (A : AHeap) (b : Nat) (cs : List AV) : AHeap := ⟨hset A.l b (some cs)⟩
def AHeap.del (A : AHeap) (b : Nat) : AHeap := ⟨hset A.l b none⟩
def AHeap.push (A : AHeap) (cs : List AV) : AHeap := ⟨A.l ++ [some cs]⟩
/-- As many names; some objects are owned no more. -/
def AHeap.le (A A' : AHeap) : Prop := ∀ b cs, A b = some cs → A' b = some cs

mutual
/-- All names are less than a number. Slices by value have none. -/
def AV.lt (n : Nat) : AV → Bool
  | .ptr b _ => decide (b < n)
  | .ref b _ _ _ _ => decide (b < n)
  | .ep v _ _ => v.lt n
  | .fn _ cs => ltL n cs
  | .agg cs => ltL n cs
  | .tup cs => ltL n cs
  | _ => true
def ltL (n : Nat) : List AV → Bool
  | [] => true
  | x :: r => x.lt n && ltL n r
end
mutual
/-- Other names. -/
def AV.ren (f : Nat → Nat) : AV → AV
  | .ptr b o => .ptr (f b) o
  | .ref b e o n t => .ref (f b) e o n t
  | .ep v i o => .ep (v.ren f) i o
  | .fn g cs => .fn g (renL f cs)
  | .agg cs => .agg (renL f cs)
  | .tup cs => .tup (renL f cs)
  | x => x
def renL (f : Nat → Nat) : List AV → List AV
  | [] => []
  | x :: r => x.ren f :: renL f r
end

mutual
/-- Of slices by value no more is known of their room. -/
def AV.loose : AV → AV
  | .sl xs _ => .sl xs false
  | .fn g cs => .fn g (looseL cs)
  | .agg cs => .agg (looseL cs)
  | .tup cs => .tup (looseL cs)
  | x => x
def looseL : List AV → List AV
  | [] => []
  | x :: r => x.loose :: looseL r
end

inductive Opd where
  | t (n : Nat)
  | c (v : AV)
  deriving Inhabited

/-- Kinds of cells of plain data. -/
inductive Kd where
  | b | s
  | i (k : IntKind)
  deriving Inhabited, DecidableEq

inductive AOp where
  | mv (x : Opd)
  | eqb (neg : Bool) (x y : Opd)
  | eqs (neg : Bool) (ks : List Kd) (x y : Opd)
  | eqn (neg : Bool) (x : Opd)
  | eqi (neg : Bool) (x : Opd)
  | pick (c a b : Opd)
  | ext (x : Opd) (i : Nat)
  | bin (op : BinOp) (x y : Opd)
  | un (op : UnOp) (x : Opd)
  | conv (k : IntKind) (x : Opd)
  | b2s (x : Opd)
  | cstr (x : Opd)
  | fad (x : Opd) (off : Nat)
  | fld (x : Opd) (off size : Nat) (agg : Bool)
  | iad (esz : Nat) (x i : Opd)
  | idx (x i : Opd)
  | nilc (x : Opd)
  | mkf (f : FuncId) (caps : List Opd)
  | mkm (f : FuncId) (first : List Opd)
  | sli (esz : Nat) (x : Opd) (lo hi mx : Option Opd)
  | sls (x : Opd) (lo hi : Option Opd)
  | bld (zero : List AV) (parts : List (Nat × Nat × Opd))
  | len (x : Opd)
  | lens (x : Opd)
  | ld (x : Opd) (size : Nat) (agg : Bool)
  | st (x : Opd) (size : Nat) (v : Opd)
  | alloc (cells : List AV)
  | allocb (e : Nat)
  | box (size : Nat) (x : Opd)
  | bsl (esz len : Nat) (zero : List AV) (parts : List (Nat × Opd))
  | mks (esz bytes : Nat) (zero : List AV) (l c : Opd)
  | app (esz bytes : Nat) (s x : Opd)
  | appc (esz bytes : Nat) (s x : Opd)
  | cpy (esz : Nat) (d s : Opd)
  | clr (esz : Nat) (zero : List AV) (x : Opd)
  | max (x y : Opd)
  | min (x y : Opd)
  | call (f : Opd) (args : List Opd)
  | callq (f : Opd) (args : List Opd)
  | calle (f : Opd) (args : List Opd) (cks : List (Opd × Nat × Bool))
  | bad
  deriving Inhabited

structure AOper where
  dst : Option Nat
  op : AOp
  guard : Option (Nat × Bool) := none
  deriving Inhabited

/-- Operations in several orders. -/
inductive AT where
  | done
  | op (o : AOper) (r : AT)
  | both (a b : AT)
  deriving Inhabited

inductive AC where
  | skip
  | reg (ops : List AOper)
  | draw (ops : List (AOper × List Nat))
  | tree (t : AT)
  | seq (a b : AC)
  | cond (c : Opd) (x y : AC)
  | block (id : Nat) (c : AC)
  | loop (c : AC)
  | exit (id : Nat)
  | ret
  | shift
  | bad
  deriving Inhabited

structure St where
  t : Nat → AV
  A : AHeap

def putT (t : Nat → AV) (d : Nat) (v : AV) : Nat → AV := fun i => if i = d then v else t i
def St.put (s : St) (d : Option Nat) (v : AV) : St :=
  match d with
  | some d => { s with t := putT s.t d v }
  | none => s

def St.ev (s : St) : Opd → AV
  | .t n => s.t n
  | .c v => v

/-- Plain data as the model has them. -/
def leafOf : AV → Option Value
  | .bool b => some (.bool b)
  | .int k n => some (.int k n)
  | .str s => some (.string s)
  | _ => none
def valOf : AV → Option Value
  | .agg cs => (cs.mapM leafOf).map fun vs => .agg vs.toArray
  | x => leafOf x

/-! ### what operations compute -/

/-- Cell `off` of element `i` of a slice, read in a heap. -/
def elemCell (A : AHeap) (v : AV) (i off : Nat) : Option AV :=
  match v with
  | .sl xs _ => (xs[i]?).bind fun x => x.cells[off]?
  | .ref b esz o n _ => if i < n ∧ off < esz then (A b).bind fun cs => cs[(o + i) * esz + off]? else none
  | _ => none

def ldCell (A : AHeap) : AV → Option AV
  | .ptr b off => (A b).bind (·[off]?)
  | .ep v i off => elemCell A v i off
  | _ => none

def AV.addOff (n : Nat) : AV → Option AV
  | .ptr b off => some (.ptr b (off + n))
  | .ep (.ptr _ _) _ _ => none
  | .ep v i off => some (.ep v i (off + n))
  | _ => none

def ldCells (A : AHeap) (p : AV) : Nat → Option (List AV)
  | 0 => some []
  | n + 1 => (ldCells A p n).bind fun cs => (p.addOff n).bind fun q => (ldCell A q).map fun c => cs ++ [c]

def ldVar (A : AHeap) (p : AV) (size : Nat) (agg : Bool) : Option AV :=
  if agg then (if size = 0 then none else (ldCells A p size).map AV.agg) else ldCell A p

def AV.len? : AV → Option Nat
  | .sl xs _ => some xs.length
  | .ref _ _ _ n _ => some n
  | _ => none
def AV.strlen? : AV → Option Nat
  | .str s => some s.size
  | _ => none

/-- Not a tuple of results: it can lie in memory. -/
def AV.solid : AV → Bool
  | .tup _ | .any => false
  | _ => true
/-- One cell. -/
def AV.one : AV → Bool
  | .tup _ | .agg _ | .any => false
  | _ => true

def isPlain : AV → Bool
  | .bool _ | .int _ _ | .str _ => true
  | _ => false

def cellEq : Kd → AV → AV → Option Bool
  | .b, .bool a, .bool b => some (a == b)
  | .i j, .int k a, .int k' b => if k = j ∧ k' = j then some (a == b) else none
  | .s, .str a, .str b => some (a == b)
  | _, _, _ => none

def cellsEq : List Kd → List AV → List AV → Option Bool
  | [], [], [] => some true
  | k :: ks, a :: x, b :: y => (cellEq k a b).bind fun r => (cellsEq ks x y).map fun q => r && q
  | _, _, _ => none

def intBin (op : BinOp) (k : IntKind) (x y : Int) : Option AV :=
  match op with
  | .add => some (.int k (k.wrap (x + y)))
  | .sub => some (.int k (k.wrap (x - y)))
  | .mul => some (.int k (k.wrap (x * y)))
  | .quo => if y = 0 then none else some (.int k (k.wrap (x.tdiv y)))
  | .rem => if y = 0 then none else some (.int k (x.tmod y))
  | .and => some (.int k (k.wrap (BitVec.ofInt k.bits x &&& BitVec.ofInt k.bits y).toNat))
  | .or => some (.int k (k.wrap (BitVec.ofInt k.bits x ||| BitVec.ofInt k.bits y).toNat))
  | .xor => some (.int k (k.wrap (BitVec.ofInt k.bits x ^^^ BitVec.ofInt k.bits y).toNat))
  | .andNot => some (.int k (k.wrap (BitVec.ofInt k.bits x &&& ~~~(BitVec.ofInt k.bits y)).toNat))
  | .eql => some (.bool (x == y))
  | .neq => some (.bool (x != y))
  | .lss => some (.bool (decide (x < y)))
  | .leq => some (.bool (decide (x ≤ y)))
  | .gtr => some (.bool (decide (x > y)))
  | .geq => some (.bool (decide (x ≥ y)))
  | _ => none

def binA (op : BinOp) (x y : AV) : Option AV :=
  match op, x, y with
  | .shl, .int k a, .int _ b => if b < 0 then none else some (.int k (k.wrap (a * 2 ^ min b.toNat k.bits)))
  | .shr, .int k a, .int _ b => if b < 0 then none else some (.int k (a.fdiv (2 ^ min b.toNat k.bits)))
  | op, .int k a, .int k' b => if k = k' then intBin op k a b else none
  | .add, .str a, .str b => if a.size + b.size ≤ 9223372036854775807 then some (.str (a ++ b)) else none
  | .eql, .str a, .str b => some (.bool (a == b))
  | .neq, .str a, .str b => some (.bool (a != b))
  | _, _, _ => none

def unA (op : UnOp) (x : AV) : Option AV :=
  match op, x with
  | .not, .bool b => some (.bool (!b))
  | .neg, .int k n => some (.int k (k.wrap (0 - n)))
  | .xor, .int k n => some (.int k (k.wrap (BitVec.ofInt k.bits (if k.signed then -1 else k.max) ^^^ BitVec.ofInt k.bits n).toNat))
  | _, _ => none

def byteOf : AV → Option UInt8
  | .int .u8 n => if 0 ≤ n ∧ n < 256 then some (UInt8.ofNat n.toNat) else none
  | _ => none

/-- The elements of a slice of one-cell elements. -/
def onesOf (A : AHeap) (v : AV) : Option (List AV) :=
  match v with
  | .sl xs _ => some xs
  | .ref b e o n _ => if e = 1 then (A b).bind fun cs => if o + n ≤ cs.length then some ((cs.drop o).take n) else none else none
  | _ => none

def optNat (s : St) (d : Nat) : Option Opd → Option Nat
  | none => some d
  | some x => match s.ev x with
    | .int _ n => if 0 ≤ n then some n.toNat else none
    | _ => none

/-- Slicing a slice: a bound beyond the length is served only where it is tight or none. -/
def maxOk (hi n : Nat) : Option Nat → Bool
  | none => true
  | some m => decide (hi ≤ m) && decide (m ≤ n)
def maxTight (hi n : Nat) (t : Bool) : Option Nat → Bool
  | none => t && hi == n
  | some m => m == hi
def maxCp (hi n : Nat) (t : Cp) : Option Nat → Cp
  | none => match t with
    | .tight => if hi = n then .tight else .unk
    | .u8 => .unk
    | c => c
  | some m => if m = hi then .tight else .unk
theorem maxCp_u8 (hi n : Nat) (t : Cp) (m : Option Nat) : maxCp hi n t m ≠ .u8 := by
  cases m with
  | none =>
    cases t <;> simp [maxCp]
    split <;> simp
  | some q => simp only [maxCp]; split <;> simp
def sliceA (esz : Nat) (v : AV) (lo hi : Nat) (mx : Option Nat) : Option AV :=
  match v with
  | .sl xs t => if lo ≤ hi ∧ hi ≤ xs.length ∧ maxOk hi xs.length mx = true ∧ (xs.all fun x => x.cells.length == esz) = true then
      some (.sl ((xs.take hi).drop lo) (maxTight hi xs.length t mx)) else none
  | .ref b e o n t => if e = esz ∧ lo ≤ hi ∧ hi ≤ n ∧ maxOk hi n mx = true then
      some (.ref b e (o + lo) (hi - lo) (maxCp hi n t mx)) else none
  | _ => none

def setCells (cs : List AV) (off : Nat) : List AV → List AV
  | [] => cs
  | c :: r => setCells (cs.set off c) (off + 1) r

def fillA (cells : List AV) : List (Nat × Nat × AV) → Option (List AV)
  | [] => some cells
  | (off, size, v) :: rest => if v.cells.length = size ∧ v.solid = true ∧ off + size ≤ cells.length then fillA (setCells cells off v.cells) rest else none

def pickA (c a b : AV) : Option AV :=
  match c with
  | .bool x => some (if x = true then a else b)
  | _ => none
def extA (x : AV) (i : Nat) : Option AV :=
  match x with
  | .tup vs => vs[i]?
  | _ => none
def eqbA (neg : Bool) (x y : AV) : Option AV :=
  match x, y with
  | .bool a, .bool b => some (.bool (if neg = true then a != b else a == b))
  | _, _ => none
def eqsA (neg : Bool) (ks : List Kd) (x y : AV) : Option AV :=
  match x, y with
  | .agg a, .agg b => (cellsEq ks a b).map fun r => .bool (if neg = true then !r else r)
  | _, _ => none
def convA (k : IntKind) (x : AV) : Option AV :=
  match x with
  | .int _ n => some (.int k (k.wrap n))
  | _ => none
def cstrA (x : AV) : Option AV :=
  match x with
  | .str s => some (.str s)
  | _ => none
def fldA (x : AV) (off size : Nat) (agg : Bool) : Option AV :=
  match x with
  | .agg cs => if agg = true then (if off + size ≤ cs.length then some (.agg ((cs.drop off).take size)) else none) else cs[off]?
  | _ => none
/-- The address of element `n` of a slice. -/
def eltA (esz : Nat) (x : AV) (n : Int) : Option AV :=
  match x with
  | .sl xs t => if 0 ≤ n then (xs[n.toNat]?).bind fun x => if x.cells.length = esz then some (.ep (.sl xs t) n.toNat 0) else none else none
  | .ref b e o l t => if e = esz ∧ 0 ≤ n ∧ n < l then some (.ep (.ref b e o l t) n.toNat 0) else none
  | _ => none
def iadA (esz : Nat) (x i : AV) : Option AV :=
  match i with
  | .int _ n => eltA esz x n
  | _ => none
def bytA (b : ByteArray) (n : Int) : Option AV := if h : 0 ≤ n ∧ n.toNat < b.size then some (.int .u8 ((b[n.toNat]'h.2).toNat : Int)) else none
def idxA (x i : AV) : Option AV :=
  match x, i with
  | .str b, .int _ n => bytA b n
  | _, _ => none
def nilcA (x : AV) : Option AV :=
  match x with
  | .ptr b o => some (.ptr b o)
  | .ep v i o => some (.ep v i o)
  | .fn f c => some (.fn f c)
  | _ => none
def slsA (x : AV) (l h : Nat) : Option AV :=
  match x with
  | .str b => if l ≤ h ∧ h ≤ b.size then some (.str (b.extract l h)) else none
  | _ => none
def maxA (x y : AV) : Option AV :=
  match x, y with
  | .int k a, .int k' b => if k = k' then some (.int k (if b > a then b else a)) else none
  | _, _ => none
def minA (x y : AV) : Option AV :=
  match x, y with
  | .int k a, .int k' b => if k = k' then some (.int k (if b < a then b else a)) else none
  | _, _ => none
def optMax (s : St) : Option Opd → Option (Option Nat)
  | none => some none
  | some m => (optNat s 0 (some m)).map some

def pureOp (s : St) : AOp → Option AV
  | .mv x => some (s.ev x)
  | .pick c a b => pickA (s.ev c) (s.ev a) (s.ev b)
  | .ext x i => extA (s.ev x) i
  | .bin op x y => binA op (s.ev x) (s.ev y)
  | .un op x => unA op (s.ev x)
  | .eqb neg x y => eqbA neg (s.ev x) (s.ev y)
  | .eqs neg ks x y => eqsA neg ks (s.ev x) (s.ev y)
  | .conv k x => convA k (s.ev x)
  | .b2s x => (onesOf s.A (s.ev x)).bind fun vs => (vs.mapM byteOf).map fun l => .str ⟨l.toArray⟩
  | .cstr x => cstrA (s.ev x)
  | .fad x off => (s.ev x).addOff off
  | .fld x off size agg => fldA (s.ev x) off size agg
  | .iad esz x i => iadA esz (s.ev x) (s.ev i)
  | .idx x i => idxA (s.ev x) (s.ev i)
  | .nilc x => nilcA (s.ev x)
  | .mkf f caps => some (.fn f (caps.map s.ev))
  | .mkm f first => if ((first.map s.ev).mapM valOf).isSome = true then some (.mv f (first.map s.ev)) else none
  | .sli esz x lo hi mx => ((s.ev x).len?).bind fun n => (optNat s 0 lo).bind fun l => (optNat s n hi).bind fun h => (optMax s mx).bind fun m => sliceA esz (s.ev x) l h m
  | .sls x lo hi => ((s.ev x).strlen?).bind fun n => (optNat s 0 lo).bind fun l => (optNat s n hi).bind fun h => slsA (s.ev x) l h
  | .bld zero parts => (fillA zero (parts.map fun p => (p.1, p.2.1, s.ev p.2.2))).map AV.agg
  | .len x => ((s.ev x).len?).map fun (n : Nat) => AV.int .i64 (n : Int)
  | .lens x => ((s.ev x).strlen?).map fun (n : Nat) => AV.int .i64 (n : Int)
  | .ld x size agg => ldVar s.A (s.ev x) size agg
  | .max x y => maxA (s.ev x) (s.ev y)
  | .min x y => minA (s.ev x) (s.ev y)
  | _ => none

/-- A store of cells at an address. -/
def stA (A : AHeap) (p : AV) (cs : List AV) : Option AHeap :=
  match p with
  | .ptr b off => (A b).bind fun old => if off + cs.length ≤ old.length then some (A.set b (setCells old off cs)) else none
  | .ep (.ptr b _) _ _ => (A b).bind fun old => if cs.length ≤ old.length then some (A.set b (setCells old 0 cs)) else none
  | .ep (.ref b esz o n _) i off => if i < n ∧ off + cs.length ≤ esz then
      (A b).bind fun old => if (o + i) * esz + off + cs.length ≤ old.length then some (A.set b (setCells old ((o + i) * esz + off) cs)) else none else none
  | _ => none

/-- All cells of a slice, in order. -/
def sliceCells (A : AHeap) (esz : Nat) (v : AV) : Option (List AV) :=
  match v with
  | .sl xs _ => if xs.all (fun x => x.cells.length == esz) then some (xs.flatMap AV.cells) else none
  | .ref b e o n _ => if e = esz then (A b).bind fun cs => if (o + n) * esz ≤ cs.length then some ((cs.drop (o * esz)).take (n * esz)) else none else none
  | _ => none

end Go.Proofs.YtlglgcmpeabdnaaGreatDoorAi

/- The relation between abstract values and the model's memory; the triple of a call; the conditions of code. Definitions alone. -/
namespace Go.Proofs.YtlglgcmpeabdnaaGreatDoorAi
open Go Go.RowKit
set_option linter.unusedVariables false
set_option linter.unusedSimpArgs false

/-- The number of the type uint8. -/
abbrev u8T : TypeId := 5
/-- What is known of memory for ever: blocks that never change again; the blocks and sizes of names; what was known at first. -/
structure Sg where
  mem : Nat → Option Obj
  nm : Nat → Option (Nat × Nat)
  base : Nat → Option Obj
  ty : Nat → Option TypeId

def Sg.cell (σ : Sg) (b off : Nat) : Option Value :=
  match σ.mem b with
  | some (.cells c _ _) => c[off]?
  | _ => none

structure Sg.Le (σ σ' : Sg) : Prop where
  mem : ∀ b o, σ.mem b = some o → σ'.mem b = some o
  nm : ∀ b x, σ.nm b = some x → σ'.nm b = some x
  base : σ'.base = σ.base
  ty : ∀ c e, σ.ty c = some e → σ'.ty c = some e

/-- The same of the first names alone. -/
structure Sg.LeN (n : Nat) (σ σ' : Sg) : Prop where
  mem : ∀ b o, σ.mem b = some o → σ'.mem b = some o
  nm : ∀ b x, b < n → σ.nm b = some x → σ'.nm b = some x
  base : σ'.base = σ.base
  ty : ∀ c e, σ.ty c = some e → σ'.ty c = some e

inductive Rep (σ : Sg) : AV → Value → Prop
  | bool (b : Bool) : Rep σ (.bool b) (.bool b)
  | int (k : IntKind) (n : Int) : Rep σ (.int k n) (.int k n)
  | str (s : ByteArray) : Rep σ (.str s) (.string s)
  | any (v : Value) : Rep σ .any v
  | ptr (b off c sz : Nat) (hn : σ.nm b = some (c, sz)) : Rep σ (.ptr b off) (.pointer (some ⟨c, off, none⟩))
  | slnil (t : Bool) (a : Option Addr) (cap : Nat) (h : t = true → cap = 0) (hc : cap ≤ maxLen) (ha : a = none → cap = 0) : Rep σ (.sl [] t) (.slice a 0 cap)
  | sl (xs : List AV) (t : Bool) (b off s cap : Nat) (val : Nat → Nat → Value)
      (hlen : xs.length ≤ cap) (hcap : cap ≤ maxLen) (ht : t = true → cap = xs.length)
      (hs : ∀ (i : Nat) (x : AV), xs[i]? = some x → x.cells.length = s)
      (hm : ∀ (i : Nat) (x : AV), xs[i]? = some x → ∀ (j : Nat) (c : AV), x.cells[j]? = some c → σ.cell b (off + i * s + j) = some (val i j))
      (hr : ∀ (i : Nat) (x : AV), xs[i]? = some x → ∀ (j : Nat) (c : AV), x.cells[j]? = some c → Rep σ c (val i j))
      (h1 : ∀ (i j : Nat), (val i j).oneCell' = true)
      (hp : ∀ (i : Nat) (x : AV), xs[i]? = some x → ltL 0 x.cells = true) :
      Rep σ (.sl xs t) (.slice (some ⟨b, off, none⟩) xs.length cap)
  | ref (b e o n : Nat) (t : Cp) (ad : Addr) (cap c sz : Nat) (hcap : n ≤ cap) (hm : cap ≤ maxLen) (ht : t = .tight → cap = n)
      (ha : cap ≠ 0 → ad = ⟨c, o * e, none⟩) (hn : σ.nm b = some (c, sz)) (hfit : (o + cap) * e ≤ sz) (hfull : t = .full → (o + cap) * e = sz) (hty : t = .u8 → (o + cap) * e = sz ∧ σ.ty c = some u8T) :
      Rep σ (.ref b e o n t) (.slice (some ad) n cap)
  | epsl (xs : List AV) (t : Bool) (i off : Nat) (x : AV) (b o : Nat) (val : Nat → Value) (hx : xs[i]? = some x)
      (hm : ∀ (j : Nat) (c : AV), x.cells[j]? = some c → σ.cell b (o + j) = some (val j))
      (hr : ∀ (j : Nat) (c : AV), x.cells[j]? = some c → Rep σ c (val j))
      (h1 : ∀ (j : Nat), (val j).oneCell' = true) (hp : ltL 0 x.cells = true) :
      Rep σ (.ep (.sl xs t) i off) (.pointer (some ⟨b, o + off, none⟩))
  | epref (b e o n : Nat) (t : Cp) (i off c sz : Nat) (hn : σ.nm b = some (c, sz)) : Rep σ (.ep (.ref b e o n t) i off) (.pointer (some ⟨c, (o + i) * e + off, none⟩))
  | eptr (b e c : Nat) (hn : σ.nm b = some (c, 2)) (hty : σ.ty c = some e) : Rep σ (.ep (.ptr b 0) e 0) (.pointer (some ⟨c, 0, none⟩))
  | fn (f : FuncId) (caps : List AV) (vs : List Value) (hl : caps.length = vs.length) (hr : ∀ (i : Nat) (c : AV) (v : Value), caps[i]? = some c → vs[i]? = some v → Rep σ c v) :
      Rep σ (.fn f caps) (.func (.func f) #[] vs.toArray)
  | mv (f : FuncId) (first : List AV) (vs : List Value) (h : first.mapM valOf = some vs) : Rep σ (.mv f first) (.func (.func f) vs.toArray #[])
  | nilp : Rep σ .nilp (.pointer none)
  | nilf : Rep σ .nilf .nilFunc
  | nili : Rep σ .nili .nilIface
  | iface (t : TypeId) (v : Value) : Rep σ .iface (.iface t v)
  | agg (cs : List AV) (vs : List Value) (hl : cs.length = vs.length) (h1 : ∀ v ∈ vs, v.oneCell' = true) (hr : ∀ (i : Nat) (c : AV) (v : Value), cs[i]? = some c → vs[i]? = some v → Rep σ c v) :
      Rep σ (.agg cs) (.agg vs.toArray)
  | tup (cs : List AV) (vs : List Value) (hl : cs.length = vs.length) (hr : ∀ (i : Nat) (c : AV) (v : Value), cs[i]? = some c → vs[i]? = some v → Rep σ c v) :
      Rep σ (.tup cs) (.tuple vs.toArray)

def RepL (σ : Sg) (cs : List AV) (vs : List Value) : Prop := cs.length = vs.length ∧ ∀ (i : Nat) (c : AV) (v : Value), cs[i]? = some c → vs[i]? = some v → Rep σ c v

/-- A protected block is as it was. -/
structure Keeps (B : Nat → Prop) (w w' : World) : Prop where
  os : w'.os = w.os
  tape : w'.tape = w.tape
  output : w'.output = w.output
  size : w.heap.size ≤ w'.heap.size
  block : ∀ k, B k → w'.heap[k]? = w.heap[k]?

/-- An owned object: its name's block, which is not protected and not known to stay. -/
def Owns (B : Nat → Prop) (σ : Sg) (w : World) (b : Nat) (cs : List AV) : Prop :=
  ∃ c cur e, σ.nm b = some (c, cur.size) ∧ ¬ B c ∧ σ.mem c = none ∧ w.heap[c]? = some (.cells cur e (0, 0)) ∧ cs.length ≤ cur.size ∧
    ∀ (j : Nat) x, cs[j]? = some x → ∃ v, cur[j]? = some v ∧ Rep σ x v ∧ v.oneCell' = true

structure Sim (B : Nat → Prop) (σ : Sg) (A : AHeap) (w : World) : Prop where
  base : ∀ c, B c → c < w.heap.size
  mem : ∀ b o, σ.mem b = some o → w.heap[b]? = some o
  low : ∀ c o, σ.mem c = some o → σ.base c = some o ∨ ¬ B c
  nm : ∀ b c n, σ.nm b = some (c, n) → b < A.n ∧ ∃ cs e fr, w.heap[c]? = some (.cells cs e fr) ∧ cs.size = n
  tot : ∀ b, b < A.n → ∃ x, σ.nm b = some x
  own : ∀ b cs, A b = some cs → Owns B σ w b cs
  inj : ∀ b b' cs cs' c n n', A b = some cs → A b' = some cs' → σ.nm b = some (c, n) → σ.nm b' = some (c, n') → b = b'
  ty : ∀ c e, σ.ty c = some e → ∃ cs fr, w.heap[c]? = some (.cells cs e fr)

/-- Whether the row lists the errors of strconv: to be set to false where it does not. -/
def goodE : Bool := false
def VarI (P : Program) (w : World) (name : String) : Prop := goodE = true → (P.globalNamed name).isSome = true → ∃ t v, w.var? P name = some #[.iface t v]
def VarN (P : Program) (w : World) (name : String) : Prop := (P.globalNamed name).isSome = true → ∃ m, w.var? P name = some #[.int .i64 m]
def VarT (P : Program) (w : World) : Prop := (P.globalNamed "internal/strconv.uint64pow10").isSome = true → Go.Lib.TabIs P w "internal/strconv.uint64pow10" .u64 Go.Lib.pow10Tab
/-- What is known of package-level variables that nothing writes. -/
structure GoodW (P : Program) (w : World) : Prop where
  tab : VarT P w
  syn : VarI P w "strconv.ErrSyntax"
  rng : VarI P w "strconv.ErrRange"
  max : VarN P w "internal/bytealg.MaxLen"
def GoodP (P : Program) (B : Nat → Prop) (w0 : World) : Prop := ∀ w, Keeps B w0 w → GoodW P w

/-- A function with a Go body that a call enters. -/
def Enters (P : Program) (f : FuncId) : Prop := ∃ fn, P.funcs[f]? = some fn ∧ (fn.name == "runtime.NumGoroutine") = false ∧ fn.body.isNone = false

/-- The triple of a call. -/
def T (P : Program) (f : FuncId) (args : List AV) (A : AHeap) (R : AV → AHeap → Prop) : Prop :=
  Enters P f ∧ ∀ (B : Nat → Prop) (w0 : World) (σ : Sg) (w : World) (vs : List Value), GoodP P B w0 → Keeps B w0 w → Sim B σ A w → RepL σ args vs →
    Calls P f vs.toArray w fun e w' => ∃ r A' v σ', e = .returned v ∧ R r A' ∧ σ.Le σ' ∧ Sim B σ' A' w' ∧ Rep σ' r v ∧ Keeps B w0 w'

theorem T.mono {P : Program} {f : FuncId} {args : List AV} {A : AHeap} {R R' : AV → AHeap → Prop} (h : T P f args A R) (hr : ∀ r A', R r A' → R' r A') : T P f args A R' :=
  ⟨h.1, fun B w0 σ w vs hG hb hs ha => (h.2 B w0 σ w vs hG hb hs ha).mono fun _ _ ⟨r, A', v, σ', he, hR, rest⟩ => ⟨r, A', v, σ', he, hr _ _ hR, rest⟩⟩

/-! ### conditions of operations and code -/

/-- What the simplifier is not to look into. -/
inductive Hold {α : Sort _} (x : α) : Type
  | mk

/-- A call. -/
def callW (P : Program) (f : FuncId) (args : List AV) (A : AHeap) (K : AV → AHeap → Prop) (_ : Hold K := .mk) : Prop := T P f args A K
/-- What there has to be. -/
def optW {α : Type} (x : Option α) (K : α → Prop) (_ : Hold K := .mk) : Prop := match x with
  | some v => K v
  | none => False
theorem optW_some {α : Type} {v : α} {K : α → Prop} {h : Hold K} : optW (some v) K h = K v := rfl
theorem optW_none {α : Type} {K : α → Prop} {h : Hold K} : optW none K h = False := rfl
theorem optW_iff {α : Type} {x : Option α} {K : α → Prop} {h : Hold K} : optW x K h ↔ ∃ v, x = some v ∧ K v := by
  cases x <;> simp [optW]
/-- A choice. -/
def brW (b : Bool) (x y : Prop) (_ : Hold x := .mk) (_ : Hold y := .mk) : Prop := if b = true then x else y
theorem brW_true {x y : Prop} {h : Hold x} {k : Hold y} : brW true x y h k = x := by simp [brW]
theorem brW_false {x y : Prop} {h : Hold x} {k : Hold y} : brW false x y h k = y := by simp [brW]
theorem brW_of {b : Bool} {x y : Prop} {h : Hold x} {k : Hold y} (h1 : b = true → x) (h2 : b = false → y) : brW b x y h k := by
  cases b
  · simpa [brW] using h2 rfl
  · simpa [brW] using h1 rfl
/-- Whether a slice is nil: known, or known to be so only where it is empty. -/
def nilW (q : Option Nat) (K : Bool → Prop) (_ : Hold K := .mk) : Prop := match q with
  | some n => ∀ r, (r = true → n = 0) → K r
  | none => K false

def mostBytes : Nat := 140737488355328

def okIf (c : Bool) : Option Unit := if c = true then some () else none
/-- append: `ys` go in behind a slice. In place where that is sure; else under a new name. -/
def appW (A : AHeap) (esz bytes : Nat) (s : AV) (ys : List AV) (m : Nat) (K : AV → AHeap → Prop) (_ : Hold K := .mk) : Prop :=
  match s with
  | .sl xs t => brW (decide (m = 0)) (K (.sl xs t) A)
      (optW (if t = true then sliceCells A esz (.sl xs t) else none) fun old => (xs.length + m) * (bytes + 1) ≤ mostBytes ∧ K (.ref A.n esz 0 (xs.length + m) .full) (A.push (old ++ ys)))
  | .ref b e o n t => brW (decide (m = 0)) (K (.ref b e o n t) A)
      (optW ((okIf (e == esz)).bind fun _ => A b) fun cs => optW (okIf (decide ((o + n) * esz ≤ cs.length))) fun _ =>
          match t with
          | .full => brW (decide ((o + n + m) * esz ≤ cs.length)) (K (.ref b e o (n + m) .full) (A.set b (setCells cs ((o + n) * esz) ys)))
            (optW (okIf (o == 0)) fun _ => (n + m) * (bytes + 1) ≤ mostBytes ∧ K (.ref A.n esz 0 (n + m) .full) ((A.del b).push (cs.take (n * esz) ++ ys)))
          | .tight => (n + m) * (bytes + 1) ≤ mostBytes ∧ K (.ref A.n esz 0 (n + m) .full) (A.push (((cs.drop (o * esz)).take (n * esz)) ++ ys))
          | .unk => False
          | .u8 => False)
  | _ => False

def newCells (esz n : Nat) (zero : List AV) : List AV := (List.replicate n zero).flatten

/-- What is proved of calls: of those that touch no owned object (q), of others (e). -/
structure Spec where
  q : FuncId → List AV → Option AV
  e : FuncId → List AV → AHeap → Option (AV × AHeap)
structure Quiet (P : Program) (S : Spec) : Prop where
  q : ∀ f args r, S.q f args = some r → ∀ A, T P f args A fun r' A' => r' = r ∧ A' = A
  e : ∀ f args A r A1, S.e f args A = some (r, A1) → T P f args A fun r' A' => r' = r ∧ A' = A1

def calleeF : AV → Option (FuncId × List AV × List AV)
  | .fn f caps => some (f, [], caps)
  | .mv f first => some (f, first, [])
  | _ => none
def calleeOf : AV → Option (FuncId × List AV)
  | .fn f caps => some (f, caps)
  | _ => none

def stG (A : AHeap) (size : Nat) (p v : AV) : Option AHeap := if v.cells.length = size ∧ v.solid = true then stA A p v.cells else none
def intsA : AV → AV → Option (Int × Int)
  | .int _ n, .int _ m => some (n, m)
  | _, _ => none
def cpyG (A : AHeap) (esz : Nat) (d : AV) (ys : List AV) (m : Nat) : Option (Nat × AHeap) :=
  match d with
  | .ref b e o n _ => if e = esz then (A b).bind fun cs => if (o + min n m) * esz ≤ cs.length then some (min n m, A.set b (setCells cs (o * esz) (ys.take (min n m * esz)))) else none else none
  | _ => none
def clrG (A : AHeap) (esz : Nat) (zero : List AV) (x : AV) : Option AHeap :=
  match x with
  | .ref b e o n _ => if e = esz then (A b).bind fun cs => if (o + n) * esz ≤ cs.length then some (A.set b (setCells cs (o * esz) (newCells esz n zero))) else none else none
  | .sl [] _ => some A
  | _ => none
def nilOf : AV → Option (Option Nat)
  | .sl xs _ => some (some xs.length)
  | .ref _ _ _ _ _ => some none
  | _ => none
def nilI : AV → Option Bool
  | .nili => some true
  | .iface => some false
  | _ => none

/-- Loads that a call does not turn. -/
def leL : List (Option (List AV)) → List (Option (List AV)) → Prop
  | [], _ => True
  | none :: r, [] => leL r []
  | none :: r, _ :: r' => leL r r'
  | some _ :: _, [] => False
  | some cs :: r, o :: r' => o = some cs ∧ leL r r'
/-- One load; or (nilf): all that is there. -/
def ckW (A A' : AHeap) (c : AV × Nat × Bool) : Prop := match c.1 with
  | .nilf => leL A.l A'.l
  | p => ldVar A' p c.2.1 c.2.2 = ldVar A p c.2.1 c.2.2
def cksW (A A' : AHeap) : List (AV × Nat × Bool) → Prop
  | [] => True
  | c :: r => ckW A A' c ∧ cksW A A' r

def opW (P : Program) (S : Spec) (s : St) (op : AOp) (K : AV → AHeap → Prop) : Prop :=
  match op with
  | .st x size v => optW (stG s.A size (s.ev x) (s.ev v)) fun A' => K (.tup []) A'
  | .alloc cs => K (.ptr s.A.n 0) (s.A.push cs)
  | .allocb e => K (.ep (.ptr s.A.n 0) e 0) (s.A.push [.nilp, .sl [] true])
  | .box size x => (s.ev x).solid = true ∧ K (.ptr s.A.n 0) (s.A.push (s.ev x).cells)
  | .bsl esz len zero parts => optW (fillA (newCells esz len zero) (parts.map fun p => (p.1 * esz, esz, s.ev p.2))) fun cs =>
      brW (len == 0) (K (.sl [] true) (s.A.push cs)) (K (.ref s.A.n esz 0 len .tight) (s.A.push cs))
  | .mks esz bytes zero l c => optW (intsA (s.ev l) (s.ev c)) fun p =>
      0 ≤ p.1 ∧ p.1 = p.2 ∧ p.1 * ((bytes : Int) + 1) ≤ (mostBytes : Int) ∧ K (.ref s.A.n esz 0 p.1.toNat .tight) (s.A.push (newCells esz p.1.toNat zero))
  | .app esz bytes x y => optW (sliceCells s.A esz (s.ev y)) fun ys => optW (s.ev y).len? fun m => appW s.A esz bytes (s.ev x) ys m K
  | .appc esz bytes x y => optW (sliceCells s.A esz (s.ev y)) fun ys => optW (s.ev y).len? fun m => appW s.A esz bytes (s.ev x) ys m fun r A' => leL s.A.l A'.l ∧ K r A'
  | .cpy esz d x => optW (sliceCells s.A esz (s.ev x)) fun ys => optW (s.ev x).len? fun m => optW (cpyG s.A esz (s.ev d) ys m) fun p => K (.int .i64 (p.1 : Nat)) p.2
  | .clr esz zero x => optW (clrG s.A esz zero (s.ev x)) fun A' => K (.tup []) A'
  | .call g args => optW (calleeF (s.ev g)) fun p => callW P p.1 (p.2.1 ++ (args.map s.ev ++ p.2.2)) s.A K
  | .callq g args => optW ((calleeOf (s.ev g)).bind fun p => S.q p.1 (looseL (args.map s.ev ++ p.2))) fun r => K r s.A
  | .calle g args cks => optW ((calleeOf (s.ev g)).bind fun p => S.e p.1 (looseL (args.map s.ev ++ p.2)) s.A) fun r => cksW s.A r.2 (cks.map fun c => (s.ev c.1, c.2)) ∧ K r.1 r.2
  | .eqn neg x => optW (nilOf (s.ev x)) fun q => nilW q fun r => K (.bool (if neg = true then !r else r)) s.A
  | .eqi neg x => optW (nilI (s.ev x)) fun r => K (.bool (if neg = true then !r else r)) s.A
  | .bad => False
  | op => optW (pureOp s op) fun v => K v s.A

def wpo (P : Program) (S : Spec) (s : St) (o : AOper) (K : St → Prop) : Prop := opW P S s o.op fun r A' => K ({ s with A := A' }.put o.dst r)

def guardOk (s : St) : Option (Nat × Bool) → Option Bool
  | none => some true
  | some (g, want) => match s.t g with
    | .bool b => some (b == want)
    | .any => none
    | _ => some false

def wpg (P : Program) (S : Spec) (s : St) (o : AOper) (K : St → Prop) : Prop := optW (guardOk s o.guard) fun b => brW b (wpo P S s o K) (K (s.put o.dst (.tup [])))

def wps (P : Program) (S : Spec) : List AOper → St → (St → Prop) → Prop
  | [], s, K => K s
  | o :: r, s, K => wpg P S s o fun s' => wps P S r s' K

def wpt (P : Program) (S : Spec) : AT → St → (St → Prop) → Prop
  | .done, s, K => K s
  | .op o r, s, K => wpg P S s o fun s' => wpt P S r s' K
  | .both a b, s, K => wpt P S a s K ∧ wpt P S b s K

/-- Which operations may come next. -/
def readyA (ops : List (AOper × List Nat)) (done : List Nat) : List Nat :=
  (List.range ops.length).filter fun i => !done.contains i && (match ops[i]? with | some o => o.2.all done.contains | none => false)

/-- All orders. -/
def wpall (P : Program) (S : Spec) (ops : List (AOper × List Nat)) : Nat → List Nat → St → (St → Prop) → Prop
  | 0, done, s, K => readyA ops done = [] ∧ K s
  | n + 1, done, s, K =>
    (readyA ops done = [] → K s) ∧ ∀ i ∈ readyA ops done, ∀ o, ops[i]? = some o → wpg P S s o.1 fun s' => wpall P S ops n (i :: done) s' K

/-! ### an order that stands for all -/
/-- It looks at no memory and does nothing to it. -/
def isPure : AOp → Bool
  | .st _ _ _ | .alloc _ | .allocb _ | .box _ _ | .bsl _ _ _ _ | .mks _ _ _ _ _ | .app _ _ _ _ | .appc _ _ _ _ | .cpy _ _ _ | .clr _ _ _ | .call _ _ | .calle _ _ _ | .bad | .ld _ _ _ | .b2s _ | .eqn _ _ | .eqi _ _ => false
  | _ => true
/-- It changes nothing that is there. -/
def grows : AOp → Bool
  | .st _ _ _ | .app _ _ _ _ | .cpy _ _ _ | .clr _ _ _ | .call _ _ | .calle _ _ _ | .bad => false
  | _ => true
def isLd : AOp → Bool
  | .ld _ _ _ | .b2s _ => true
  | _ => false

def optOpds : Option Opd → List Opd
  | some x => [x]
  | none => []
def opdsOf : AOp → List Opd
  | .mv x | .un _ x | .conv _ x | .b2s x | .cstr x | .fad x _ | .fld x _ _ _ | .nilc x | .len x | .lens x | .ld x _ _ | .box _ x | .clr _ _ x | .eqn _ x | .eqi _ x | .ext x _ => [x]
  | .eqb _ x y | .eqs _ _ x y | .bin _ x y | .iad _ x y | .idx x y | .st x _ y | .app _ _ x y | .appc _ _ x y | .cpy _ x y | .max x y | .min x y | .mks _ _ _ x y => [x, y]
  | .pick c a b => [c, a, b]
  | .mkf _ caps => caps
  | .mkm _ first => first
  | .sli _ x lo hi mx => x :: (optOpds lo ++ (optOpds hi ++ optOpds mx))
  | .sls x lo hi => x :: (optOpds lo ++ optOpds hi)
  | .bld _ parts => parts.map fun p => p.2.2
  | .bsl _ _ _ parts => parts.map fun p => p.2
  | .call f args | .callq f args => f :: args
  | .calle f args cks => f :: (args ++ cks.map fun c => c.1)
  | .alloc _ | .allocb _ | .bad => []

/-- The temporaries that an operation looks at. -/
def looks (o : AOper) : List Nat :=
  ((opdsOf o.op).filterMap fun | .t n => some n | .c _ => none) ++ (match o.guard with | some (g, _) => [g] | none => [])

def apartA (x y : AOper) : Bool :=
  (match x.dst with
   | some d => !(looks y).contains d && y.dst != some d
   | none => true) &&
  (match y.dst with
   | some d => !(looks x).contains d
   | none => true)

def opdB : Opd → Opd → Bool
  | .t m, .t n => m == n
  | _, _ => false
def isNf : Opd → Bool
  | .c .nilf => true
  | _ => false
/-- A load that a call is known not to turn. -/
def ckd : AOp → AOp → Bool
  | .ld p n g, .calle _ _ cks => cks.any fun c => isNf c.1 || (opdB c.1 p && (c.2.1 == n && c.2.2 == g))
  | _, _ => false
/-- `x` may as well come before `y`. -/
def commutes (x y : AOper) : Bool := apartA x y && (isPure x.op || (isLd x.op && (grows y.op || ckd x.op y.op)))

/-- One order: at each step all that might come instead is behind, or commutes. -/
def linOk (ops : List (AOper × List Nat)) (anc : List Nat) : List Nat → List Nat → Bool
  | done, [] => (List.range ops.length).all done.contains
  | done, i :: r =>
    (match ops[i]? with
     | some oi => !done.contains i && oi.2.all done.contains && (List.range ops.length).all fun j => done.contains j || j == i || (anc.getD j 0).testBit i || (match ops[j]? with | some oj => commutes oi.1 oj.1 | none => true)
     | none => false) && linOk ops anc (i :: done) r

def ancOf (ops : List (AOper × List Nat)) : List Nat :=
  ops.foldl (fun acc o => acc ++ [o.2.foldl (fun m d => m ||| (1 <<< d) ||| acc.getD d 0) 0]) []
/-- What a mask says is behind is behind. -/
def ancOk (ops : List (AOper × List Nat)) (anc : List Nat) : Bool :=
  (List.range ops.length).all fun j => match ops[j]? with
    | some o => (List.range ops.length).all fun i => !(anc.getD j 0).testBit i || o.2.any fun d => d == i || (anc.getD d 0).testBit i
    | none => true

def ordered (ops : List (AOper × List Nat)) (order : List Nat) : List AOper := order.filterMap fun i => (ops[i]?).map (·.1)

/-- Calls of functions of which results are known. -/
def quietOp (q : FuncId → Nat) : AOp → AOp
  | .call (.c (.fn f caps)) args => if q f = 1 then .callq (.c (.fn f caps)) args else if q f = 2 then .calle (.c (.fn f caps)) args [] else .call (.c (.fn f caps)) args
  | op => op
def quietOper (q : FuncId → Nat) (o : AOper) : AOper := { o with op := quietOp q o.op }

def addCk (cks : List (Nat × List (Opd × Nat × Bool))) (o : AOper) (i : Nat) : AOper :=
  match o.op with
  | .calle f args _ => { o with op := .calle f args ((cks.lookup i).getD []) }
  | .app e b x y => if (cks.lookup i).isSome = true then { o with op := .appc e b x y } else o
  | _ => o
/-- The operations of a drawn region, calls of quiet functions and checks put in. -/
def drawn (q : FuncId → Nat) (cks : List (Nat × List (Opd × Nat × Bool))) (ops : List (AOper × List Nat)) : List (AOper × List Nat) := ops.mapIdx fun i o => (addCk cks (quietOper q o.1) i, o.2)

/-- Cells of new variables: no memory is reached by them. -/
def plainZ : AV → Bool
  | .bool _ | .int _ _ | .str _ | .nilp | .nilf | .nili | .sl [] _ => true
  | _ => false
/-- More that is ahead of some operations. -/
def lateD (L : List (Nat × List Nat)) (D : List (AOper × List Nat)) : List (AOper × List Nat) := D.mapIdx fun i o => match L.lookup i with
  | some X => (o.1, o.2 ++ X)
  | none => o
def lateOk (L : List (Nat × List Nat)) (D : List (AOper × List Nat)) (anc anc2 : List Nat) : Bool :=
  ((List.range D.length).all fun j => match D[j]? with
    | some o => o.2.all fun d => decide (d < j)
    | none => true) &&
  ((List.range D.length).all fun j => match (lateD L D)[j]? with
    | some o => o.2.all fun d => (anc2.getD j 0).testBit d && (List.range D.length).all fun k => !(anc2.getD d 0).testBit k || (anc2.getD j 0).testBit k
    | none => true) &&
  (List.range D.length).all fun f => match L.lookup f with
    | none => true
    | some X => X.all (fun k => decide (k < f)) && (match D[f]? with
      | some (⟨some d, .alloc cs, none⟩, _) => cs.all plainZ && (List.range D.length).all fun j => j == f || (match D[j]? with
        | some o => ((anc.getD j 0).testBit f || (!(looks o.1).contains d && o.1.dst != some d)) &&
            (!o.2.contains f || (List.range D.length).all fun k => !(anc2.getD f 0).testBit k || (anc.getD j 0).testBit k)
        | none => true)
      | _ => false)

/-- Several orders: a step that commutes with all others; one of some that may come; the last one of them. -/
inductive OT where
  | done
  | step (i : Nat) (t : OT)
  | alt (i : Nat) (t r : OT)
  | last (i : Nat) (t : OT)
  deriving Inhabited
def OT.depth : OT → Nat
  | .done => 0
  | .step _ t => t.depth + 1
  | .last _ t => t.depth + 1
  | .alt _ t r => max (t.depth + 1) r.depth
def treeOk (ops : List (AOper × List Nat)) (anc : List Nat) : OT → List Nat → List Nat → Bool
  | .done, done, seen => seen.isEmpty && (List.range ops.length).all done.contains
  | .step i t, done, seen => seen.isEmpty && ((match ops[i]? with
     | some oi => !done.contains i && oi.2.all done.contains && (List.range ops.length).all fun j => done.contains j || j == i || (anc.getD j 0).testBit i || (match ops[j]? with | some oj => commutes oi.1 oj.1 | none => true)
     | none => false) && treeOk ops anc t (i :: done) [])
  | .alt i t r, done, seen => (readyA ops done).contains i && (treeOk ops anc t (i :: done) [] && treeOk ops anc r done (i :: seen))
  | .last i t, done, seen => (readyA ops done).contains i && ((readyA ops done).all (fun j => j == i || seen.contains j) && treeOk ops anc t (i :: done) [])
def toAT (ops : List (AOper × List Nat)) : OT → AT
  | .done => .done
  | .step i t | .last i t => match ops[i]? with
    | some o => .op o.1 (toAT ops t)
    | none => .done
  | .alt i t r => .both (match ops[i]? with
    | some o => .op o.1 (toAT ops t)
    | none => .done) (toAT ops r)

structure Hint where
  shift : Bool := false
  order : Option (List Nat) := none
  cks : List (Nat × List (Opd × Nat × Bool)) := []
  lates : List (Nat × List Nat) := []
  tree : Option OT := none

def preA (h : Hint) (c : AC) : AC := if h.shift = true then .seq .shift c else c
def popH : List Hint → Hint × List Hint
  | [] => ({}, [])
  | h :: r => (h, r)

/-- The code as it is looked at: calls of quiet functions, one order in place of all, places to look at the state in another way. -/
def lin (q : FuncId → Nat) : AC → List Hint → AC × List Hint
  | .reg ops, hs => (preA (popH hs).1 (.reg (ops.map (quietOper q))), (popH hs).2)
  | .draw ops, hs =>
    (preA (popH hs).1 (match (popH hs).1.tree with
      | some tr => if ((treeOk (lateD (popH hs).1.lates (drawn q (popH hs).1.cks ops)) (ancOf (lateD (popH hs).1.lates (drawn q (popH hs).1.cks ops))) tr [] [] && (ancOk (lateD (popH hs).1.lates (drawn q (popH hs).1.cks ops)) (ancOf (lateD (popH hs).1.lates (drawn q (popH hs).1.cks ops))) && decide (tr.depth ≤ ops.length))) && (lateOk (popH hs).1.lates (drawn q (popH hs).1.cks ops) (ancOf ops) (ancOf (lateD (popH hs).1.lates (drawn q (popH hs).1.cks ops))) && ancOk (drawn q (popH hs).1.cks ops) (ancOf ops))) = true then .tree (toAT (lateD (popH hs).1.lates (drawn q (popH hs).1.cks ops)) tr) else .bad
      | none => match (popH hs).1.order with
      | some order => if (linOk (lateD (popH hs).1.lates (drawn q (popH hs).1.cks ops)) (ancOf (lateD (popH hs).1.lates (drawn q (popH hs).1.cks ops))) [] order && (ancOk (lateD (popH hs).1.lates (drawn q (popH hs).1.cks ops)) (ancOf (lateD (popH hs).1.lates (drawn q (popH hs).1.cks ops))) && order.length == ops.length) && (lateOk (popH hs).1.lates (drawn q (popH hs).1.cks ops) (ancOf ops) (ancOf (lateD (popH hs).1.lates (drawn q (popH hs).1.cks ops))) && ancOk (drawn q (popH hs).1.cks ops) (ancOf ops))) = true then .reg (ordered (lateD (popH hs).1.lates (drawn q (popH hs).1.cks ops)) order) else .bad
      | none => .draw (drawn q (popH hs).1.cks ops)), (popH hs).2)
  | .seq a b, hs => (.seq (lin q a hs).1 (lin q b (lin q a hs).2).1, (lin q b (lin q a hs).2).2)
  | .cond c x y, hs => (.cond c (lin q x hs).1 (lin q y (lin q x hs).2).1, (lin q y (lin q x hs).2).2)
  | .block id c, hs => (.block id (lin q c hs).1, (lin q c hs).2)
  | .loop c, hs => (preA (popH hs).1 (.loop (lin q c (popH hs).2).1), (lin q c (popH hs).2).2)
  | .ret, hs => (preA (popH hs).1 .ret, (popH hs).2)
  | .skip, hs => (.skip, hs)
  | .exit id, hs => (.exit id, hs)
  | .shift, hs => (.bad, hs)
  | .bad, hs => (.bad, hs)
  | .tree _, hs => (.bad, hs)

/-! ### the state -/
structure SimSt (B : Nat → Prop) (w0 : World) (n : Nat) (σ : Sg) (s : St) (a : Act) (w : World) : Prop where
  sim : Sim B σ s.A w
  tmps : ∀ t, Rep σ (s.t t) (a.tmps.getD t undef)
  size : a.tmps.size = n
  defers : a.defers = []
  below : Keeps B w0 w

/-- The same state, looked at in another way; the first names stay. -/
def Shift (N : Nat) (s s' : St) : Prop := ∀ (B : Nat → Prop) (w0 : World) (n : Nat) (σ : Sg) (a : Act) (w : World), SimSt B w0 n σ s a w → ∃ σ', σ.LeN N σ' ∧ SimSt B w0 n σ' s' a w

inductive Ex where
  | normal | exit (id : Nat) | ret

def wpLoop (N : Nat) (f : St → (Ex → St → Prop) → Prop) (s : St) (Q : Ex → St → Prop) (_ : Hold f := .mk) (_ : Hold Q := .mk) : Prop :=
  ∃ (I : St → Prop) (μ : St → Nat), (∃ s0, Shift N s s0 ∧ I s0) ∧ ∀ s1, I s1 → f s1 fun e s' => match e with
    | .normal => ∃ s2, Shift N s' s2 ∧ I s2 ∧ μ s2 < μ s1
    | e => Q e s'

def shiftW (N : Nat) (s : St) (K : St → Prop) (_ : Hold K := .mk) : Prop := ∃ s', Shift N s s' ∧ K s'

def boolOf : AV → Option Bool
  | .bool b => some b
  | _ => none

def wpc (N : Nat) (P : Program) (S : Spec) : AC → St → (Ex → St → Prop) → Prop
  | .skip, s, Q => Q .normal s
  | .reg ops, s, Q => wps P S ops s (Q .normal)
  | .draw ops, s, Q => wpall P S ops ops.length [] s (Q .normal)
  | .tree t, s, Q => wpt P S t s (Q .normal)
  | .seq a b, s, Q => wpc N P S a s fun e s' => match e with
    | .normal => wpc N P S b s' Q
    | e => Q e s'
  | .cond c x y, s, Q => optW (boolOf (s.ev c)) fun b => brW b (wpc N P S x s Q) (wpc N P S y s Q)
  | .block id c, s, Q => wpc N P S c s fun e s' => match e with
    | .exit i => if i = id then Q .normal s' else Q (.exit i) s'
    | e => Q e s'
  | .loop c, s, Q => wpLoop N (wpc N P S c) s Q
  | .exit id, s, Q => Q (.exit id) s
  | .ret, s, Q => Q .ret s
  | .shift, s, Q => shiftW N s (Q .normal)
  | .bad, _, _ => False

/-- A result: a temporary, or what lies at an address. -/
inductive ARes where
  | tmp (t : Nat)
  | cell (t size : Nat) (agg : Bool)

def resA (s : St) : ARes → Option AV
  | .tmp t => some (s.t t)
  | .cell t size agg => ldVar s.A (s.t t) size agg

def resultsA (s : St) (rs : List ARes) : Option AV :=
  (rs.mapM (resA s)).map fun vs => match vs with
    | [v] => v
    | vs => .tup vs

/-- The result and the heap at a function's end, looked at in another way. -/
def EndS (N : Nat) (r : AV) (A : AHeap) (r' : AV) (A' : AHeap) : Prop := ∀ (B : Nat → Prop) (σ : Sg) (w : World) (v : Value), Sim B σ A w → Rep σ r v → ∃ σ', σ.LeN N σ' ∧ Sim B σ' A' w ∧ Rep σ' r' v

/-- What a function's body owes at its end. -/
def endW (N : Nat) (rs : List ARes) (R : AV → AHeap → Prop) : Ex → St → Prop
  | .normal, s | .ret, s => optW (resultsA s rs) fun r => ∃ r' A', EndS N r s.A r' A' ∧ R r' A'
  | _, _ => False

def argT (args : List AV) : Nat → AV := fun i => (args[i]?).getD (.tup [])
def initSt (args : List AV) (A : AHeap) : St := { t := argT args, A := A }

end Go.Proofs.YtlglgcmpeabdnaaGreatDoorAi

/- First facts on the relation of abstract values and memory. -/
namespace Go.Proofs.YtlglgcmpeabdnaaGreatDoorAi
open Go Go.RowKit
set_option linter.unusedVariables false
set_option linter.unusedSimpArgs false

theorem Sg.Le.refl (σ : Sg) : σ.Le σ := ⟨fun _ _ h => h, fun _ _ h => h, rfl, fun _ _ h => h⟩
theorem Sg.Le.trans {a b c : Sg} (h : a.Le b) (k : b.Le c) : a.Le c := ⟨fun _ _ e => k.mem _ _ (h.mem _ _ e), fun _ _ e => k.nm _ _ (h.nm _ _ e), k.base.trans h.base, fun c e he => k.ty c e (h.ty c e he)⟩
theorem Sg.LeN.refl (n : Nat) (σ : Sg) : σ.LeN n σ := ⟨fun _ _ h => h, fun _ _ _ h => h, rfl, fun _ _ h => h⟩
theorem Sg.LeN.trans {n : Nat} {a b c : Sg} (h : a.LeN n b) (k : b.LeN n c) : a.LeN n c := ⟨fun _ _ e => k.mem _ _ (h.mem _ _ e), fun _ _ hl e => k.nm _ _ hl (h.nm _ _ hl e), k.base.trans h.base, fun c e he => k.ty c e (h.ty c e he)⟩
theorem Sg.Le.toN {σ σ' : Sg} (h : σ.Le σ') (n : Nat) : σ.LeN n σ' := ⟨h.mem, fun b x _ e => h.nm b x e, h.base, h.ty⟩

theorem Keeps.refl (B : Nat → Prop) (w : World) : Keeps B w w := ⟨rfl, rfl, rfl, Nat.le_refl _, fun _ _ => rfl⟩
theorem Keeps.trans {B : Nat → Prop} {a b c : World} (h : Keeps B a b) (k : Keeps B b c) : Keeps B a c :=
  ⟨k.os.trans h.os, k.tape.trans h.tape, k.output.trans h.output, Nat.le_trans h.size k.size, fun i hi => (k.block i hi).trans (h.block i hi)⟩
theorem Keeps.good {P : Program} {B : Nat → Prop} {a b : World} (h : Keeps B a b) (k : GoodP P B a) : GoodP P B b := fun w hw => k w (h.trans hw)
theorem Keeps.mono {B B' : Nat → Prop} {w w' : World} (h : Keeps B w w') (hB : ∀ c, B' c → B c) : Keeps B' w w' := ⟨h.os, h.tape, h.output, h.size, fun k hk => h.block k (hB k hk)⟩
theorem Keeps.below {B : Nat} {w w' : World} (h : Keeps (fun c => c < B) w w') : Below B w w' := ⟨h.os, h.tape, h.output, h.size, h.block⟩
theorem Keeps.alloc {B : Nat → Prop} {w w' : World} (h : Keeps B w w') (hb : ∀ c, B c → c < w'.heap.size) (o : Obj) : Keeps B w (w'.alloc o) :=
  h.trans ⟨rfl, rfl, rfl, by simp, fun i hi => Below.heap_alloc w' o i (hb i hi)⟩

theorem hget_lt : ∀ {l : List (Option (List AV))} {i : Nat} {cs : List AV}, hget l i = some cs → i < l.length
  | [], i, cs, h => by cases h
  | o :: r, i, cs, h => by
    simp only [hget] at h
    split at h
    · subst_vars; simp
    · have := hget_lt h; simp; omega
@[simp] theorem hset_len : ∀ (l : List (Option (List AV))) (i : Nat) (o : Option (List AV)), (hset l i o).length = l.length
  | [], i, o => rfl
  | x :: r, i, o => by
    simp only [hset]
    split
    · rfl
    · simp [hset_len r]
theorem hget_hset : ∀ (l : List (Option (List AV))) (i j : Nat) (o : Option (List AV)), hget (hset l i o) j = if j = i ∧ i < l.length then o else hget l j
  | [], i, j, o => by simp [hset]
  | x :: r, i, j, o => by
    by_cases hi : i = 0
    · subst hi
      by_cases hj : j = 0
      · subst hj; simp [hset, hget]
      · simp [hset, hget, hj]
    · by_cases hj : j = 0
      · subst hj; simp [hset, hget, hi, Ne.symm hi]
      · simp only [hset, if_neg hi, hget, if_neg hj, hget_hset r]
        have : (j - 1 = i - 1 ∧ i - 1 < r.length) ↔ (j = i ∧ i < (x :: r).length) := by simp; omega
        simp only [this]
theorem hget_append : ∀ (l k : List (Option (List AV))) (i : Nat), hget (l ++ k) i = if i < l.length then hget l i else hget k (i - l.length)
  | [], k, i => by simp
  | x :: r, k, i => by
    by_cases hi : i = 0
    · subst hi; simp [hget]
    · simp only [List.cons_append, hget, if_neg hi, hget_append r, List.length_cons]
      have h1 : (i - 1 < r.length) ↔ (i < r.length + 1) := by omega
      have h2 : i - 1 - r.length = i - (r.length + 1) := by omega
      simp only [h1, h2]
@[simp] theorem hset_hset : ∀ (l : List (Option (List AV))) (i : Nat) (o o' : Option (List AV)), hset (hset l i o) i o' = hset l i o'
  | [], _, _, _ => rfl
  | x :: r, i, o, o' => by
    by_cases h : i = 0
    · simp [hset, h]
    · simp [hset, h, hset_hset r]
@[simp] theorem AHeap.set_n (A : AHeap) (b : Nat) (cs : List AV) : (A.set b cs).n = A.n := by simp [AHeap.set, AHeap.n]
@[simp] theorem AHeap.del_n (A : AHeap) (b : Nat) : (A.del b).n = A.n := by simp [AHeap.del, AHeap.n]
@[simp] theorem AHeap.push_n (A : AHeap) (cs : List AV) : (A.push cs).n = A.n + 1 := by simp [AHeap.push, AHeap.n]
theorem AHeap.lt {A : AHeap} {b : Nat} {cs : List AV} (h : A b = some cs) : b < A.n := hget_lt h
theorem AHeap.push_at (A : AHeap) (cs : List AV) (i : Nat) : (A.push cs) i = if i = A.n then some cs else A i := by
  simp only [AHeap.push, hget_append, AHeap.n]
  by_cases h : i < A.l.length
  · rw [if_pos h, if_neg (by omega)]
  · rw [if_neg h]
    by_cases h2 : i = A.l.length
    · subst h2; simp [hget]
    · rw [if_neg h2]
      cases h3 : hget A.l i with
      | none => simp [hget]; omega
      | some c => exact absurd (hget_lt h3) h
theorem AHeap.set_at (A : AHeap) (b : Nat) (cs : List AV) (i : Nat) : (A.set b cs) i = if i = b ∧ b < A.n then some cs else A i := hget_hset _ _ _ _
theorem AHeap.del_at (A : AHeap) (b i : Nat) : (A.del b) i = if i = b then none else A i := by
  simp only [AHeap.del, hget_hset]
  by_cases h : i = b
  · subst h
    by_cases h2 : i < A.l.length
    · simp [h2]
    · simp only [h2, and_false, if_false, if_true]
      cases h3 : hget A.l i with
      | none => rfl
      | some c => exact absurd (hget_lt h3) h2
  · simp [h]
theorem Sg.Le.cell {σ σ' : Sg} (h : σ.Le σ') {b off : Nat} {v : Value} (e : σ.cell b off = some v) : σ'.cell b off = some v := by
  unfold Sg.cell at *
  cases hm : σ.mem b with
  | none => simp [hm] at e
  | some o => rw [h.mem b o hm]; rw [hm] at e; exact e

theorem ltL_get {n : Nat} : ∀ {cs : List AV}, ltL n cs = true → ∀ (i : Nat) (x : AV), cs[i]? = some x → x.lt n = true
  | [], _, i, x, hx => by simp at hx
  | c :: cs, h, i, x, hx => by
    simp only [ltL, Bool.and_eq_true] at h
    cases i with
    | zero => simp at hx; subst hx; exact h.1
    | succ i => exact ltL_get h.2 i x (by simpa using hx)
theorem ltL_of {n : Nat} : ∀ {cs : List AV}, (∀ x ∈ cs, x.lt n = true) → ltL n cs = true
  | [], _ => rfl
  | c :: cs, h => by
    simp only [ltL, Bool.and_eq_true]
    exact ⟨h c (List.mem_cons_self ..), ltL_of fun x hx => h x (List.mem_cons_of_mem _ hx)⟩
mutual
theorem lt_mono {m n : Nat} (h : m ≤ n) : ∀ x : AV, x.lt m = true → x.lt n = true
  | .ptr b _, hx => by simp only [AV.lt, decide_eq_true_eq] at *; omega
  | .ref b _ _ _ _, hx => by simp only [AV.lt, decide_eq_true_eq] at *; omega
  | .ep v _ _, hx => by simp only [AV.lt] at *; exact lt_mono h v hx
  | .fn _ cs, hx => by simp only [AV.lt] at *; exact ltL_mono h cs hx
  | .agg cs, hx => by simp only [AV.lt] at *; exact ltL_mono h cs hx
  | .tup cs, hx => by simp only [AV.lt] at *; exact ltL_mono h cs hx
  | .bool _, _ | .int _ _, _ | .str _, _ | .sl _ _, _ | .nilp, _ | .nilf, _ | .nili, _ | .iface, _ | .mv _ _, _ | .any, _ => rfl
theorem ltL_mono {m n : Nat} (h : m ≤ n) : ∀ cs : List AV, ltL m cs = true → ltL n cs = true
  | [], _ => rfl
  | x :: r, hx => by
    simp only [ltL, Bool.and_eq_true] at *
    exact ⟨lt_mono h x hx.1, ltL_mono h r hx.2⟩
end
theorem renL_map (f : Nat → Nat) : ∀ cs : List AV, renL f cs = cs.map (AV.ren f)
  | [] => rfl
  | c :: cs => by rw [renL, renL_map f cs]; rfl

theorem Rep.mono' {σ σ' : Sg} (hmem : ∀ b o, σ.mem b = some o → σ'.mem b = some o) (hnm : ∀ b x, σ.nm b = some x → σ'.nm b = some x) (hty : ∀ c e, σ.ty c = some e → σ'.ty c = some e) {x : AV} {v : Value} (r : Rep σ x v) : Rep σ' x v := by
  have hcell : ∀ {b off : Nat} {v : Value}, σ.cell b off = some v → σ'.cell b off = some v := by
    intro b off v e
    unfold Sg.cell at *
    cases hm : σ.mem b with
    | none => simp [hm] at e
    | some o => rw [hmem b o hm]; rw [hm] at e; exact e
  induction r with
  | bool b => exact .bool b
  | int k n => exact .int k n
  | str s => exact .str s
  | any v => exact .any v
  | ptr b off c sz h1 => exact .ptr b off c sz (hnm _ _ h1)
  | slnil t a cap h1 h2 h3 => exact .slnil t a cap h1 h2 h3
  | sl xs t b off s cap val h1 h2 h3 h4 h5 h6 h7 h8 ih => exact .sl xs t b off s cap val h1 h2 h3 h4 (fun i x hx j c hc => hcell (h5 i x hx j c hc)) ih h7 h8
  | ref b e o n t ad cap c sz h1 h2 h3 h4 h5 h6 h7 h8 => exact .ref b e o n t ad cap c sz h1 h2 h3 h4 (hnm _ _ h5) h6 h7 fun ht => ⟨(h8 ht).1, hty c _ (h8 ht).2⟩
  | epsl xs t i off x b o val h1 h2 h3 h4 h5 ih => exact .epsl xs t i off x b o val h1 (fun j c hc => hcell (h2 j c hc)) ih h4 h5
  | epref b e o n t i off c sz h1 => exact .epref b e o n t i off c sz (hnm _ _ h1)
  | eptr b e c h1 h2 => exact .eptr b e c (hnm _ _ h1) (hty c e h2)
  | fn f caps vs h1 h2 ih => exact .fn f caps vs h1 ih
  | mv f first vs h => exact .mv f first vs h
  | nilp => exact .nilp
  | nilf => exact .nilf
  | nili => exact .nili
  | iface t v => exact .iface t v
  | agg cs vs h1 h2 h3 ih => exact .agg cs vs h1 h2 ih
  | tup cs vs h1 h2 ih => exact .tup cs vs h1 ih
theorem Rep.mono {σ σ' : Sg} (h : σ.Le σ') {x : AV} {v : Value} (r : Rep σ x v) : Rep σ' x v := r.mono' h.mem h.nm h.ty

/-- What has only names below a number is seen the same where these names mean the same. -/
theorem Rep.low' {n : Nat} {σ σ' : Sg} (hmem : ∀ b o, σ.mem b = some o → σ'.mem b = some o) (hnm : ∀ b x, b < n → σ.nm b = some x → σ'.nm b = some x) (hty : ∀ c e, 0 < n → σ.ty c = some e → σ'.ty c = some e) {x : AV} {v : Value} (r : Rep σ x v) (hl : x.lt n = true) : Rep σ' x v := by
  have hc : ∀ {b off : Nat} {v : Value}, σ.cell b off = some v → σ'.cell b off = some v := by
    intro b off v e
    unfold Sg.cell at *
    cases hm : σ.mem b with
    | none => simp [hm] at e
    | some o => rw [hmem b o hm]; rw [hm] at e; exact e
  have h0 : ∀ {cs : List AV}, ltL 0 cs = true → ∀ (j : Nat) (c : AV), cs[j]? = some c → c.lt n = true := by
    intro cs hcs j c hj
    have h1 := ltL_get hcs j c hj
    exact lt_mono (Nat.zero_le n) c h1
  induction r with
  | bool b => exact .bool b
  | int k n => exact .int k n
  | str s => exact .str s
  | any v => exact .any v
  | ptr b off c sz h1 => exact .ptr b off c sz (hnm _ _ (of_decide_eq_true hl) h1)
  | slnil t a cap h1 h2 h3 => exact .slnil t a cap h1 h2 h3
  | sl xs t b off s cap val h1 h2 h3 h4 h5 h6 h7 h8 ih => exact .sl xs t b off s cap val h1 h2 h3 h4 (fun i x hx j c hj => hc (h5 i x hx j c hj)) (fun i x hx j c hj => ih i x hx j c hj (h0 (h8 i x hx) j c hj)) h7 h8
  | ref b e o n t ad cap c sz h1 h2 h3 h4 h5 h6 h7 h8 => exact .ref b e o n t ad cap c sz h1 h2 h3 h4 (hnm _ _ (of_decide_eq_true hl) h5) h6 h7 fun ht => ⟨(h8 ht).1, hty c _ (Nat.lt_of_le_of_lt (Nat.zero_le b) (of_decide_eq_true hl)) (h8 ht).2⟩
  | epsl xs t i off x b o val h1 h2 h3 h4 h5 ih => exact .epsl xs t i off x b o val h1 (fun j c hj => hc (h2 j c hj)) (fun j c hj => ih j c hj (h0 h5 j c hj)) h4 h5
  | epref b e o n t i off c sz h1 => exact .epref b e o n t i off c sz (hnm _ _ (of_decide_eq_true (by simpa [AV.lt] using hl)) h1)
  | eptr b e c h1 h2 =>
    have hb : b < n := of_decide_eq_true (by simpa [AV.lt] using hl)
    exact .eptr b e c (hnm _ _ hb h1) (hty c e (by omega) h2)
  | fn f caps vs h1 h2 ih => exact .fn f caps vs h1 fun i c v hi hv => ih i c v hi hv (ltL_get hl i c hi)
  | mv f first vs h => exact .mv f first vs h
  | nilp => exact .nilp
  | nilf => exact .nilf
  | nili => exact .nili
  | iface t v => exact .iface t v
  | agg cs vs h1 h2 h3 ih => exact .agg cs vs h1 h2 fun i c v hi hv => ih i c v hi hv (ltL_get hl i c hi)
  | tup cs vs h1 h2 ih => exact .tup cs vs h1 fun i c v hi hv => ih i c v hi hv (ltL_get hl i c hi)
theorem Rep.low {n : Nat} {σ σ' : Sg} (h : σ.LeN n σ') {x : AV} {v : Value} (r : Rep σ x v) (hl : x.lt n = true) : Rep σ' x v := r.low' h.mem h.nm (fun c e _ => h.ty c e) hl

theorem looseL_len : ∀ cs : List AV, (looseL cs).length = cs.length
  | [] => rfl
  | x :: r => by simp [looseL, looseL_len r]
theorem RepL.mono {σ σ' : Sg} (h : σ.Le σ') {xs : List AV} {vs : List Value} (r : RepL σ xs vs) : RepL σ' xs vs := ⟨r.1, fun i c v hc hv => (r.2 i c v hc hv).mono h⟩
theorem RepL.nil (σ : Sg) : RepL σ [] [] := ⟨rfl, by simp⟩
theorem RepL.cons {σ : Sg} {x : AV} {v : Value} {xs : List AV} {vs : List Value} (h : Rep σ x v) (r : RepL σ xs vs) : RepL σ (x :: xs) (v :: vs) :=
  ⟨by simp [r.1], fun i c u hc hu => by
    cases i with
    | zero => simp at hc hu; subst hc; subst hu; exact h
    | succ i => exact r.2 i c u (by simpa using hc) (by simpa using hu)⟩
theorem RepL.append {σ : Sg} {xs ys : List AV} {vs us : List Value} (h : RepL σ xs vs) (k : RepL σ ys us) : RepL σ (xs ++ ys) (vs ++ us) :=
  ⟨by simp [h.1, k.1], fun i c u hc hu => by
    rcases Nat.lt_or_ge i xs.length with hi | hi
    · rw [List.getElem?_append_left hi] at hc
      rw [List.getElem?_append_left (h.1 ▸ hi)] at hu
      exact h.2 i c u hc hu
    · rw [List.getElem?_append_right hi] at hc
      rw [List.getElem?_append_right (h.1 ▸ hi), ← h.1] at hu
      exact k.2 _ c u hc hu⟩
theorem RepL.head {σ : Sg} {x : AV} {xs : List AV} {vs : List Value} (r : RepL σ (x :: xs) vs) : ∃ v us, vs = v :: us ∧ Rep σ x v ∧ RepL σ xs us := by
  obtain ⟨hl, hr⟩ := r
  cases vs with
  | nil => simp at hl
  | cons v us => exact ⟨v, us, rfl, hr 0 x v rfl rfl, by simpa using hl, fun i c u hc hu => hr (i + 1) c u (by simpa using hc) (by simpa using hu)⟩

mutual
theorem rep_loose {σ : Sg} : ∀ (x : AV) (v : Value), Rep σ x v → Rep σ x.loose v
  | .sl xs t, v, h => by
    cases h with
    | slnil _ a cap h1 h2 h3 => exact .slnil false a cap (fun h => by cases h) h2 h3
    | sl _ _ b off s cap val h1 h2 h3 h4 h5 h6 h7 h8 => exact .sl xs false b off s cap val h1 h2 (fun h => by cases h) h4 h5 h6 h7 h8
  | .fn g cs, v, h => by
    cases h with
    | fn _ _ vs h1 h2 => exact .fn g _ vs (by rw [looseL_len]; exact h1) (repL_loose cs vs h2)
  | .agg cs, v, h => by
    cases h with
    | agg _ vs h1 h2 h3 => exact .agg _ vs (by rw [looseL_len]; exact h1) h2 (repL_loose cs vs h3)
  | .tup cs, v, h => by
    cases h with
    | tup _ vs h1 h3 => exact .tup _ vs (by rw [looseL_len]; exact h1) (repL_loose cs vs h3)
  | .bool _, _, h | .int _ _, _, h | .str _, _, h | .ptr _ _, _, h | .ref _ _ _ _ _, _, h | .ep _ _ _, _, h | .nilp, _, h | .nilf, _, h | .nili, _, h | .iface, _, h | .mv _ _, _, h | .any, _, h => h
theorem repL_loose {σ : Sg} : ∀ (cs : List AV) (vs : List Value), (∀ (i : Nat) (c : AV) (v : Value), cs[i]? = some c → vs[i]? = some v → Rep σ c v) → ∀ (i : Nat) (c : AV) (v : Value), (looseL cs)[i]? = some c → vs[i]? = some v → Rep σ c v
  | [], vs, _, i, c, v, hc, _ => by simp [looseL] at hc
  | x :: cs, [], _, i, c, v, _, hv => by simp at hv
  | x :: cs, u :: us, h, 0, c, v, hc, hv => by
    simp [looseL] at hc hv
    subst hc; subst hv
    exact rep_loose x u (h 0 x u rfl rfl)
  | x :: cs, u :: us, h, i + 1, c, v, hc, hv => repL_loose cs us (fun i c v h1 h2 => h (i + 1) c v (by simpa using h1) (by simpa using h2)) i c v (by simpa [looseL] using hc) (by simpa using hv)
end
theorem RepL.loose {σ : Sg} {cs : List AV} {vs : List Value} (h : RepL σ cs vs) : RepL σ (looseL cs) vs := ⟨by rw [looseL_len]; exact h.1, repL_loose cs vs h.2⟩
theorem T.loose {P : Program} {f : FuncId} {args : List AV} {A : AHeap} {R : AV → AHeap → Prop} (h : T P f (looseL args) A R) : T P f args A R := ⟨h.1, fun B w0 σ w vs hG hb hs ha => h.2 B w0 σ w vs hG hb hs ha.loose⟩

/-- Cells of a value. -/
theorem Rep.cells {σ : Sg} {x : AV} {v : Value} (h : Rep σ x v) (hs : x.solid = true) : RepL σ x.cells v.cells.toList := by
  cases h with
  | agg cs vs hl h1 hr => exact ⟨by simpa [Value.cells] using hl, fun i c u hc hu => hr i c u hc (by simpa [Value.cells] using hu)⟩
  | sl xs t b off s cap val h1 h2 h3 h4 h5 h6 h7 h8 => exact RepL.cons (.sl xs t b off s cap val h1 h2 h3 h4 h5 h6 h7 h8) (RepL.nil σ)
  | slnil t a cap h1 h2 h3 => exact RepL.cons (.slnil t a cap h1 h2 h3) (RepL.nil σ)
  | ref b e o n t ad cap c sz h1 h2 h3 h4 h5 h6 h7 h8 => exact RepL.cons (.ref b e o n t ad cap c sz h1 h2 h3 h4 h5 h6 h7 h8) (RepL.nil σ)
  | epsl xs t i off x b o val h1 h2 h3 h4 h5 => exact RepL.cons (.epsl xs t i off x b o val h1 h2 h3 h4 h5) (RepL.nil σ)
  | fn f caps vs h1 h2 => exact RepL.cons (.fn f caps vs h1 h2) (RepL.nil σ)
  | mv f first vs h => exact RepL.cons (.mv f first vs h) (RepL.nil σ)
  | tup cs vs h1 h2 => cases hs
  | any v => cases hs
  | bool b => exact RepL.cons (.bool b) (RepL.nil σ)
  | int k n => exact RepL.cons (.int k n) (RepL.nil σ)
  | str s => exact RepL.cons (.str s) (RepL.nil σ)
  | ptr b off c sz h1 => exact RepL.cons (.ptr b off c sz h1) (RepL.nil σ)
  | epref b e o n t i off c sz h1 => exact RepL.cons (.epref b e o n t i off c sz h1) (RepL.nil σ)
  | eptr b e c h1 h2 => exact RepL.cons (.eptr b e c h1 h2) (RepL.nil σ)
  | nilp => exact RepL.cons .nilp (RepL.nil σ)
  | nilf => exact RepL.cons .nilf (RepL.nil σ)
  | nili => exact RepL.cons .nili (RepL.nil σ)
  | iface t v => exact RepL.cons (.iface t v) (RepL.nil σ)

theorem Rep.one {σ : Sg} {x : AV} {v : Value} (h : Rep σ x v) (hx : x.one = true) : v.oneCell' = true := by
  cases h <;> first | rfl | (simp [AV.one] at hx)
theorem Rep.cells_one {σ : Sg} {x : AV} {v : Value} (h : Rep σ x v) (hx : x.solid = true) : ∀ u ∈ v.cells.toList, u.oneCell' = true := by
  cases h with
  | agg cs vs hl h1 hr => intro u hu; exact h1 u (by simpa [Value.cells] using hu)
  | tup cs vs hl hr => simp [AV.solid] at hx
  | any v => simp [AV.solid] at hx
  | _ => intro u hu; simp [Value.cells] at hu; subst hu; rfl
theorem Rep.cells_length {σ : Sg} {x : AV} {v : Value} (h : Rep σ x v) (hs : x.solid = true) : x.cells.length = v.cells.size := by
  have := (h.cells hs).1
  simpa using this

theorem AHeap.le.refl (A : AHeap) : A.le A := fun _ _ h => h
theorem AHeap.le.trans {A B C : AHeap} (h : A.le B) (k : B.le C) : A.le C := fun b cs e => k b cs (h b cs e)
theorem AHeap.le_push (A : AHeap) (cs : List AV) : A.le (A.push cs) := fun b c h => by
  rw [AHeap.push_at, if_neg (by have := AHeap.lt h; omega)]; exact h
theorem AHeap.del_le (A : AHeap) (b : Nat) : (A.del b).le A := fun i c e => by
  rw [AHeap.del_at] at e
  split at e
  · cases e
  · exact e
theorem AHeap.ext' {A B : AHeap} (h : A.l = B.l) : A = B := by cases A; cases B; simp at h; rw [h]
theorem hset_same : ∀ {l : List (Option (List AV))} {b : Nat} {cs : List AV}, hget l b = some cs → hset l b (some cs) = l
  | [], b, cs, h => by cases h
  | o :: r, b, cs, h => by
    simp only [hget] at h
    simp only [hset]
    split
    · rename_i hb; rw [if_pos hb] at h; rw [h]
    · rename_i hb; rw [if_neg hb] at h; rw [hset_same h]
theorem AHeap.set_eq {A : AHeap} {b : Nat} {cs : List AV} (h : A b = some cs) : A.set b cs = A := AHeap.ext' (hset_same h)

/-- Objects that are owned no more. -/
theorem Sim.drop {B : Nat → Prop} {σ : Sg} {A A' : AHeap} {w : World} (h : Sim B σ A w) (hl : A'.le A) (hn : A'.n = A.n) : Sim B σ A' w :=
  ⟨h.base, h.mem, h.low, fun b c n e => by rw [hn]; exact h.nm b c n e, fun b e => h.tot b (by rw [← hn]; exact e), fun b cs e => h.own b cs (hl b cs e), fun b b' cs cs' c n n' e1 e2 => h.inj b b' cs cs' c n n' (hl _ _ e1) (hl _ _ e2), h.ty⟩

theorem Sim.freshB {B : Nat → Prop} {σ : Sg} {A : AHeap} {w : World} (h : Sim B σ A w) : ¬ B w.heap.size := fun hb => Nat.lt_irrefl _ (h.base _ hb)
theorem Sim.freshMem {B : Nat → Prop} {σ : Sg} {A : AHeap} {w : World} (h : Sim B σ A w) : σ.mem w.heap.size = none := by
  cases e : σ.mem w.heap.size with
  | none => rfl
  | some o => exact absurd (Array.getElem?_eq_some_iff.1 (h.mem _ _ e)).1 (Nat.lt_irrefl _)
theorem Sim.freshNm {B : Nat → Prop} {σ : Sg} {A : AHeap} {w : World} (h : Sim B σ A w) : σ.nm A.n = none := by
  cases e : σ.nm A.n with
  | none => rfl
  | some x => exact absurd (h.nm _ x.1 x.2 e).1 (Nat.lt_irrefl _)
theorem Sim.nmLt {B : Nat → Prop} {σ : Sg} {A : AHeap} {w : World} (h : Sim B σ A w) {b c n : Nat} (e : σ.nm b = some (c, n)) : c < w.heap.size := by
  obtain ⟨_, cs, t, fr, hh, _⟩ := h.nm _ _ _ e
  exact (Array.getElem?_eq_some_iff.1 hh).1

/-- The world has drawn an answer. -/
theorem Owns.same {B : Nat → Prop} {σ : Sg} {w w' : World} {b : Nat} {cs : List AV} (h : Owns B σ w b cs) (hw : ∀ c n, σ.nm b = some (c, n) → w'.heap[c]? = w.heap[c]?) : Owns B σ w' b cs := by
  obtain ⟨c, cur, e, h1, h2, h3, h4, h5⟩ := h
  exact ⟨c, cur, e, h1, h2, h3, by rw [hw _ _ h1]; exact h4, h5⟩
theorem Sim.drew {B : Nat → Prop} {σ : Sg} {A : AHeap} {w : World} (h : Sim B σ A w) : Sim B σ A w.drew := ⟨h.base, h.mem, h.low, h.nm, h.tot, h.own, h.inj, h.ty⟩

/-- Blocks that are new to what is known. -/
theorem Sim.grow {B : Nat → Prop} {σ : Sg} {A : AHeap} {w : World} (h : Sim B σ A w) (o : Obj) : Sim B σ A (w.alloc o) := by
  refine ⟨fun c hc => Nat.lt_of_lt_of_le (h.base c hc) (by simp), fun b o' e => ?_, h.low, fun b c n e => ?_, h.tot, fun b cs e => (h.own b cs e).same fun c n hn => Below.heap_alloc w o c (h.nmLt hn), h.inj, fun c e hc => ?_⟩
  · have hh := h.mem b o' e
    rw [Below.heap_alloc w o b (Array.getElem?_eq_some_iff.1 hh).1]; exact hh
  · obtain ⟨h1, cs, e', fr, hh, hn⟩ := h.nm b c n e
    exact ⟨h1, cs, e', fr, by rw [Below.heap_alloc w o c (Array.getElem?_eq_some_iff.1 hh).1]; exact hh, hn⟩
  · obtain ⟨cs, fr, hh⟩ := h.ty c e hc
    exact ⟨cs, fr, by rw [Below.heap_alloc w o c (Array.getElem?_eq_some_iff.1 hh).1]; exact hh⟩

/-- A new name. -/
def Sg.withNm (σ : Sg) (b c n : Nat) : Sg := { σ with nm := fun i => if i = b then some (c, n) else σ.nm i }
theorem Sg.le_withNm {σ : Sg} {b c n : Nat} (h : σ.nm b = none) : σ.Le (σ.withNm b c n) :=
  ⟨fun _ _ e => e, fun i m e => by
    by_cases hi : i = b
    · subst hi; rw [h] at e; cases e
    · simpa [Sg.withNm, hi] using e, rfl, fun _ _ h => h⟩
theorem Sg.withNm_at (σ : Sg) (b c n i : Nat) : (σ.withNm b c n).nm i = if i = b then some (c, n) else σ.nm i := rfl
theorem Owns.mono {B : Nat → Prop} {σ σ' : Sg} {w : World} {b : Nat} {cs : List AV} (h : Owns B σ w b cs) (hle : σ.Le σ') (hm : σ'.mem = σ.mem) : Owns B σ' w b cs := by
  obtain ⟨c, cur, e, h1, h2, h3, h4, h5, h6⟩ := h
  exact ⟨c, cur, e, hle.nm _ _ h1, h2, by rw [hm]; exact h3, h4, h5, fun j x hx => by
    obtain ⟨v, k1, k2, k3⟩ := h6 j x hx
    exact ⟨v, k1, k2.mono hle, k3⟩⟩

/-- A new name for a block that no other name owns. -/
theorem Sim.name {B : Nat → Prop} {σ : Sg} {A : AHeap} {w : World} (h : Sim B σ A w) {c : Nat} {cur : Array Value} {e : TypeId} {cs : List AV} (hB : ¬ B c) (hm : σ.mem c = none) (hh : w.heap[c]? = some (.cells cur e (0, 0)))
    (hl : cs.length ≤ cur.size) (hr : ∀ (j : Nat) x, cs[j]? = some x → ∃ v, cur[j]? = some v ∧ Rep σ x v ∧ v.oneCell' = true) (ho : ∀ b cs n, A b = some cs → σ.nm b ≠ some (c, n)) :
    σ.Le (σ.withNm A.n c cur.size) ∧ Sim B (σ.withNm A.n c cur.size) (A.push cs) w := by
  have hle : σ.Le (σ.withNm A.n c cur.size) := Sg.le_withNm h.freshNm
  refine ⟨hle, h.base, h.mem, h.low, fun b c' n e' => ?_, fun b hb => ?_, fun b ob e' => ?_, fun b b' o o' c' n n' e1 e2 e3 e4 => ?_, h.ty⟩
  · rw [Sg.withNm_at] at e'
    rw [AHeap.push_n]
    split at e'
    · rename_i hb
      injection e' with e'; injection e' with h1 h2
      subst h1; subst h2
      exact ⟨by omega, cur, e, _, hh, rfl⟩
    · obtain ⟨h1, h2⟩ := h.nm b c' n e'
      exact ⟨by omega, h2⟩
  · rw [AHeap.push_n] at hb
    rw [Sg.withNm_at]
    split
    · exact ⟨_, rfl⟩
    · exact h.tot b (by omega)
  · rw [AHeap.push_at] at e'
    split at e'
    · rename_i hb
      subst hb
      obtain rfl := Option.some.inj e'
      exact ⟨c, cur, e, by rw [Sg.withNm_at, if_pos rfl], hB, hm, hh, hl, fun j x hx => by
        obtain ⟨v, h1, h2, h3⟩ := hr j x hx
        exact ⟨v, h1, h2.mono hle, h3⟩⟩
    · exact (h.own b ob e').mono hle rfl
  · rw [AHeap.push_at] at e1 e2
    rw [Sg.withNm_at] at e3 e4
    split at e1
    · rename_i hb
      rw [if_pos hb] at e3
      split at e2
      · rename_i hb'; rw [hb, hb']
      · rename_i hb'
        rw [if_neg hb'] at e4
        injection e3 with e3; injection e3 with e3 _
        subst e3
        exact absurd e4 (ho _ _ _ e2)
    · rename_i hb
      rw [if_neg hb] at e3
      split at e2
      · rename_i hb'
        rw [if_pos hb'] at e4
        injection e4 with e4; injection e4 with e4 _
        subst e4
        exact absurd e3 (ho _ _ _ e1)
      · rename_i hb'
        rw [if_neg hb'] at e4
        exact h.inj b b' o o' c' n n' e1 e2 e3 e4

/-- A new object. -/
theorem Sim.new {B : Nat → Prop} {σ : Sg} {A : AHeap} {w : World} (h : Sim B σ A w) (cells : Array Value) (e : TypeId) (cs : List AV)
    (hl : cs.length ≤ cells.size) (hr : ∀ (j : Nat) c, cs[j]? = some c → ∃ v, cells[j]? = some v ∧ Rep σ c v ∧ v.oneCell' = true) :
    σ.Le (σ.withNm A.n w.heap.size cells.size) ∧ Sim B (σ.withNm A.n w.heap.size cells.size) (A.push cs) (w.alloc (.cells cells e)) :=
  (h.grow (.cells cells e)).name h.freshB h.freshMem (heap_alloc_new w _) hl hr fun b cs n _ e => Nat.lt_irrefl _ (h.nmLt e)


/-! ### plain data -/
theorem leafOf_rep {σ : Sg} {x : AV} {u : Value} (h : leafOf x = some u) : Rep σ x u ∧ u.oneCell' = true := by
  cases x <;> simp only [leafOf] at h <;> first | (cases h; done) | skip
  · obtain rfl := Option.some.inj h; exact ⟨.bool _, rfl⟩
  · obtain rfl := Option.some.inj h; exact ⟨.int _ _, rfl⟩
  · obtain rfl := Option.some.inj h; exact ⟨.str _, rfl⟩
theorem leafOf_eq {σ : Sg} {x : AV} {u v : Value} (h : leafOf x = some u) (hr : Rep σ x v) : v = u := by
  cases x <;> simp only [leafOf] at h <;> first | (cases h; done) | skip
  · obtain rfl := Option.some.inj h; cases hr; rfl
  · obtain rfl := Option.some.inj h; cases hr; rfl
  · obtain rfl := Option.some.inj h; cases hr; rfl
theorem mapM_get {α β : Type} {f : α → Option β} : ∀ {l : List α} {r : List β}, l.mapM f = some r → l.length = r.length ∧ ∀ (i : Nat) x y, l[i]? = some x → r[i]? = some y → f x = some y
  | [], r, h => by
    simp at h
    subst h
    exact ⟨rfl, fun i x y hx => by simp at hx⟩
  | x :: l, r, h => by
    simp only [List.mapM_cons, Option.bind_eq_bind, Option.bind_eq_some_iff, Option.pure_def, Option.some.injEq] at h
    obtain ⟨y, hy, r', hr, rfl⟩ := h
    obtain ⟨h1, h2⟩ := mapM_get hr
    refine ⟨by simp [h1], fun i a b ha hb => ?_⟩
    cases i with
    | zero => simp at ha hb; subst ha; subst hb; exact hy
    | succ i => exact h2 i a b (by simpa using ha) (by simpa using hb)
theorem valOf_rep {σ : Sg} {x : AV} {u : Value} (h : valOf x = some u) : Rep σ x u := by
  cases x with
  | agg cs =>
    simp only [valOf, Option.map_eq_some_iff] at h
    obtain ⟨vs, hvs, rfl⟩ := h
    obtain ⟨h1, h2⟩ := mapM_get hvs
    refine .agg cs vs h1 (fun v hv => ?_) (fun i c v hc hv => (leafOf_rep (h2 i c v hc hv)).1)
    obtain ⟨i, hi⟩ := List.mem_iff_getElem?.1 hv
    have hlt : i < cs.length := by rw [h1]; exact (List.getElem?_eq_some_iff.1 hi).1
    exact (leafOf_rep (σ := σ) (h2 i _ v (List.getElem?_eq_getElem hlt) hi)).2
  | _ => simp only [valOf] at h; exact (leafOf_rep h).1
theorem valOf_eq {σ : Sg} {x : AV} {u v : Value} (h : valOf x = some u) (hr : Rep σ x v) : v = u := by
  cases x with
  | agg cs =>
    simp only [valOf, Option.map_eq_some_iff] at h
    obtain ⟨vs, hvs, rfl⟩ := h
    obtain ⟨h1, h2⟩ := mapM_get hvs
    cases hr with
    | agg _ us h3 h4 h5 =>
      have : us = vs := by
        apply List.ext_getElem?
        intro i
        by_cases hi : i < cs.length
        · have hu : us[i]? = some (us[i]'(by omega)) := List.getElem?_eq_getElem (by omega)
          have hv : vs[i]? = some (vs[i]'(by omega)) := List.getElem?_eq_getElem (by omega)
          have hc : cs[i]? = some cs[i] := List.getElem?_eq_getElem hi
          rw [hu, hv, leafOf_eq (h2 i _ _ hc hv) (h5 i _ _ hc hu)]
        · rw [List.getElem?_eq_none (by omega), List.getElem?_eq_none (by omega)]
      rw [this]
  | _ => simp only [valOf] at h; exact leafOf_eq h hr
theorem rep_valsOf {σ : Sg} {l : List AV} {vs : List Value} (h : l.mapM valOf = some vs) : RepL σ l vs := by
  obtain ⟨h1, h2⟩ := mapM_get h
  exact ⟨h1, fun i c v hc hv => valOf_rep (h2 i c v hc hv)⟩
theorem valsOf_rep {σ : Sg} {l : List AV} {us vs : List Value} (h : RepL σ l us) (hv : l.mapM valOf = some vs) : us = vs := by
  obtain ⟨h1, h2⟩ := mapM_get hv
  apply List.ext_getElem?
  intro i
  by_cases hi : i < l.length
  · have hl := h.1
    have hu : us[i]? = some (us[i]'(by omega)) := List.getElem?_eq_getElem (by omega)
    have hv : vs[i]? = some (vs[i]'(by omega)) := List.getElem?_eq_getElem (by omega)
    have hc : l[i]? = some l[i] := List.getElem?_eq_getElem hi
    rw [hu, hv, valOf_eq (h2 i _ _ hc hv) (h.2 i _ _ hc hu)]
  · have hl := h.1
    rw [List.getElem?_eq_none (by omega), List.getElem?_eq_none (by omega)]

end Go.Proofs.YtlglgcmpeabdnaaGreatDoorAi

/- The abstract code of a function out of its code; that operations that do nothing to memory compute what the abstract ones do. -/
namespace Go.Proofs.YtlglgcmpeabdnaaGreatDoorAi
open Go Go.RowKit
set_option linter.unusedVariables false
set_option linter.unusedSimpArgs false

/-! ### out of the code -/
def ccVal1 : Value → Option AV
  | .bool b => some (.bool b)
  | .int k n => some (.int k n)
  | .string s => some (.str s)
  | .pointer none => some .nilp
  | .slice none 0 0 => some (.sl [] true)
  | .nilFunc => some .nilf
  | .nilIface => some .nili
  | _ => none
def ccVal : Value → Option AV
  | .agg cs => (cs.toList.mapM ccVal1).map .agg
  | v => ccVal1 v
def ccOpd : Operand → Option Opd
  | .tmp n => some (.t n)
  | .const v => (ccVal v).map .c
  | .func f => some (.c (.fn f []))
  | .global _ => none
def ccOpds (xs : Array Operand) : Option (List Opd) := xs.toList.mapM ccOpd
def ccOpt : Option Operand → Option (Option Opd)
  | none => some none
  | some x => (ccOpd x).map some
def aggT (P : Program) (t : TypeId) : Option Bool := (P.underlying t).map fun | .struct _ | .array _ _ => true | _ => false
def szT (P : Program) (t : TypeId) : Option Nat := (P.info? t).map (·.size)
def byT (P : Program) (t : TypeId) : Option Nat := (P.info? t).map (·.bytes)
def zeroT (P : Program) (t : TypeId) : Option (List AV) := ((P.info? t).bind (·.zero)).bind fun z => z.cells.toList.mapM ccVal1
def elT (P : Program) (t : TypeId) : Option TypeId := match P.underlying t with | some (.slice e) => some e | _ => none
def arrT (P : Program) (t : TypeId) : Option (Nat × TypeId) := match P.underlying t with | some (.array n e) => some (n, e) | _ => none
def constI : Operand → Option Int
  | .const (.int _ k) => some k
  | _ => none
def isU8 (P : Program) (t : TypeId) : Bool := match P.underlying t with | some (.int .u8) => true | _ => false
def isStr (P : Program) (t : TypeId) : Bool := match P.underlying t with | some .string => true | _ => false
/-- The kinds of the cells of a type of plain data whose '==' goes cell by cell. -/
def kindsT (P : Program) : Nat → TypeId → Option (List Kd)
  | 0, _ => none
  | d + 1, t => match P.underlying t with
    | some .bool => if szT P t = some 1 then some [.b] else none
    | some (.int k) => if szT P t = some 1 then some [.i k] else none
    | some .string => if szT P t = some 1 then some [.s] else none
    | some (.struct fs) => if P.stoodInHeld t = false then (fs.toList.foldlM (fun (acc : List Kd) f => if f.name ≠ "_" ∧ f.offset = acc.length then (kindsT P d f.type).bind fun ks => if szT P f.type = some ks.length then some (acc ++ ks) else none else none) []) else none
    | _ => none

/-- The cells of a new strings.Builder: a nil pointer and a nil slice. -/
def bldZ : List AV → Bool
  | [.nilp, .sl [] true] => true
  | _ => false
def ccOp (P : Program) : Op → Option AOp
  | .move x | .assign x => (ccOpd x).map .mv
  | .pick c a b => (ccOpd c).bind fun c => (ccOpd a).bind fun a => (ccOpd b).map fun b => .pick c a b
  | .extract x i => (ccOpd x).map fun x => .ext x i
  | .binOp op t x y _ => (ccOpd x).bind fun x => (ccOpd y).bind fun y =>
    (match op with
     | .eql => some (some false)
     | .neq => some (some true)
     | _ => some none).bind fun (eq : Option Bool) =>
    match eq with
    | none => some (.bin op x y)
    | some neg => match P.underlying t with
      | some (.int _) | some .string => some (.bin op x y)
      | some .bool => some (.eqb neg x y)
      | some (.struct _) => if P.eqGuardType P.depth t = false then (kindsT P 20 t).map fun ks => .eqs neg ks x y else none
      | some (.slice _) => (match y with | .c (.sl [] true) => some (.eqn neg x) | _ => none)
      | some (.interface _) => (match y with | .c .nili => some (.eqi neg x) | _ => none)
      | _ => none
  | .unOp op _ x => (ccOpd x).map fun x => .un op x
  | .convert s d x =>
    match P.underlying s, P.underlying d with
    | some (.int _), some (.int k) => (ccOpd x).map fun x => .conv k x
    | some .string, some .string => (ccOpd x).map fun x => .cstr x
    | some (.slice e), some .string => if isU8 P e = true then (ccOpd x).map fun x => .b2s x else none
    | _, _ => none
  | .fieldAddr t x f =>
    match P.underlying t with
    | some (.struct fs) => (fs[f]?).bind fun fd => if ((szT P fd.type).getD 0) = 0 then none else (ccOpd x).map fun x => .fad x fd.offset
    | _ => none
  | .field t x f =>
    match P.underlying t with
    | some (.struct fs) => (fs[f]?).bind fun fd => (szT P fd.type).bind fun n => (aggT P fd.type).bind fun g => (ccOpd x).map fun x => .fld x fd.offset n g
    | _ => none
  | .indexAddr t x i => match arrT P t with
    | none => (elT P t).bind fun e => (szT P e).bind fun n => (ccOpd x).bind fun x => (ccOpd i).map fun i => .iad n x i
    | some ne => (szT P ne.2).bind fun n => (constI i).bind fun k => if 0 ≤ k ∧ k < (ne.1 : Int) then (ccOpd x).map fun x => .fad x (k.toNat * n) else none
  | .index t x i => if isStr P t = true then (ccOpd x).bind fun x => (ccOpd i).map fun i => .idx x i else none
  | .nilCheck x => (ccOpd x).map .nilc
  | .makeFunc (.func f) first captured => if first.size = 0 then (ccOpds captured).map fun cs => .mkf f cs else if captured.size = 0 then (ccOpds first).map fun cs => .mkm f cs else none
  | .slice t x lo hi mx =>
    if isStr P t = true then (match mx with | none => (ccOpd x).bind fun x => (ccOpt lo).bind fun lo => (ccOpt hi).map fun hi => .sls x lo hi | some _ => none)
    else if (mx.isSome && !hi.isSome) = true then none else (elT P t).bind fun e => (szT P e).bind fun n => (ccOpd x).bind fun x => (ccOpt lo).bind fun lo => (ccOpt hi).bind fun hi => (ccOpt mx).map fun mx => .sli n x lo hi mx
  | .build t parts =>
    match P.underlying t with
    | some (.struct fs) => (fs.toList.mapM fun f => (szT P f.type).map fun n => (f.offset, n)).bind fun (places : List (Nat × Nat)) => (zeroT P t).bind fun z =>
        (parts.toList.mapM fun (p : Nat × Operand) => (places[p.1]?).bind fun pl => (ccOpd p.2).map fun x => (pl.1, pl.2, x)).map fun ps => .bld z ps
    | some (.array _ e) => (szT P e).bind fun (n : Nat) => (zeroT P t).bind fun z =>
        (parts.toList.mapM fun (p : Nat × Operand) => (some (p.1 * n, n)).bind fun (pl : Nat × Nat) => (ccOpd p.2).map fun x => (pl.1, pl.2, x)).map fun ps => .bld z ps
    | _ => none
  | .buildSlice t len parts => (elT P t).bind fun e => (szT P e).bind fun n => (zeroT P e).bind fun z =>
      if z.length = n ∧ n ≠ 0 ∧ len * n ≤ 16777216 then (parts.toList.mapM fun (p : Nat × Operand) => (ccOpd p.2).map fun x => (p.1, x)).map fun ps => .bsl n len z ps else none
  | .makeSlice t l c => (elT P t).bind fun e => (szT P e).bind fun n => (byT P e).bind fun by_ => (zeroT P e).bind fun z =>
      if z.length = n then (ccOpd l).bind fun l => (ccOpd c).map fun c => .mks n by_ z l c else none
  | .load t x => (szT P t).bind fun n => (aggT P t).bind fun g => (ccOpd x).map fun x => .ld x n g
  | .store t x v => (szT P t).bind fun n => (ccOpd x).bind fun x => (ccOpd v).map fun v => .st x n v
  | .alloc t => (zeroT P t).map fun z => if bldZ z = true then .allocb t else .alloc z
  | .box t x => (szT P t).bind fun n => (ccOpd x).map fun x => .box n x
  | .call { callee := .value f, args, .. } => (ccOpd f).bind fun f => (ccOpds args).map fun as => .call f as
  | .call { callee := .builtin b, args, argTypes } =>
    match b, args.toList, argTypes.toList with
    | .len, [x], [t] => if isStr P t = true then (ccOpd x).map .lens else if (elT P t).isSome = true then (ccOpd x).map .len else none
    | .append, [s, x], [t, u] => (elT P t).bind fun e => (elT P u).bind fun _ => (szT P e).bind fun n => (byT P e).bind fun by_ => (zeroT P e).bind fun z =>
        if z.length = n ∧ n ≠ 0 then (ccOpd s).bind fun s => (ccOpd x).map fun x => .app n by_ s x else none
    | .copy, [d, x], [t, u] => (elT P t).bind fun e => (elT P u).bind fun _ => (szT P e).bind fun n => if n = 0 then none else (ccOpd d).bind fun d => (ccOpd x).map fun x => .cpy n d x
    | .clear, [x], [t] => (elT P t).bind fun e => (szT P e).bind fun n => (zeroT P e).bind fun z => if z.length = n then (ccOpd x).map fun x => .clr n z x else none
    | .max, [x, y], _ => (ccOpd x).bind fun x => (ccOpd y).map fun y => .max x y
    | .min, [x, y], _ => (ccOpd x).bind fun x => (ccOpd y).map fun y => .min x y
    | _, _, _ => none
  | _ => none

/-- An operation that has no abstract one is `bad`. -/
def ccOper (P : Program) (ops : Array Oper) (o : Oper) : Option AOper :=
  (match o.guard with
    | none => some none
    | some (j, want) => (ops[j]?).bind fun p => p.dst.map fun d => some (d, want)).map fun g =>
  { dst := o.dst, op := (ccOp P o.op).getD .bad, guard := g }

def depsOf (o : Oper) : List Nat := (o.after.toList.filter fun e => Region.binds .any e).map (·.on)

def ccCode (P : Program) : Code → Option AC
  | .skip => some .skip
  | .region _ ops false => (ops.toList.mapM (ccOper P ops)).map .reg
  | .region _ ops true => (ops.toList.mapM fun o => (ccOper P ops o).map fun a => (a, depsOf o)).map .draw
  | .seq a b => (ccCode P a).bind fun a => (ccCode P b).map fun b => .seq a b
  | .cond c x y => (ccOpd c).bind fun c => (ccCode P x).bind fun x => (ccCode P y).map fun y => .cond c x y
  | .block id c => (ccCode P c).map fun c => .block id c
  | .loop c => (ccCode P c).map .loop
  | .exit id => some (.exit id)
  | .ret => some .ret
  | _ => some .bad

def ccRes (P : Program) : ResultVar → Option ARes
  | .tmp t => some (.tmp t)
  | .cell a t => (szT P t).bind fun n => (aggT P t).map fun g => .cell a n g

theorem rep_undef (σ : Sg) : Rep σ (.tup []) undef := .tup [] [] rfl (by simp)

theorem mapM_some_length {α β : Type} (f : α → Option β) : ∀ (l : List α) (r : List β), l.mapM f = some r → r.length = l.length ∧ ∀ (i : Nat) (x : α), l[i]? = some x → ∃ y, r[i]? = some y ∧ f x = some y
  | [], r, h => by
    simp at h
    subst h
    exact ⟨rfl, by simp⟩
  | a :: l, r, h => by
    rw [List.mapM_cons] at h
    cases ha : f a with
    | none => simp [ha] at h
    | some y =>
      cases hl : l.mapM f with
      | none => simp [ha, hl] at h
      | some ys =>
        simp [ha, hl] at h
        subst h
        obtain ⟨h1, h2⟩ := mapM_some_length f l ys hl
        refine ⟨by simp [h1], fun i x hx => ?_⟩
        cases i with
        | zero => simp at hx; subst hx; exact ⟨y, rfl, ha⟩
        | succ i => exact h2 i x (by simpa using hx)

theorem ccVal1_rep {σ : Sg} {v : Value} {x : AV} (h : ccVal1 v = some x) : Rep σ x v ∧ v.oneCell' = true ∧ x.one = true := by
  unfold ccVal1 at h
  split at h <;> first | (obtain rfl := Option.some.inj h) | (cases h)
  · exact ⟨.bool _, rfl, rfl⟩
  · exact ⟨.int _ _, rfl, rfl⟩
  · exact ⟨.str _, rfl, rfl⟩
  · exact ⟨.nilp, rfl, rfl⟩
  · exact ⟨.slnil true none 0 (fun _ => rfl) (Nat.zero_le _) (fun _ => rfl), rfl, rfl⟩
  · exact ⟨.nilf, rfl, rfl⟩
  · exact ⟨.nili, rfl, rfl⟩

theorem ccVals_rep {σ : Sg} {vs : List Value} {xs : List AV} (h : vs.mapM ccVal1 = some xs) : RepL σ xs vs ∧ ∀ v ∈ vs, v.oneCell' = true := by
  obtain ⟨hl, hr⟩ := mapM_some_length _ _ _ h
  refine ⟨⟨hl, fun i c v hc hv => ?_⟩, fun v hv => ?_⟩
  · obtain ⟨y, hy, hf⟩ := hr i v hv
    rw [hy] at hc
    obtain rfl := Option.some.inj hc
    exact (ccVal1_rep hf).1
  · obtain ⟨i, hi⟩ := List.getElem?_of_mem hv
    obtain ⟨y, hy, hf⟩ := hr i v hi
    exact (ccVal1_rep (σ := σ) hf).2.1

theorem ccVal_rep {σ : Sg} {v : Value} {x : AV} (h : ccVal v = some x) : Rep σ x v := by
  unfold ccVal at h
  split at h
  · rename_i cs
    cases hm : cs.toList.mapM ccVal1 with
    | none => simp [hm] at h
    | some xs =>
      simp [hm] at h
      subst h
      obtain ⟨h1, h2⟩ := ccVals_rep (σ := σ) hm
      have := Rep.agg (σ := σ) xs cs.toList h1.1 h2 h1.2
      simpa using this
  · exact (ccVal1_rep h).1

theorem ev_rep {B : Nat → Prop} {n : Nat} {w0 w : World} {σ : Sg} {s : St} {a : Act} (hs : SimSt B w0 n σ s a w) {x : Operand} {y : Opd} (h : ccOpd x = some y) : Rep σ (s.ev y) (a.eval x) := by
  cases x with
  | tmp t => simp [ccOpd] at h; subst h; exact hs.tmps t
  | const v =>
    simp [ccOpd] at h
    obtain ⟨z, hz, rfl⟩ := h
    exact ccVal_rep hz
  | func f => simp [ccOpd] at h; subst h; exact .fn f [] [] rfl (by simp)
  | global g => simp [ccOpd] at h

theorem evs_rep {B : Nat → Prop} {n : Nat} {w0 w : World} {σ : Sg} {s : St} {a : Act} (hs : SimSt B w0 n σ s a w) {xs : Array Operand} {ys : List Opd} (h : ccOpds xs = some ys) : RepL σ (ys.map s.ev) (xs.toList.map a.eval) := by
  obtain ⟨hl, hr⟩ := mapM_some_length _ _ _ h
  refine ⟨by simp [hl], fun i c v hc hv => ?_⟩
  simp only [List.getElem?_map, Option.map_eq_some_iff] at hc hv
  obtain ⟨y, hy, rfl⟩ := hc
  obtain ⟨x, hx, rfl⟩ := hv
  obtain ⟨y', hy', hf⟩ := hr i x hx
  rw [hy] at hy'
  obtain rfl := Option.some.inj hy'
  exact ev_rep hs hf

theorem SimSt.put {B : Nat → Prop} {n : Nat} {w0 w : World} {σ : Sg} {s : St} {a : Act} (hs : SimSt B w0 n σ s a w) {x : AV} {v : Value} (hr : Rep σ x v) (d : Option Nat) (hd : ∀ i, d = some i → i < n) :
    SimSt B w0 n σ (s.put d x) (a.put d v) w := by
  cases d with
  | none => exact hs
  | some d =>
    have hlt := hd d rfl
    refine ⟨hs.sim, fun t => ?_, by simp [Act.put, hs.size], hs.defers, hs.below⟩
    simp only [St.put, putT, Act.put]
    by_cases ht : t = d
    · subst ht
      have : t < a.tmps.size := by rw [hs.size]; exact hlt
      simpa [this] using hr
    · have : d ≠ t := fun e => ht e.symm
      simpa [ht, Array.getElem?_setIfInBounds_ne this] using hs.tmps t

/-- The same state, seen with more knowledge, another heap and another world. -/
theorem SimSt.move {B : Nat → Prop} {n : Nat} {w0 w w' : World} {σ σ' : Sg} {s : St} {a : Act} (hs : SimSt B w0 n σ s a w) (hle : σ.Le σ') {A' : AHeap} (hsim : Sim B σ' A' w') (hb : Keeps B w0 w') :
    SimSt B w0 n σ' { s with A := A' } a w' := ⟨hsim, fun t => (hs.tmps t).mono hle, hs.size, hs.defers, hb⟩

end Go.Proofs.YtlglgcmpeabdnaaGreatDoorAi

/- '==' of plain data. -/
namespace Go.Proofs.YtlglgcmpeabdnaaGreatDoorAi
open Go Go.RowKit
set_option linter.unusedVariables false
set_option linter.unusedSimpArgs false

theorem cellsEq_length : ∀ {ks : List Kd} {xs ys : List AV} {r : Bool}, cellsEq ks xs ys = some r → xs.length = ks.length ∧ ys.length = ks.length
  | [], [], [], _, _ => ⟨rfl, rfl⟩
  | k :: ks, a :: x, b :: y, r, h => by
    simp only [cellsEq, Option.bind_eq_some_iff, Option.map_eq_some_iff] at h
    obtain ⟨p, _, q, hq, _⟩ := h
    have := cellsEq_length hq
    simp [this.1, this.2]
  | [], [], b :: y, _, h => by simp [cellsEq] at h
  | [], a :: x, [], _, h => by simp [cellsEq] at h
  | [], a :: x, b :: y, _, h => by simp [cellsEq] at h
  | k :: ks, [], _, _, h => by simp [cellsEq] at h
  | k :: ks, a :: x, [], _, h => by simp [cellsEq] at h

theorem cellsEq_split : ∀ (n : Nat) (ks : List Kd) (xs ys : List AV) (r : Bool), cellsEq ks xs ys = some r →
    ∃ p q, cellsEq (ks.take n) (xs.take n) (ys.take n) = some p ∧ cellsEq (ks.drop n) (xs.drop n) (ys.drop n) = some q ∧ r = (p && q)
  | 0, ks, xs, ys, r, h => ⟨true, r, by simp [cellsEq], by simpa using h, by simp⟩
  | n + 1, [], [], [], r, h => ⟨true, r, by simp [cellsEq], by simpa using h, by simp⟩
  | n + 1, k :: ks, a :: x, b :: y, r, h => by
    simp only [cellsEq, Option.bind_eq_some_iff, Option.map_eq_some_iff] at h
    obtain ⟨c, hc, d, hd, rfl⟩ := h
    obtain ⟨p, q, hp, hq, rfl⟩ := cellsEq_split n ks x y d hd
    exact ⟨c && p, q, by simp [cellsEq, hc, hp], by simpa using hq, by simp [Bool.and_assoc]⟩
  | n + 1, [], [], b :: y, r, h => by simp [cellsEq] at h
  | n + 1, [], a :: x, [], r, h => by simp [cellsEq] at h
  | n + 1, [], a :: x, b :: y, r, h => by simp [cellsEq] at h
  | n + 1, k :: ks, [], _, r, h => by simp [cellsEq] at h
  | n + 1, k :: ks, a :: x, [], r, h => by simp [cellsEq] at h

/-- The value of a type out of its cells. -/
def mkVal (g : Bool) (us : List Value) : Value := if g then .agg us.toArray else us.getD 0 undef

theorem RepL.drop {σ : Sg} {xs : List AV} {us : List Value} (h : RepL σ xs us) (n : Nat) : RepL σ (xs.drop n) (us.drop n) :=
  ⟨by simp [h.1], fun i c v hc hv => h.2 (n + i) c v (by simpa using hc) (by simpa using hv)⟩
theorem RepL.take {σ : Sg} {xs : List AV} {us : List Value} (h : RepL σ xs us) (n : Nat) : RepL σ (xs.take n) (us.take n) :=
  ⟨by simp [h.1], fun i c v hc hv => by
    rw [List.getElem?_take] at hc hv
    by_cases hi : i < n
    · simp only [hi, if_true] at hc hv; exact h.2 i c v hc hv
    · simp [hi] at hc⟩

theorem run_part (P : Program) (w : World) (t : TypeId) (n : Nat) (g : Bool) (hn : szT P t = some n) (hg : aggT P t = some g) (us : List Value) (off : Nat) (hfit : off + n ≤ us.length) (h1 : g = false → n = 1) :
    (part t us.toArray off).run P w = .ok (mkVal g ((us.drop off).take n)) w := by
  unfold szT at hn
  unfold aggT at hg
  obtain ⟨i, hi, rfl⟩ := Option.map_eq_some_iff.1 hn
  obtain ⟨d, hd, rfl⟩ := Option.map_eq_some_iff.1 hg
  unfold part
  simp only [Sem.run_bind, isAgg, run_underlying hd, Result.andThen_ok]
  cases d with
  | struct fs =>
    simp only [Sem.run_pure, Result.andThen_ok, if_true, sizeOf, typeInfo, Sem.run_bind, run_program, hi, mkVal]
    congr 2
    apply Array.ext'
    simp [List.extract_eq_take_drop]
  | array a e =>
    simp only [Sem.run_pure, Result.andThen_ok, if_true, sizeOf, typeInfo, Sem.run_bind, run_program, hi, mkVal]
    congr 2
    apply Array.ext'
    simp [List.extract_eq_take_drop]
  | _ =>
    have hs := h1 rfl
    have hlt : off < us.length := by omega
    simp only [Sem.run_pure, Result.andThen_ok, Bool.false_eq_true, if_false, mkVal, hs]
    simp [hlt, List.getElem_take, List.getElem_drop]

theorem RepL.single {σ : Sg} {x : AV} {us : List Value} (h : RepL σ [x] us) : ∃ u, us = [u] ∧ Rep σ x u := by
  obtain ⟨v, us', rfl, h1, h2⟩ := h.head
  have := h2.1
  cases us' with
  | nil => exact ⟨v, rfl, h1⟩
  | cons _ _ => simp at this

/-- The fold over a struct's fields. -/
def kindsStep (P : Program) (d : Nat) (acc : List Kd) (f : Field) : Option (List Kd) :=
  if f.name ≠ "_" ∧ f.offset = acc.length then (kindsT P d f.type).bind fun ks => if szT P f.type = some ks.length then some (acc ++ ks) else none else none

theorem kindsT_leaf {P : Program} {d : Nat} {t : TypeId} {ks : List Kd} (h : kindsT P d t = some ks) (hg : aggT P t = some false) : ks.length = 1 := by
  cases d with
  | zero => simp [kindsT] at h
  | succ d =>
    unfold kindsT at h
    split at h
    · split at h <;> simp at h; subst h; rfl
    · split at h <;> simp at h; subst h; rfl
    · split at h <;> simp at h; subst h; rfl
    · rename_i fs hu; unfold aggT at hg; rw [hu] at hg; simp at hg
    · cases h
theorem kindsT_agg {P : Program} {d : Nat} {t : TypeId} {ks : List Kd} (h : kindsT P d t = some ks) : ∃ g, aggT P t = some g := by
  cases d with
  | zero => simp [kindsT] at h
  | succ d =>
    unfold kindsT at h
    unfold aggT
    split at h <;> first | (rename_i hu; exact ⟨_, by rw [hu]; rfl⟩) | (rename_i k hu; exact ⟨_, by rw [hu]; rfl⟩) | cases h

theorem eq_run {P : Program} {σ : Sg} : ∀ (d : Nat) (t : TypeId) (ks : List Kd) (xs ys : List AV) (us vs : List Value) (r g : Bool) (w : World),
    kindsT P d t = some ks → RepL σ xs us → RepL σ ys vs → cellsEq ks xs ys = some r → aggT P t = some g → ∀ D, d ≤ D → (Op.equalIn D t (mkVal g us) (mkVal g vs)).run P w = .ok r w := by
  intro d
  induction d with
  | zero => intro t ks xs ys us vs r g w h; simp [kindsT] at h
  | succ d ih =>
    intro t ks xs ys us vs r g w h hx hy he hg D hD
    obtain ⟨D, rfl⟩ : ∃ D', D = D' + 1 := ⟨D - 1, by omega⟩
    have leaf : ∀ k, ks = [k] → ∃ x y u v, xs = [x] ∧ ys = [y] ∧ us = [u] ∧ vs = [v] ∧ Rep σ x u ∧ Rep σ y v ∧ cellEq k x y = some r := by
      intro k hk
      subst hk
      have hl := cellsEq_length he
      obtain ⟨x, rfl⟩ := List.length_eq_one_iff.1 hl.1
      obtain ⟨y, rfl⟩ := List.length_eq_one_iff.1 hl.2
      obtain ⟨u, rfl, hu⟩ := hx.single
      obtain ⟨v, rfl, hv⟩ := hy.single
      simp [cellsEq] at he
      exact ⟨x, y, u, v, rfl, rfl, rfl, rfl, hu, hv, he⟩
    unfold kindsT at h
    split at h
    · rename_i hu
      split at h <;> simp at h
      obtain ⟨x, y, u, v, rfl, rfl, rfl, rfl, hxu, hyv, hc⟩ := leaf _ h.symm
      have : g = false := by unfold aggT at hg; rw [hu] at hg; simpa using hg.symm
      subst this
      cases x <;> cases y <;> simp [cellEq] at hc
      cases hxu; cases hyv
      subst hc
      simpa [mkVal] using run_equalIn_bool w D t _ _ hu
    · rename_i k hu
      split at h <;> simp at h
      obtain ⟨x, y, u, v, rfl, rfl, rfl, rfl, hxu, hyv, hc⟩ := leaf _ h.symm
      have : g = false := by unfold aggT at hg; rw [hu] at hg; simpa using hg.symm
      subst this
      cases x <;> cases y <;> simp [cellEq] at hc
      obtain ⟨⟨rfl, rfl⟩, rfl⟩ := hc
      cases hxu; cases hyv
      simpa [mkVal] using run_equalIn_int w D t _ _ _ _ hu
    · rename_i hu
      split at h <;> simp at h
      obtain ⟨x, y, u, v, rfl, rfl, rfl, rfl, hxu, hyv, hc⟩ := leaf _ h.symm
      have : g = false := by unfold aggT at hg; rw [hu] at hg; simpa using hg.symm
      subst this
      cases x <;> cases y <;> simp [cellEq] at hc
      cases hxu; cases hyv
      subst hc
      simp only [mkVal, Bool.false_eq_true, if_false, List.getD_eq_getElem?_getD, List.getElem?_cons_zero, Option.getD_some]
      rw [run_equalIn_string w D t _ _ hu, beq_toListBytes]
    · rename_i fs hu
      split at h
      · rename_i hheld
        have : g = true := by unfold aggT at hg; rw [hu] at hg; simpa using hg.symm
        subst this
        have hf : P.fieldsOf t = fs := by simp [Program.fieldsOf, hu]
        simp only [mkVal, if_true]
        rw [run_equalIn_struct (P := P) w D t us.toArray vs.toArray (by rw [hf]; exact hu) hheld, hf]
        have hl := cellsEq_length he
        have key : ∀ (l : List Field) (acc : List Kd) (r : Bool), l.foldlM (kindsStep P d) acc = some ks →
            cellsEq (ks.drop acc.length) (xs.drop acc.length) (ys.drop acc.length) = some r → (Op.eqFields D us.toArray vs.toArray l).run P w = .ok r w := by
          intro l
          induction l with
          | nil =>
            intro acc r hk hr
            simp at hk
            subst hk
            simp only [List.drop_length] at hr
            have e1 : xs.drop acc.length = [] := List.drop_eq_nil_of_le (by omega)
            have e2 : ys.drop acc.length = [] := List.drop_eq_nil_of_le (by omega)
            rw [e1, e2] at hr
            simp [cellsEq] at hr
            subst hr
            rfl
          | cons f l ihl =>
            intro acc r hk hr
            rw [List.foldlM_cons] at hk
            unfold kindsStep at hk
            by_cases hc : f.name ≠ "_" ∧ f.offset = acc.length
            · rw [if_pos hc] at hk
              cases hkf : kindsT P d f.type with
              | none => simp [hkf] at hk
              | some kf =>
                by_cases hz : szT P f.type = some kf.length
                · simp only [hkf, Option.bind_some, hz, if_true] at hk
                  replace hk : l.foldlM (kindsStep P d) (acc ++ kf) = some ks := hk
                  have hpre : ∀ (l : List Field) (a : List Kd), l.foldlM (kindsStep P d) a = some ks → ∃ q, ks = a ++ q := by
                    intro l
                    induction l with
                    | nil => intro a ha; simp at ha; exact ⟨[], by simp [ha]⟩
                    | cons f' l' ih' =>
                      intro a ha
                      rw [List.foldlM_cons] at ha
                      cases hs : kindsStep P d a f' with
                      | none => simp [hs] at ha
                      | some a' =>
                        simp [hs] at ha
                        obtain ⟨q, rfl⟩ := ih' a' ha
                        unfold kindsStep at hs
                        split at hs
                        · simp only [Option.bind_eq_some_iff] at hs
                          obtain ⟨k', _, hs⟩ := hs
                          split at hs
                          · simp at hs; exact ⟨k' ++ q, by rw [← hs, List.append_assoc]⟩
                          · cases hs
                        · cases hs
                  obtain ⟨q, hq⟩ := hpre l _ hk
                  obtain ⟨p1, q1, h1, h2, rfl⟩ := cellsEq_split kf.length _ _ _ _ hr
                  have hkt : (ks.drop acc.length).take kf.length = kf := by
                    rw [hq, List.append_assoc, List.drop_left, List.take_left]
                  rw [hkt] at h1
                  rw [List.drop_drop, List.drop_drop, List.drop_drop] at h2
                  have hrest := ihl (acc ++ kf) q1 hk (by rw [List.length_append]; exact h2)
                  obtain ⟨gf, hgf⟩ := kindsT_agg hkf
                  have hlen : acc.length + kf.length ≤ ks.length := by rw [hq]; simp
                  have hux : us.length = ks.length := by rw [← hx.1]; exact hl.1
                  have hvy : vs.length = ks.length := by rw [← hy.1]; exact hl.2
                  have hone : gf = false → kf.length = 1 := fun e => kindsT_leaf hkf (e ▸ hgf)
                  have ha := run_part P w f.type kf.length gf hz hgf us acc.length (by omega) hone
                  have hb := run_part P w f.type kf.length gf hz hgf vs acc.length (by omega) hone
                  have heq := ih f.type kf _ _ _ _ p1 gf w hkf ((hx.drop acc.length).take kf.length) ((hy.drop acc.length).take kf.length) h1 hgf D (by omega)
                  rw [Op.eqFields]
                  rw [if_pos hc.1, hc.2]
                  simp only [Sem.run_bind, ha, hb, heq, Result.andThen_ok]
                  cases p1
                  · simp
                  · simpa using hrest
                · simp [hkf, hz] at hk
            · rw [if_neg hc] at hk; simp at hk
        exact key fs.toList [] r h (by simpa using he)
      · cases h
    · cases h

end Go.Proofs.YtlglgcmpeabdnaaGreatDoorAi

/- Operations that do nothing to memory compute what the abstract ones do. -/
namespace Go.Proofs.YtlglgcmpeabdnaaGreatDoorAi
open Go Go.RowKit
set_option linter.unusedVariables false
set_option linter.unusedSimpArgs false

theorem add_plain (b o n : Nat) : (⟨b, o, none⟩ : Addr).add n = ⟨b, o + n, none⟩ := by unfold Addr.add; split <;> simp_all

theorem Sim.cell {B : Nat → Prop} {σ : Sg} {A : AHeap} {w : World} (h : Sim B σ A w) {b off : Nat} {v : Value} (e : σ.cell b off = some v) : w.cell? ⟨b, off, none⟩ = some v := by
  unfold Sg.cell at e
  cases hm : σ.mem b with
  | none => simp [hm] at e
  | some o =>
    have hh := h.mem b o hm
    rw [hm] at e
    cases o <;> simp at e
    simp [World.cell?, hh, e]

theorem Sim.ownCell {B : Nat → Prop} {σ : Sg} {A : AHeap} {w : World} (h : Sim B σ A w) {b : Nat} {cs : List AV} (e : A b = some cs) {j : Nat} {x : AV} (hc : cs[j]? = some x) {c sz : Nat} (hn : σ.nm b = some (c, sz)) :
    ∃ u, w.cell? ⟨c, j, none⟩ = some u ∧ Rep σ x u ∧ u.oneCell' = true ∧ w.frozen? ⟨c, j, none⟩ = false := by
  obtain ⟨c', cur, t, hn', _, _, hh, _, hr⟩ := h.own b cs e
  rw [hn] at hn'
  injection hn' with hn'; injection hn' with h1 _
  subst h1
  obtain ⟨v, h1, h2, h3⟩ := hr j x hc
  exact ⟨v, by simp [World.cell?, hh, h1], h2, h3, by simp [World.frozen?, hh]⟩

/-- The address behind an abstract one. -/
theorem addOff_rep {σ : Sg} {p q : AV} {v : Value} {n : Nat} (h : Rep σ p v) (e : p.addOff n = some q) : ∃ ad : Addr, v = .pointer (some ad) ∧ ad.spot = none ∧ Rep σ q (.pointer (some ⟨ad.block, ad.off + n, none⟩)) := by
  cases h <;> simp [AV.addOff] at e
  · rename_i h1
    subst e; exact ⟨_, rfl, rfl, .ptr _ _ _ _ h1⟩
  · rename_i h1 h2 h3 h4 h5
    subst e
    refine ⟨_, rfl, rfl, ?_⟩
    simp only [Nat.add_assoc]
    exact .epsl _ _ _ _ _ _ _ _ h1 h2 h3 h4 h5
  · rename_i b e' o n' t i off c sz h1
    subst e
    refine ⟨_, rfl, rfl, ?_⟩
    simp only [Nat.add_assoc]
    have := Rep.epref (σ := σ) b e' o n' t i (off + n) c sz h1
    simpa [Nat.add_assoc] using this

theorem ldCell_rep {B : Nat → Prop} {σ : Sg} {A : AHeap} {w : World} (hs : Sim B σ A w) {p c : AV} {v : Value} (h : Rep σ p v) (e : ldCell A p = some c) :
    ∃ (ad : Addr) (u : Value), v = .pointer (some ad) ∧ ad.spot = none ∧ w.cell? ad = some u ∧ Rep σ c u ∧ u.oneCell' = true := by
  cases h <;> simp [ldCell] at e
  · rename_i b off c' sz hn
    obtain ⟨cs, hb, hc⟩ := Option.bind_eq_some_iff.1 e
    obtain ⟨u, h1, h2, h3, _⟩ := hs.ownCell hb hc hn
    exact ⟨_, u, rfl, rfl, h1, h2, h3⟩
  · rename_i xs t i off x b o val hx hm hr h1 h5
    simp only [elemCell, hx, Option.bind_some] at e
    exact ⟨_, val off, rfl, rfl, hs.cell (hm off c e), hr off c e, h1 off⟩
  · rename_i b esz o n t i off c' sz hn
    simp only [elemCell] at e
    split at e
    · obtain ⟨cs, hb, hc⟩ := Option.bind_eq_some_iff.1 e
      obtain ⟨u, h1, h2, h3, _⟩ := hs.ownCell hb hc hn
      exact ⟨_, u, rfl, rfl, h1, h2, h3⟩
    · cases e
  · cases e

theorem ldCells_rep {B : Nat → Prop} {σ : Sg} {A : AHeap} {w : World} (hs : Sim B σ A w) {p : AV} {v : Value} (h : Rep σ p v) :
    ∀ (n : Nat) (cs : List AV), ldCells A p n = some cs → ∃ us : List Value, us.length = n ∧ RepL σ cs us ∧ (∀ u ∈ us, u.oneCell' = true) ∧
      (n = 0 ∨ ∃ ad : Addr, v = .pointer (some ad) ∧ ad.spot = none ∧ ∀ (j : Nat) (u : Value), us[j]? = some u → w.cell? ⟨ad.block, ad.off + j, none⟩ = some u)
  | 0, cs, e => by
    simp [ldCells] at e
    subst e
    exact ⟨[], rfl, RepL.nil σ, by simp, .inl rfl⟩
  | n + 1, cs, e => by
    simp only [ldCells, Option.bind_eq_some_iff, Option.map_eq_some_iff] at e
    obtain ⟨cs', h1, q, h2, c, h3, rfl⟩ := e
    obtain ⟨us, hl, hr, h1c, hm⟩ := ldCells_rep hs h n cs' h1
    obtain ⟨ad, rfl, hsp, hq⟩ := addOff_rep h h2
    obtain ⟨ad', u, he, hsp', hc, hu, ho⟩ := ldCell_rep hs hq h3
    obtain rfl : (⟨ad.block, ad.off + n, none⟩ : Addr) = ad' := by injection he with he; injection he
    refine ⟨us ++ [u], by simp [hl], hr.append (RepL.cons hu (RepL.nil σ)), ?_, .inr ⟨ad, rfl, hsp, ?_⟩⟩
    · intro u' hu'
      rcases List.mem_append.1 hu' with h' | h'
      · exact h1c u' h'
      · simp at h'; subst h'; exact ho
    · intro j u' hj
      rcases Nat.lt_or_ge j us.length with hlt | hge
      · rw [List.getElem?_append_left hlt] at hj
        rcases hm with h0 | ⟨ad2, he2, _, hm⟩
        · omega
        · obtain rfl : ad = ad2 := by injection he2 with he2; injection he2
          exact hm j u' hj
      · rw [List.getElem?_append_right hge] at hj
        have : j = us.length := by
          rcases Nat.lt_or_ge (j - us.length) 1 with h' | h'
          · omega
          · rw [List.getElem?_eq_none (by simpa using h')] at hj; cases hj
        subst this
        simp at hj
        subst hj
        rw [hl]; exact hc

theorem addr_eta {ad : Addr} (h : ad.spot = none) : (⟨ad.block, ad.off, none⟩ : Addr) = ad := by cases ad; simp at h; subst h; rfl

theorem run_isAgg {P : Program} {t : TypeId} {g : Bool} (h : aggT P t = some g) (w : World) : (isAgg t).run P w = .ok g w := by
  unfold aggT at h
  obtain ⟨d, hd, rfl⟩ := Option.map_eq_some_iff.1 h
  unfold isAgg
  simp only [Sem.run_bind, run_underlying hd, Result.andThen_ok]
  cases d <;> rfl
theorem run_sizeOf {P : Program} {t : TypeId} {n : Nat} (h : szT P t = some n) (w : World) : (sizeOf t).run P w = .ok n w := by
  unfold szT at h
  obtain ⟨i, hi, rfl⟩ := Option.map_eq_some_iff.1 h
  simp [sizeOf, typeInfo, hi]

theorem ldVar_run {B : Nat → Prop} {P : Program} {σ : Sg} {A : AHeap} {w : World} (hs : Sim B σ A w) {p x : AV} {v : Value} (h : Rep σ p v) {t : TypeId} {n : Nat} {g : Bool} (hn : szT P t = some n) (hg : aggT P t = some g)
    (e : ldVar A p n g = some x) : ∃ u, (Instr.loadAt t v).run P w = .ok u w ∧ Rep σ x u ∧ (g = true ∨ u.oneCell' = true) := by
  unfold ldVar at e
  by_cases hgt : g = true
  · rw [if_pos hgt] at e
    subst hgt
    by_cases h0 : n = 0
    · simp [h0] at e
    · rw [if_neg h0] at e
      obtain ⟨cs, hcs, rfl⟩ := Option.map_eq_some_iff.1 e
      obtain ⟨us, hl, hr, h1, hm⟩ := ldCells_rep hs h _ _ hcs
      obtain ⟨ad, rfl, hsp, hc⟩ := hm.resolve_left h0
      have h2 := run_loadCells_list (P := P) (w := w) ad us (fun j u hj => by
        rw [← addr_eta hsp, add_plain]; exact hc j u hj)
      rw [hl] at h2
      exact ⟨_, by simp [Instr.loadAt, Instr.sureAddr, loadVar, run_isAgg hg, run_sizeOf hn, h2], .agg cs us hr.1 h1 hr.2, .inl rfl⟩
  · rw [if_neg hgt] at e
    simp at hgt
    subst hgt
    obtain ⟨ad, u, rfl, hsp, hc, hu, ho⟩ := ldCell_rep hs h e
    exact ⟨u, by simp [Instr.loadAt, Instr.sureAddr, loadVar, run_isAgg hg, load, Sem.run, hc], hu, .inr ho⟩

end Go.Proofs.YtlglgcmpeabdnaaGreatDoorAi

/- Each operation that does nothing to memory. -/
namespace Go.Proofs.YtlglgcmpeabdnaaGreatDoorAi
open Go Go.RowKit
set_option linter.unusedVariables false
set_option linter.unusedSimpArgs false

variable {P : Program} {σ : Sg} {w : World}

theorem guard_int (op : BinOp) (t : TypeId) (xo yo : Operand) (k k' : IntKind) (a b : Int) : (eqGuard op t xo yo (.int k a) (.int k' b)).run P w = .ok () w := by cases op <;> rfl
theorem guard_str (op : BinOp) (t : TypeId) (xo yo : Operand) (a b : ByteArray) : (eqGuard op t xo yo (.string a) (.string b)).run P w = .ok () w := by cases op <;> rfl
theorem guard_bool (op : BinOp) (t : TypeId) (xo yo : Operand) (a b : Bool) : (eqGuard op t xo yo (.bool a) (.bool b)).run P w = .ok () w := by cases op <;> rfl
theorem intBin_run {op : BinOp} {k : IntKind} {a b : Int} {r : AV} (h : intBin op k a b = some r) (t : TypeId) : ∃ q, (binOp op t (.int k a) (.int k b)).run P w = .ok q w ∧ Rep σ r q := by
  cases op <;> simp only [intBin] at h <;> first
    | (cases h; done)
    | (obtain rfl := Option.some.inj h
       first
       | exact ⟨.int k _, by simp only [binOp, ne_eq, not_true_eq_false, if_false]; rfl, .int _ _⟩
       | exact ⟨.bool _, by simp only [binOp, ne_eq, not_true_eq_false, if_false]; rfl, .bool _⟩)
    | (split at h
       · cases h
       · rename_i h0
         obtain rfl := Option.some.inj h
         exact ⟨.int k _, by simp [binOp, Op.intDiv, h0], .int _ _⟩)

theorem bin_run {op : BinOp} {x y r : AV} {u v : Value} (hx : Rep σ x u) (hy : Rep σ y v) (h : binA op x y = some r) (t : TypeId) (xo yo : Operand) :
    ∃ q, (do eqGuard op t xo yo u v; binOp op t u v : Sem Value).run P w = .ok q w ∧ Rep σ r q := by
  unfold binA at h
  split at h
  · rename_i k a k' b
    split at h <;> simp at h
    rename_i hb
    subst h
    cases hx; cases hy
    refine ⟨_, ?_, .int _ _⟩
    have hb' : ¬ b < 0 := hb
    simp only [Sem.run_bind, guard_int, Result.andThen_ok, binOp, Op.shift, if_neg hb', Sem.run_pure]
  · rename_i k a k' b
    split at h <;> simp at h
    rename_i hb
    subst h
    cases hx; cases hy
    refine ⟨_, ?_, .int _ _⟩
    have hb' : ¬ b < 0 := hb
    simp only [Sem.run_bind, guard_int, Result.andThen_ok, binOp, Op.shift, if_neg hb', Sem.run_pure]
  · rename_i op' k a k' b hshl hshr
    split at h
    · rename_i hk
      subst hk
      cases hx; cases hy
      simp only [Sem.run_bind, guard_int, Result.andThen_ok]
      exact intBin_run h t
    · cases h
  · rename_i a b
    split at h <;> simp at h
    rename_i hz
    subst h
    cases hx; cases hy
    refine ⟨_, ?_, .str _⟩
    have : ¬ (((a.size + b.size : Nat) : Int) > IntKind.i64.max) := by
      have : IntKind.i64.max = 9223372036854775807 := rfl
      omega
    simp only [Sem.run_bind, guard_str, Result.andThen_ok, binOp, Op.stringOp, if_neg this, Sem.run_pure]
  · rename_i a b
    simp at h
    subst h
    cases hx; cases hy
    refine ⟨_, ?_, .bool _⟩
    simp only [Sem.run_bind, guard_str, Result.andThen_ok, binOp, Op.stringOp, Sem.run_pure, beq_toListBytes]
  · rename_i a b
    simp at h
    subst h
    cases hx; cases hy
    refine ⟨_, ?_, .bool _⟩
    simp only [Sem.run_bind, guard_str, Result.andThen_ok, binOp, Op.stringOp, Sem.run_pure]
    simp [bne, beq_toListBytes]
  · cases h

theorem un_run {op : UnOp} {x r : AV} {u : Value} (hx : Rep σ x u) (h : unA op x = some r) : ∃ q, (Op.unary op u).run P w = .ok q w ∧ Rep σ r q := by
  unfold unA at h
  split at h <;> first | (cases h; done) | (obtain rfl := Option.some.inj h; cases hx)
  · exact ⟨_, by simp [Op.unary], .bool _⟩
  · exact ⟨.int _ _, rfl, .int _ _⟩
  · exact ⟨.int _ _, rfl, .int _ _⟩

theorem eqb_run {neg : Bool} {a b : Bool} (t : TypeId) (hu : P.underlying t = some .bool) (xo yo : Operand) (op : BinOp) (ho : op = if neg = true then .neq else .eql) :
    (do eqGuard op t xo yo (.bool a) (.bool b); binOp op t (.bool a) (.bool b) : Sem Value).run P w = .ok (.bool (if neg = true then a != b else a == b)) w := by
  subst ho
  simp only [Sem.run_bind, guard_bool, Result.andThen_ok]
  cases neg
  · simp only [Bool.false_eq_true, if_false, binOp, Sem.run_bind, run_equal_bool w t a b hu, Result.andThen_ok, Sem.run_pure]
  · simp only [if_true, binOp, Sem.run_bind, run_equal_bool w t a b hu, Result.andThen_ok, Sem.run_pure]
    rfl

theorem eqs_run {neg : Bool} {xs ys : List AV} {ks : List Kd} {us vs : List Value} {r : Bool} (t : TypeId) {fs : Array Field} (hu : P.underlying t = some (.struct fs)) (hk : kindsT P 20 t = some ks)
    (hg : P.eqGuardType P.depth t = false) (hx : RepL σ xs us) (hy : RepL σ ys vs) (he : cellsEq ks xs ys = some r) (xo yo : Operand) (op : BinOp) (ho : op = if neg = true then .neq else .eql) :
    (do eqGuard op t xo yo (.agg us.toArray) (.agg vs.toArray); binOp op t (.agg us.toArray) (.agg vs.toArray) : Sem Value).run P w = .ok (.bool (if neg = true then !r else r)) w := by
  have h1 := eq_run 20 t ks xs ys us vs r true w hk hx hy he (by unfold aggT; rw [hu]; rfl) 10000 (by omega)
  simp only [mkVal, if_true] at h1
  have h2 : (Op.equal t (.agg us.toArray) (.agg vs.toArray)).run P w = .ok r w := h1
  have h3 : (eqGuard op t xo yo (.agg us.toArray) (.agg vs.toArray)).run P w = .ok () w := by
    cases op <;> first | rfl | simp [eqGuard, hg]
  subst ho
  simp only [Sem.run_bind, h3, Result.andThen_ok]
  cases neg
  · simp only [Bool.false_eq_true, if_false, binOp, Sem.run_bind, h2, Result.andThen_ok, Sem.run_pure]
  · simp only [if_true, binOp, Sem.run_bind, h2, Result.andThen_ok, Sem.run_pure]

theorem fieldAt_run {p q : AV} {v : Value} {t : TypeId} {fs : Array Field} {f : Nat} {fd : Field} (hp : Rep σ p v) (hu : P.underlying t = some (.struct fs)) (hf : fs[f]? = some fd) (hz : ¬ ((szT P fd.type).getD 0) = 0)
    (e : p.addOff fd.offset = some q) : ∃ u, (Instr.fieldAt t v f).run P w = .ok u w ∧ Rep σ q u := by
  obtain ⟨ad, rfl, hsp, hq⟩ := addOff_rep hp e
  cases hn : szT P fd.type with
  | none => simp [hn] at hz
  | some n =>
    have hn0 : n ≠ 0 := by simpa [hn] using hz
    refine ⟨_, ?_, hq⟩
    simp only [Instr.fieldAt, Sem.run_bind, run_underlying hu, Result.andThen_ok, hf, Instr.sureAddr, Sem.run_pure, fieldPlace, run_sizeOf hn, if_neg hn0]
    rw [← addr_eta hsp, add_plain]

theorem arrAt_run {p q : AV} {v : Value} {t e : TypeId} {len n : Nat} {kk : IntKind} {k : Int} (hp : Rep σ p v) (hu : P.underlying t = some (.array len e)) (hn : szT P e = some n) (hk : 0 ≤ k ∧ k < (len : Int))
    (h : p.addOff (k.toNat * n) = some q) : ∃ u, (Instr.indexAt t v (.int kk k)).run P w = .ok u w ∧ Rep σ q u := by
  obtain ⟨ad, rfl, hsp, hq⟩ := addOff_rep hp h
  refine ⟨_, ?_, hq⟩
  simp only [Instr.indexAt, asIntOf, Sem.run_bind, Sem.run_pure, Result.andThen_ok, run_underlying hu, Instr.sureAddr, if_pos hk, run_sizeOf hn]
  rw [← addr_eta hsp, add_plain]

theorem field_run {x : AV} {v : Value} {t : TypeId} {fs : Array Field} {f n : Nat} {fd : Field} {g : Bool} {cs : List AV} {r : AV} (hx : Rep σ (.agg cs) v) (hu : P.underlying t = some (.struct fs)) (hf : fs[f]? = some fd)
    (hn : szT P fd.type = some n) (hg : aggT P fd.type = some g)
    (e : (if g = true then (if fd.offset + n ≤ cs.length then some (AV.agg ((cs.drop fd.offset).take n)) else none) else cs[fd.offset]?) = some r) : ∃ u, (Instr.field t v f).run P w = .ok u w ∧ Rep σ r u := by
  cases hx with
  | agg cs vs hl h1 hr =>
    simp only [Instr.field, Sem.run_bind, run_underlying hu, Result.andThen_ok, hf, asAgg, Sem.run_pure]
    by_cases hgt : g = true
    · subst hgt
      simp only [if_true] at e
      split at e <;> simp at e
      rename_i hfit
      subst e
      rw [run_part P w fd.type n true hn hg vs fd.offset (by omega) (by simp)]
      have hd := (RepL.drop ⟨hl, hr⟩ fd.offset).take n
      exact ⟨_, rfl, by simp only [mkVal, if_true]; exact .agg _ _ hd.1 (fun u hu' => h1 u (List.mem_of_mem_drop (List.mem_of_mem_take hu'))) hd.2⟩
    · rw [if_neg hgt] at e
      simp at hgt
      subst hgt
      have hlt : fd.offset < vs.length := by rw [← hl]; exact (List.getElem?_eq_some_iff.1 e).1
      refine ⟨vs[fd.offset], ?_, hr _ _ _ e (List.getElem?_eq_getElem hlt)⟩
      simp [part, run_isAgg hg, hlt]

end Go.Proofs.YtlglgcmpeabdnaaGreatDoorAi

/- Indexing, slicing, building. -/
namespace Go.Proofs.YtlglgcmpeabdnaaGreatDoorAi
open Go Go.RowKit
set_option linter.unusedVariables false
set_option linter.unusedSimpArgs false

variable {P : Program} {σ : Sg} {w : World}

theorem elT_spec {t e : TypeId} (h : elT P t = some e) : P.underlying t = some (.slice e) := by
  unfold elT at h
  split at h
  · rename_i e' hu; obtain rfl := Option.some.inj h; exact hu
  · cases h

theorem rep_int_inv {k : IntKind} {n : Int} {v : Value} (h : Rep σ (.int k n) v) : v = .int k n := by cases h; rfl

theorem iad_run {esz : Nat} {x i r : AV} {u v : Value} {t e : TypeId} (he : elT P t = some e) (hn : szT P e = some esz) (hx : Rep σ x u) (hi : Rep σ i v)
    (h : iadA esz x i = some r) : ∃ q, (Instr.indexAt t u v).run P w = .ok q w ∧ Rep σ r q := by
  have hu := elT_spec he
  cases i <;> simp only [iadA] at h <;> first | (cases h; done) | skip
  rename_i k n
  obtain rfl := rep_int_inv hi
  cases hx <;> simp only [eltA] at h <;> first | (cases h; done) | skip
  · split at h <;> simp at h
  · rename_i xs tt b off sz cap val h1 h2 h3 h4 h5 h6 h7 h8
    split at h
    · rename_i h0
      obtain ⟨x, hxn, h⟩ := Option.bind_eq_some_iff.1 h
      split at h
      · rename_i hc
        obtain rfl := Option.some.inj h
        have hlt : n.toNat < xs.length := (List.getElem?_eq_some_iff.1 hxn).1
        have hsz : sz = esz := by rw [← h4 _ _ hxn]; exact hc
        subst hsz
        have hb : 0 ≤ n ∧ n < (xs.length : Int) := ⟨h0, by omega⟩
        refine ⟨_, ?_, .epsl xs tt n.toNat 0 x b (off + n.toNat * sz) (val n.toNat) hxn (fun j c hj => by have := h5 _ _ hxn j c hj; simpa using this) (fun j c hj => h6 _ _ hxn j c hj) (fun j => h7 _ j) (h8 _ _ hxn)⟩
        simp only [Instr.indexAt, asIntOf, Sem.run_bind, Sem.run_pure, Result.andThen_ok, run_underlying hu, if_pos hb, run_sizeOf hn, add_plain, Nat.add_zero]
      · cases h
    · cases h
  · rename_i b e' o l tt ad cap c sz h1 h2 h3 h4 h5 h6 h6f h6g
    split at h
    · rename_i hc
      obtain ⟨rfl, h0, hlt⟩ := hc
      obtain rfl := Option.some.inj h
      have hcap : cap ≠ 0 := by omega
      have had := h4 hcap
      subst had
      have hb : 0 ≤ n ∧ n < (l : Int) := ⟨h0, hlt⟩
      refine ⟨_, ?_, .epref b e' o l tt n.toNat 0 c sz h5⟩
      simp only [Instr.indexAt, asIntOf, Sem.run_bind, Sem.run_pure, Result.andThen_ok, run_underlying hu, if_pos hb, run_sizeOf hn, add_plain, Nat.add_zero, Nat.add_mul]
    · cases h

theorem idx_run {x i r : AV} {u v : Value} {t : TypeId} (hu : P.underlying t = some .string) (hx : Rep σ x u) (hi : Rep σ i v)
    (h : idxA x i = some r) : ∃ q, (Instr.index t u v).run P w = .ok q w ∧ Rep σ r q := by
  cases x <;> cases i <;> simp only [idxA] at h <;> first | (cases h; done) | skip
  rename_i b k n
  cases hx; cases hi
  unfold bytA at h
  split at h
  · rename_i hc
    obtain rfl := Option.some.inj h
    refine ⟨_, ?_, .int _ _⟩
    have : b[n.toNat]? = some (b[n.toNat]'hc.2) := by simp [hc.2]
    simp only [Instr.index, asIntOf, Sem.run_bind, Sem.run_pure, Result.andThen_ok, run_underlying hu, if_pos hc.1, this]
  · cases h

/-- A bound that may be left out, as the machine has it. -/
theorem optNat_run {B : Nat → Prop} {n0 : Nat} {w0 : World} {s : St} {a : Act} (hs : SimSt B w0 n0 σ s a w) {d n : Nat} {x : Option Operand} {x' : Option Opd} (hc : ccOpt x = some x') (h : optNat s d x' = some n) :
    (x = none ∧ x' = none ∧ n = d) ∨ ∃ xo k z, x = some xo ∧ x' = some z ∧ a.eval xo = .int k (n : Int) := by
  cases x with
  | none => simp [ccOpt] at hc; subst hc; simp [optNat] at h; exact .inl ⟨rfl, rfl, h.symm⟩
  | some xo =>
    simp [ccOpt] at hc
    obtain ⟨z, hz, rfl⟩ := hc
    have hr := ev_rep hs hz
    unfold optNat at h
    cases hm : s.ev z <;> simp only [hm] at h <;> first | (cases h; done) | skip
    rename_i k m
    split at h
    · rename_i h0
      obtain rfl := Option.some.inj h
      rw [hm] at hr
      refine .inr ⟨xo, k, z, rfl, rfl, ?_⟩
      rw [rep_int_inv hr]
      congr 1
      omega
    · cases h

theorem sliceBound_ok (k : IntKind) (n y : Nat) (c : BoundsCode) (h : n ≤ y) : (Instr.sliceBound (.int k (n : Int)) y c).run P w = .ok n w := by
  have : 0 ≤ (n : Int) ∧ (n : Int) ≤ (y : Int) := ⟨by omega, by omega⟩
  simp only [Instr.sliceBound, asIntOf, Sem.run_bind, Sem.run_pure, Result.andThen_ok, if_pos this, Int.toNat_natCast]

theorem sliceBounds_ok {B : Nat → Prop} {n0 : Nat} {w0 : World} {s : St} {a : Act} (hs : SimSt B w0 n0 σ s a w) (isS : Bool) (n cap : Nat) {lo hi mx : Option Operand} {lo' hi' mx' : Option Opd} {l h : Nat} {m : Option Nat}
    (h1 : ccOpt lo = some lo') (h2 : ccOpt hi = some hi') (h3 : ccOpt mx = some mx') (e1 : optNat s 0 lo' = some l) (e2 : optNat s n hi' = some h) (e3 : optMax s mx' = some m)
    (hlh : l ≤ h) (hhn : h ≤ n) (hcap : n ≤ cap) (hm : maxOk h n m = true) (hmh : mx.isSome = true → hi.isSome = true) :
    (Instr.sliceBounds isS n cap (lo.map a.eval) (hi.map a.eval) (mx.map a.eval)).run P w = .ok (l, h, m.getD cap) w := by
  have hmaxv : (mx = none ∧ m = none) ∨ ∃ mo k q, mx = some mo ∧ m = some q ∧ a.eval mo = .int k (q : Int) ∧ h ≤ q ∧ q ≤ n := by
    cases mx with
    | none => simp [ccOpt] at h3; subst h3; simp [optMax] at e3; exact .inl ⟨rfl, e3.symm⟩
    | some mo =>
      simp [ccOpt] at h3
      obtain ⟨z, hz, rfl⟩ := h3
      simp only [optMax, Option.map_eq_some_iff] at e3
      obtain ⟨q, hq, rfl⟩ := e3
      rcases optNat_run hs (x := some mo) (x' := some z) (by simp [ccOpt, hz]) hq with ⟨h', _⟩ | ⟨xo, k, z', he, _, hv⟩
      · cases h'
      · obtain rfl := Option.some.inj he
        simp [maxOk] at hm
        exact .inr ⟨mo, k, q, rfl, rfl, hv, hm.1, hm.2⟩
  rcases hmaxv with ⟨rfl, rfl⟩ | ⟨mo, k, q, rfl, rfl, hv, hq1, hq2⟩
  · rcases optNat_run hs h2 e2 with ⟨rfl, _, rfl⟩ | ⟨ho, kh, zh, rfl, _, hvh⟩ <;>
    rcases optNat_run hs h1 e1 with ⟨rfl, _, rfl⟩ | ⟨loo, kl, zl, rfl, _, hvl⟩
    · simp [Instr.sliceBounds]
    · simp [Instr.sliceBounds, hvl, sliceBound_ok kl l _ _ hlh]
    · simp [Instr.sliceBounds, hvh, sliceBound_ok kh h cap _ (by omega)]
    · simp [Instr.sliceBounds, hvh, hvl, sliceBound_ok kh h cap _ (by omega), sliceBound_ok kl l h _ hlh]
  · rcases optNat_run hs h2 e2 with ⟨rfl, _, rfl⟩ | ⟨ho, kh, zh, rfl, _, hvh⟩
    · simp at hmh
    · rcases optNat_run hs h1 e1 with ⟨rfl, _, rfl⟩ | ⟨loo, kl, zl, rfl, _, hvl⟩
      · simp [Instr.sliceBounds, hv, hvh, sliceBound_ok k q cap _ (by omega), sliceBound_ok kh h q _ (by omega)]
      · simp [Instr.sliceBounds, hv, hvh, hvl, sliceBound_ok k q cap _ (by omega), sliceBound_ok kh h q _ (by omega), sliceBound_ok kl l h _ hlh]

theorem sli_run {B : Nat → Prop} {n0 : Nat} {w0 : World} {s : St} {a : Act} (hs : SimSt B w0 n0 σ s a w) {esz n : Nat} {x r : AV} {u : Value} {t e : TypeId} (he : elT P t = some e) (hsz : szT P e = some esz) (hx : Rep σ x u)
    {lo hi mx : Option Operand} {lo' hi' mx' : Option Opd} {l h : Nat} {m : Option Nat} (hn : x.len? = some n)
    (h1 : ccOpt lo = some lo') (h2 : ccOpt hi = some hi') (h3 : ccOpt mx = some mx') (e1 : optNat s 0 lo' = some l) (e2 : optNat s n hi' = some h) (e3 : optMax s mx' = some m)
    (hmh : mx.isSome = true → hi.isSome = true) (hr : sliceA esz x l h m = some r) :
    ∃ q, (Instr.sliceAt t u (lo.map a.eval) (hi.map a.eval) (mx.map a.eval)).run P w = .ok q w ∧ Rep σ r q := by
  have hu := elT_spec he
  have key : ∀ (ad : Option Addr) (len cap : Nat), u = .slice ad len cap → len = n → len ≤ cap → l ≤ h → h ≤ n → maxOk h n m = true →
      (Instr.sliceAt t u (lo.map a.eval) (hi.map a.eval) (mx.map a.eval)).run P w = .ok (.slice (if m.getD cap = l then ad else ad.map (·.add (l * esz))) (h - l) (m.getD cap - l)) w := by
    intro ad len cap hu' hl hc hlh hhn hmo
    subst hu'
    subst hl
    have hb := sliceBounds_ok (P := P) (w := w) hs true len cap h1 h2 h3 e1 e2 e3 hlh hhn hc hmo hmh
    simp [Instr.sliceAt, Instr.slice, run_underlying hu, hb, run_sizeOf hsz]
  have hC : ∀ (cap : Nat) (tt : Bool), n ≤ cap → h ≤ n → maxOk h n m = true → (tt = true → cap = n) → h ≤ m.getD cap ∧ m.getD cap ≤ cap ∧ (maxTight h n tt m = true → m.getD cap = h) := by
    intro cap tt hc hhn hmo htt
    cases m with
    | none =>
      refine ⟨Nat.le_trans hhn hc, Nat.le_refl _, fun h' => ?_⟩
      simp [maxTight] at h'
      have := htt h'.1
      simp; omega
    | some q =>
      simp [maxOk] at hmo
      refine ⟨hmo.1, by simp; omega, fun h' => ?_⟩
      simpa [maxTight] using h'
  cases hx <;> simp only [sliceA] at hr <;> first | (cases hr; done) | skip
  · rename_i tt ad cap h4 h5 h6
    simp [AV.len?] at hn
    subst hn
    split at hr
    · rename_i hc
      obtain rfl := Option.some.inj hr
      simp only [List.length_nil] at hc
      obtain ⟨c1, c2, c3⟩ := hC cap tt (Nat.zero_le _) hc.2.1 hc.2.2.1 h4
      refine ⟨_, key ad 0 cap rfl rfl (Nat.zero_le _) hc.1 hc.2.1 hc.2.2.1, ?_⟩
      have hl0 : l = 0 := by omega
      have hh0 : h = 0 := by omega
      subst hl0; subst hh0
      simp only [List.take_nil, List.drop_nil, Nat.sub_self, Nat.sub_zero, Nat.zero_mul, List.length_nil]
      refine .slnil _ _ _ c3 (by omega) ?_
      intro hnone
      by_cases h0 : m.getD cap = 0
      · exact h0
      · rw [if_neg h0] at hnone
        cases ad with
        | none => have := h6 rfl; omega
        | some ad => simp at hnone
    · cases hr
  · rename_i xs tt b off sz cap val h4 h5 h6 h7 h8 h9 h10 h11
    simp [AV.len?] at hn
    subst hn
    split at hr
    · rename_i hc
      obtain rfl := Option.some.inj hr
      obtain ⟨c1, c2, c3⟩ := hC cap tt h4 hc.2.1 hc.2.2.1 h6
      refine ⟨_, key _ _ cap rfl rfl h4 hc.1 hc.2.1 hc.2.2.1, ?_⟩
      have hlen : ((xs.take h).drop l).length = h - l := by simp; omega
      by_cases hlh : l = h
      · have hnil : (xs.take h).drop l = [] := List.eq_nil_of_length_eq_zero (by omega)
        rw [hnil]
        subst hlh
        rw [Nat.sub_self]
        refine .slnil _ _ _ (fun h' => by rw [c3 h']; omega) (by omega) ?_
        intro hnone
        split at hnone <;> simp at hnone
      · have hpos : l < xs.length := by omega
        have hx0 : xs[l]? = some xs[l] := List.getElem?_eq_getElem hpos
        have hsz' : sz = esz := by
          have h1' := h7 _ _ hx0
          have h2' := beq_iff_eq.1 ((List.all_eq_true.1 hc.2.2.2) xs[l] (List.getElem_mem hpos))
          exact h1'.symm.trans h2'
        subst hsz'
        have hne : m.getD cap ≠ l := by omega
        rw [if_neg hne]
        simp only [Option.map_some, add_plain]
        rw [← hlen]
        have hget' : ∀ (i : Nat) (x : AV), ((xs.take h).drop l)[i]? = some x → xs[l + i]? = some x := by
          intro i x hx'
          rw [List.getElem?_drop, List.getElem?_take] at hx'
          split at hx'
          · exact hx'
          · cases hx'
        refine .sl _ _ b (off + l * sz) sz _ (fun i j => val (l + i) j) (by omega) (by omega) (fun h' => by rw [c3 h', hlen]) (fun i x hx' => h7 _ _ (hget' i x hx'))
          (fun i x hx' j c hj => ?_) (fun i x hx' j c hj => h9 _ _ (hget' i x hx') j c hj) (fun i j => h10 _ _) (fun i x hx' => h11 _ _ (hget' i x hx'))
        have := h8 _ _ (hget' i x hx') j c hj
        rw [Nat.add_mul] at this
        rw [show off + l * sz + i * sz + j = off + (l * sz + i * sz) + j from by omega]
        exact this
    · cases hr
  · rename_i b e' o nn tt ad cap c sz h4 h5 h6 h7 h8 h9 hfu hu8
    simp [AV.len?] at hn
    subst hn
    split at hr
    · rename_i hc
      obtain ⟨rfl, hlh, hhn, hmo⟩ := hc
      obtain rfl := Option.some.inj hr
      obtain ⟨c1, c2, _⟩ := hC cap false h4 hhn hmo (by simp)
      refine ⟨_, key _ _ cap rfl rfl h4 hlh hhn hmo, ?_⟩
      have hfit : (o + l + (m.getD cap - l)) * e' ≤ sz := Nat.le_trans (Nat.mul_le_mul_right _ (by omega)) h9
      have htight : maxCp h nn tt m = .tight → m.getD cap - l = h - l := by
        intro ht
        cases m with
        | none =>
          cases tt <;> simp [maxCp] at ht
          have := h6 rfl
          simp
          omega
        | some q => simp [maxCp] at ht; simp [ht]
      have hfull : maxCp h nn tt m = .full → (o + l + (m.getD cap - l)) * e' = sz := by
        intro ht
        cases m with
        | none =>
          cases tt <;> simp [maxCp] at ht
          · split at ht <;> cases ht
          · rw [← hfu rfl]
            simp only [Option.getD_none]
            congr 1
            simp only [Option.getD_none] at c1 c2
            omega
        | some q => simp [maxCp] at ht; split at ht <;> cases ht
      by_cases hne : m.getD cap = l
      · rw [if_pos hne]
        exact .ref b e' (o + l) (h - l) _ ad _ c sz (by omega) (by omega) htight (fun h' => by omega) h8 hfit hfull (fun hh => absurd hh (maxCp_u8 _ _ _ _))
      · rw [if_neg hne]
        have := h7 (by omega)
        subst this
        simp only [Option.map_some, add_plain]
        exact .ref b e' (o + l) (h - l) _ _ _ c sz (by omega) (by omega) htight (fun _ => by rw [Nat.add_mul]) h8 hfit hfull (fun hh => absurd hh (maxCp_u8 _ _ _ _))
    · cases hr

theorem sls_run {B : Nat → Prop} {n0 : Nat} {w0 : World} {s : St} {a : Act} (hs : SimSt B w0 n0 σ s a w) {n : Nat} {x r : AV} {u : Value} {t : TypeId} (hu : P.underlying t = some .string) (hx : Rep σ x u)
    {lo hi : Option Operand} {lo' hi' : Option Opd} {l h : Nat} (hn : x.strlen? = some n)
    (h1 : ccOpt lo = some lo') (h2 : ccOpt hi = some hi') (e1 : optNat s 0 lo' = some l) (e2 : optNat s n hi' = some h) (hr : slsA x l h = some r) :
    ∃ q, (Instr.sliceAt t u (lo.map a.eval) (hi.map a.eval) none).run P w = .ok q w ∧ Rep σ r q := by
  cases x <;> simp only [slsA] at hr <;> first | (cases hr; done) | skip
  rename_i b
  cases hx
  simp [AV.strlen?] at hn
  subst hn
  split at hr
  · rename_i hc
    obtain rfl := Option.some.inj hr
    refine ⟨_, ?_, .str _⟩
    have hb := sliceBounds_ok (P := P) (w := w) hs false b.size b.size (mx := none) (mx' := none) (m := none) h1 h2 rfl e1 e2 rfl hc.1 hc.2 (Nat.le_refl _) rfl (by simp)
    simp only [Option.map_none] at hb
    simp [Instr.sliceAt, Instr.slice, run_underlying hu, hb]
  · cases hr

end Go.Proofs.YtlglgcmpeabdnaaGreatDoorAi

/- Building values; the conversions and builtins that look at memory; all operations that do nothing to it. -/
namespace Go.Proofs.YtlglgcmpeabdnaaGreatDoorAi
open Go Go.RowKit
set_option linter.unusedVariables false
set_option linter.unusedSimpArgs false

variable {P : Program} {σ : Sg} {w : World}

def setV (cs : List Value) (off : Nat) : List Value → List Value
  | [] => cs
  | c :: r => setV (cs.set off c) (off + 1) r

theorem setV_length : ∀ (r cs : List Value) (off : Nat), (setV cs off r).length = cs.length
  | [], cs, off => rfl
  | c :: r, cs, off => by rw [setV, setV_length r]; simp
theorem setCells_length : ∀ (r cs : List AV) (off : Nat), (setCells cs off r).length = cs.length
  | [], cs, off => rfl
  | c :: r, cs, off => by rw [setCells, setCells_length r]; simp

theorem RepL.set {xs : List AV} {us : List Value} (h : RepL σ xs us) {x : AV} {u : Value} (hr : Rep σ x u) (i : Nat) : RepL σ (xs.set i x) (us.set i u) :=
  ⟨by simp [h.1], fun j c v hc hv => by
    by_cases hij : i = j
    · subst hij
      rw [List.getElem?_set] at hc hv
      simp only [if_true] at hc hv
      split at hc <;> simp at hc
      split at hv <;> simp at hv
      subst hc; subst hv; exact hr
    · rw [List.getElem?_set_ne hij] at hc hv; exact h.2 j c v hc hv⟩
theorem RepL.setCells : ∀ {rs : List AV} {vs : List Value} {xs : List AV} {us : List Value} (off : Nat), RepL σ rs vs → RepL σ xs us → RepL σ (setCells xs off rs) (setV us off vs)
  | [], vs, xs, us, off, hr, h => by
    have : vs = [] := List.eq_nil_of_length_eq_zero (by rw [← hr.1]; rfl)
    subst this
    exact h
  | r :: rs, vs, xs, us, off, hr, h => by
    obtain ⟨v, vs', rfl, h1, h2⟩ := hr.head
    exact RepL.setCells (off + 1) h2 (h.set h1 off)
theorem setV_one : ∀ (vs us : List Value) (off : Nat), (∀ v ∈ vs, v.oneCell' = true) → (∀ u ∈ us, u.oneCell' = true) → ∀ u ∈ setV us off vs, u.oneCell' = true
  | [], us, off, h1, h2 => h2
  | v :: vs, us, off, h1, h2 => setV_one vs (us.set off v) (off + 1) (fun x hx => h1 x (List.mem_cons_of_mem _ hx)) (fun u hu => by
      rcases List.mem_or_eq_of_mem_set hu with h | h
      · exact h2 u h
      · subst h; exact h1 _ (List.mem_cons_self ..))

theorem foldl_setV : ∀ (vs : List Value) (cells : Array Value) (off k : Nat), ((vs.zipIdx k).foldl (fun cs (p : Value × Nat) => cs.setIfInBounds (off + p.2) p.1) cells).toList = setV cells.toList (off + k) vs
  | [], cells, off, k => rfl
  | v :: vs, cells, off, k => by
    rw [List.zipIdx_cons, List.foldl_cons, foldl_setV vs _ off (k + 1), setV]
    simp [Nat.add_assoc]

theorem fill_ok (place : Nat → Option (Nat × Nat)) : ∀ (parts : List (Nat × AV)) (vals : List (Nat × Value)) (aparts : List (Nat × Nat × AV)) (as as' : List AV) (cells : Array Value),
    parts.length = vals.length → aparts.length = parts.length →
    (∀ (j : Nat) (p : Nat × AV), parts[j]? = some p → ∃ v, vals[j]? = some (p.1, v) ∧ Rep σ p.2 v ∧ ∃ off size, place p.1 = some (off, size) ∧ aparts[j]? = some (off, size, p.2)) →
    RepL σ as cells.toList → (∀ u ∈ cells.toList, u.oneCell' = true) → fillA as aparts = some as' →
    ∃ cells', Instr.fill place cells vals = some cells' ∧ RepL σ as' cells'.toList ∧ (∀ u ∈ cells'.toList, u.oneCell' = true) ∧ cells'.size = cells.size := by
  intro parts
  induction parts with
  | nil =>
    intro vals aparts as as' cells hl hl2 _ hr h1 h
    have e1 : vals = [] := List.eq_nil_of_length_eq_zero (by simpa using hl.symm)
    have e2 : aparts = [] := List.eq_nil_of_length_eq_zero (by simpa using hl2)
    subst e1; subst e2
    simp [fillA] at h
    subst h
    exact ⟨cells, rfl, hr, h1, rfl⟩
  | cons p parts ih =>
    intro vals aparts as as' cells hl hl2 hp hr h1 h
    obtain ⟨v, hv, hrv, off, size, hpl, ha⟩ := hp 0 p rfl
    cases vals with
    | nil => simp at hv
    | cons q vals =>
      cases aparts with
      | nil => simp at ha
      | cons ap aparts =>
        simp at hv ha
        subst hv; subst ha
        simp only [fillA] at h
        split at h
        · rename_i hc
          obtain ⟨hc1, hc2, hc3⟩ := hc
          have hcl := hrv.cells_length hc2
          have hlen : as.length = cells.size := by simpa using hr.1
          have hcells : RepL σ (setCells as off p.2.cells) (setV cells.toList off v.cells.toList) := RepL.setCells off (hrv.cells hc2) hr
          have hnot : ¬ (v.cells.size ≠ size ∨ off + v.cells.size > cells.size) := by omega
          have hfold : (v.cells.zipIdx.foldl (fun cs (p : Value × Nat) => cs.setIfInBounds (off + p.2) p.1) cells).toList = setV cells.toList off v.cells.toList := by
            have := foldl_setV v.cells.toList cells off 0
            rw [← Array.toList_zipIdx, Array.foldl_toList] at this
            simpa using this
          obtain ⟨cells', h2, h3, h4, h5⟩ := ih vals aparts _ as' (v.cells.zipIdx.foldl (fun cs (p : Value × Nat) => cs.setIfInBounds (off + p.2) p.1) cells) (by simpa using hl) (by simpa using hl2)
            (fun j q hq => by simpa using hp (j + 1) q (by simpa using hq)) (by rw [hfold]; exact hcells) (by rw [hfold]; exact setV_one _ _ _ (hrv.cells_one hc2) h1) h
          refine ⟨cells', ?_, h3, h4, ?_⟩
          · simp only [Instr.fill, hpl]
            rw [if_neg (by simpa using hnot)]
            exact h2
          · rw [h5, ← Array.length_toList, hfold, setV_length, Array.length_toList]
        · cases h

theorem run_mapM_list {α β : Type} (f : α → Sem β) : ∀ (l : List α) (r : List β), l.length = r.length → (∀ (i : Nat) (x : α) (y : β), l[i]? = some x → r[i]? = some y → (f x).run P w = .ok y w) → (l.mapM f).run P w = .ok r w
  | [], r, hl, _ => by
    have : r = [] := List.eq_nil_of_length_eq_zero (by simpa using hl.symm)
    subst this
    simp
  | a :: l, [], hl, _ => by simp at hl
  | a :: l, b :: r, hl, h => by
    rw [List.mapM_cons]
    have h1 := h 0 a b rfl rfl
    have h2 := run_mapM_list f l r (by simpa using hl) (fun i x y hx hy => h (i + 1) x y (by simpa using hx) (by simpa using hy))
    simp [h1, h2]

theorem zeroT_run {t : TypeId} {z : List AV} (h : zeroT P t = some z) : ∃ v : Value, (∀ w, (zeroValue t).run P w = .ok v w) ∧ RepL σ z v.cells.toList ∧ (∀ u ∈ v.cells.toList, u.oneCell' = true) := by
  unfold zeroT at h
  obtain ⟨v, hv, hz⟩ := Option.bind_eq_some_iff.1 h
  obtain ⟨i, hi, hiz⟩ := Option.bind_eq_some_iff.1 hv
  obtain ⟨h1, h2⟩ := ccVals_rep (σ := σ) hz
  exact ⟨v, fun w => by simp [zeroValue, typeInfo, hi, hiz], h1, h2⟩

/-- The places of a struct's fields. -/
def placesT (P : Program) (fs : Array Field) : Option (List (Nat × Nat)) := fs.toList.mapM fun f => (szT P f.type).map fun n => (f.offset, n)

theorem places_run {fs : Array Field} {ps : List (Nat × Nat)} (h : placesT P fs = some ps) : (fs.mapM fun f => do pure (f.offset, ← sizeOf f.type) : Sem (Array (Nat × Nat))).run P w = .ok ps.toArray w := by
  obtain ⟨hl, hr⟩ := mapM_some_length _ _ _ h
  rw [Array.mapM_eq_mapM_toList, Sem.run_map]
  have := run_mapM_list (P := P) (w := w) (fun f : Field => (do pure (f.offset, ← sizeOf f.type) : Sem (Nat × Nat))) fs.toList ps (by rw [hl]) (fun i x y hx hy => by
    obtain ⟨y', hy', hf⟩ := hr i x hx
    rw [hy] at hy'
    obtain rfl := Option.some.inj hy'
    obtain ⟨n, hn, rfl⟩ := Option.map_eq_some_iff.1 hf
    simp [run_sizeOf hn])
  rw [this]
  rfl

theorem bld_run {B : Nat → Prop} {n0 : Nat} {w0 : World} {s : St} {a : Act} (hs : SimSt B w0 n0 σ s a w) {t : TypeId} {fs : Array Field} (hu : P.underlying t = some (.struct fs)) {places : List (Nat × Nat)} (hp : placesT P fs = some places)
    {z : List AV} (hz : zeroT P t = some z) {parts : Array (Nat × Operand)} {ps : List (Nat × Nat × Opd)}
    (hps : (parts.toList.mapM fun (p : Nat × Operand) => (places[p.1]?).bind fun pl => (ccOpd p.2).map fun x => (pl.1, pl.2, x)) = some ps) {as : List AV} (h : fillA z (ps.map fun p => (p.1, p.2.1, s.ev p.2.2)) = some as) :
    ∃ q, (Instr.build t (parts.map fun (i, x) => (i, a.eval x))).run P w = .ok q w ∧ Rep σ (.agg as) q := by
  obtain ⟨v, hv, hr, h1⟩ := zeroT_run (σ := σ) hz
  obtain ⟨hl, hget⟩ := mapM_some_length _ _ _ hps
  have hw : ∀ (i : Nat) (p : Nat × Operand), parts.toList[i]? = some p → ∃ pl x, places[p.1]? = some pl ∧ ccOpd p.2 = some x ∧ ps[i]? = some (pl.1, pl.2, x) := by
    intro i p hpi
    obtain ⟨y, hy, hf⟩ := hget i p hpi
    obtain ⟨pl, hpl, hf⟩ := Option.bind_eq_some_iff.1 hf
    obtain ⟨x, hx, rfl⟩ := Option.map_eq_some_iff.1 hf
    exact ⟨pl, x, hpl, hx, hy⟩
  have hev : ∀ (i : Nat) (p : Nat × Operand), parts.toList[i]? = some p → ∃ x, ps[i]? = some x ∧ Rep σ (s.ev x.2.2) (a.eval p.2) := by
    intro i p hpi
    obtain ⟨pl, x, _, hx, hy⟩ := hw i p hpi
    exact ⟨_, hy, ev_rep hs hx⟩
  let mid : List (Nat × AV) := (parts.toList.zip ps).map fun q => (q.1.1, s.ev q.2.2.2)
  have hml : mid.length = parts.toList.length := by simp [mid, hl]
  obtain ⟨cells', hf, hr', h1', _⟩ := fill_ok (σ := σ) (fun i => places[i]?) mid ((parts.toList.map fun (i, x) => (i, a.eval x))) (ps.map fun p => (p.1, p.2.1, s.ev p.2.2)) z as v.cells (by simp [hml]) (by simp [hml, hl])
    (fun j p hj => by
      simp only [mid, List.getElem?_map, Option.map_eq_some_iff] at hj
      obtain ⟨q, hq, rfl⟩ := hj
      rw [List.getElem?_zip_eq_some] at hq
      obtain ⟨pl, x, hpl, hx, hy⟩ := hw j q.1 hq.1
      rw [hq.2] at hy
      have hqe := Option.some.inj hy
      refine ⟨a.eval q.1.2, by simp [List.getElem?_map, hq.1], by rw [hqe]; exact ev_rep hs hx, pl.1, pl.2, by simpa using hpl, ?_⟩
      simp [List.getElem?_map, hq.2, hqe]) hr h1 h
  refine ⟨.agg cells', ?_, ?_⟩
  · have hpr := places_run (P := P) (w := w) hp
    simp only [Instr.build, Sem.run_bind, hv w, Result.andThen_ok, run_underlying hu]
    rw [hpr]
    simp only [Result.andThen_ok]
    have hpa : (parts.map fun (i, x) => (i, a.eval x)).toList = parts.toList.map fun (i, x) => (i, a.eval x) := by simp
    rw [hpa]
    have hpl : (fun i : Nat => places.toArray[i]?) = (fun i : Nat => places[i]?) := by funext i; simp
    rw [hpl, hf]
    simp
  · have := Rep.agg (σ := σ) as cells'.toList hr'.1 h1' hr'.2
    simpa using this

theorem bld_arr_run {B : Nat → Prop} {n0 : Nat} {w0 : World} {s : St} {a : Act} (hs : SimSt B w0 n0 σ s a w) {t : TypeId} {len : Nat} {e : TypeId} (hu : P.underlying t = some (.array len e)) {n : Nat} (hn : szT P e = some n)
    {z : List AV} (hz : zeroT P t = some z) {parts : Array (Nat × Operand)} {ps : List (Nat × Nat × Opd)}
    (hps : (parts.toList.mapM fun (p : Nat × Operand) => (some (p.1 * n, n)).bind fun (pl : Nat × Nat) => (ccOpd p.2).map fun x => (pl.1, pl.2, x)) = some ps) {as : List AV} (h : fillA z (ps.map fun p => (p.1, p.2.1, s.ev p.2.2)) = some as) :
    ∃ q, (Instr.build t (parts.map fun (i, x) => (i, a.eval x))).run P w = .ok q w ∧ Rep σ (.agg as) q := by
  obtain ⟨v, hv, hr, h1⟩ := zeroT_run (σ := σ) hz
  obtain ⟨hl, hget⟩ := mapM_some_length _ _ _ hps
  have hw : ∀ (i : Nat) (p : Nat × Operand), parts.toList[i]? = some p → ∃ (pl : Nat × Nat) (x : Opd), some (p.1 * n, n) = some pl ∧ ccOpd p.2 = some x ∧ ps[i]? = some (pl.1, pl.2, x) := by
    intro i p hpi
    obtain ⟨y, hy, hf⟩ := hget i p hpi
    obtain ⟨pl, hpl, hf⟩ := Option.bind_eq_some_iff.1 hf
    obtain ⟨x, hx, rfl⟩ := Option.map_eq_some_iff.1 hf
    exact ⟨pl, x, hpl, hx, hy⟩
  have hev : ∀ (i : Nat) (p : Nat × Operand), parts.toList[i]? = some p → ∃ x, ps[i]? = some x ∧ Rep σ (s.ev x.2.2) (a.eval p.2) := by
    intro i p hpi
    obtain ⟨pl, x, _, hx, hy⟩ := hw i p hpi
    exact ⟨_, hy, ev_rep hs hx⟩
  let mid : List (Nat × AV) := (parts.toList.zip ps).map fun q => (q.1.1, s.ev q.2.2.2)
  have hml : mid.length = parts.toList.length := by simp [mid, hl]
  obtain ⟨cells', hf, hr', h1', _⟩ := fill_ok (σ := σ) (fun i => some (i * n, n)) mid ((parts.toList.map fun (i, x) => (i, a.eval x))) (ps.map fun p => (p.1, p.2.1, s.ev p.2.2)) z as v.cells (by simp [hml]) (by simp [hml, hl])
    (fun j p hj => by
      simp only [mid, List.getElem?_map, Option.map_eq_some_iff] at hj
      obtain ⟨q, hq, rfl⟩ := hj
      rw [List.getElem?_zip_eq_some] at hq
      obtain ⟨pl, x, hpl, hx, hy⟩ := hw j q.1 hq.1
      rw [hq.2] at hy
      have hqe := Option.some.inj hy
      refine ⟨a.eval q.1.2, by simp [List.getElem?_map, hq.1], by rw [hqe]; exact ev_rep hs hx, pl.1, pl.2, hpl, ?_⟩
      simp [List.getElem?_map, hq.2, hqe]) hr h1 h
  refine ⟨.agg cells', ?_, ?_⟩
  · simp only [Instr.build, Sem.run_bind, hv w, Result.andThen_ok, run_underlying hu, run_sizeOf hn]
    have hpa : (parts.map fun (i, x) => (i, a.eval x)).toList = parts.toList.map fun (i, x) => (i, a.eval x) := by simp
    rw [hpa, hf]
    simp
  · have := Rep.agg (σ := σ) as cells'.toList hr'.1 h1' hr'.2
    simpa using this

theorem len_run {x : AV} {u : Value} {n : Nat} {t ty : TypeId} (hx : Rep σ x u) (hn : x.len? = some n) (h : (elT P t).isSome = true) : (Builtin.len_ #[t] ty #[u]).run P w = .ok (.int .i64 (n : Int)) w := by
  have hu : ∃ e, P.underlying t = some (.slice e) := by
    cases he : elT P t with
    | none => simp [he] at h
    | some e => exact ⟨e, elT_spec he⟩
  obtain ⟨e, hu⟩ := hu
  cases hx <;> simp [AV.len?] at hn
  all_goals (subst hn; simp [Builtin.len_, run_underlying hu, goInt])
theorem lens_run {x : AV} {u : Value} {n : Nat} {t ty : TypeId} (hx : Rep σ x u) (hn : x.strlen? = some n) (h : isStr P t = true) : (Builtin.len_ #[t] ty #[u]).run P w = .ok (.int .i64 (n : Int)) w := by
  have hu : P.underlying t = some .string := by unfold isStr at h; split at h <;> first | assumption | cases h
  cases hx <;> simp [AV.strlen?] at hn
  subst hn
  simp [Builtin.len_, run_underlying hu, goInt]

theorem max_run {x y r : AV} {u v : Value} {ts : Array TypeId} {ty : TypeId} (hx : Rep σ x u) (hy : Rep σ y v) (h : maxA x y = some r) : ∃ q, (Builtin.max_ ts ty #[u, v]).run P w = .ok q w ∧ Rep σ r q := by
  cases x <;> cases y <;> simp only [maxA] at h <;> first | (cases h; done) | skip
  split at h
  · rename_i hk
    subst hk
    obtain rfl := Option.some.inj h
    cases hx; cases hy
    exact ⟨_, by simp [Builtin.max_, Builtin.max2], .int _ _⟩
  · cases h
theorem min_run {x y r : AV} {u v : Value} {ts : Array TypeId} {ty : TypeId} (hx : Rep σ x u) (hy : Rep σ y v) (h : minA x y = some r) : ∃ q, (Builtin.min_ ts ty #[u, v]).run P w = .ok q w ∧ Rep σ r q := by
  cases x <;> cases y <;> simp only [minA] at h <;> first | (cases h; done) | skip
  split at h
  · rename_i hk
    subst hk
    obtain rfl := Option.some.inj h
    cases hx; cases hy
    exact ⟨_, by simp [Builtin.min_, Builtin.min2], .int _ _⟩
  · cases h

theorem byteOf_inv {x : AV} {c : UInt8} (h : byteOf x = some c) : ∃ n : Int, x = .int .u8 n ∧ c = UInt8.ofNat n.toNat := by
  unfold byteOf at h
  split at h
  · rename_i n
    split at h
    · simp at h; exact ⟨n, rfl, h.symm⟩
    · cases h
  · cases h

theorem b2s_run {B : Nat → Prop} {A : AHeap} (hs : Sim B σ A w) {x : AV} {u : Value} {vs : List AV} {l : List UInt8} {src dst e : TypeId} (hx : Rep σ x u) (hsrc : P.underlying src = some (.slice e)) (he : P.underlying e = some (.int .u8)) (hdst : P.underlying dst = some .string)
    (h1 : onesOf A x = some vs) (h2 : vs.mapM byteOf = some l) : (convert src dst u).run P w = .ok (.string ⟨l.toArray⟩) w := by
  obtain ⟨hl, hget⟩ := mapM_some_length _ _ _ h2
  have hints : ∃ xs : List Int, vs = xs.map (AV.int .u8) ∧ l = xs.map fun n => UInt8.ofNat n.toNat := by
    clear h1 hx
    induction vs generalizing l with
    | nil => simp at h2; subst h2; exact ⟨[], rfl, rfl⟩
    | cons v vs ih =>
      rw [List.mapM_cons] at h2
      cases hv : byteOf v with
      | none => simp [hv] at h2
      | some c =>
        cases hvs : vs.mapM byteOf with
        | none => simp [hv, hvs] at h2
        | some l' =>
          simp [hv, hvs] at h2
          subst h2
          obtain ⟨xs, hx1, hx2⟩ := ih hvs (mapM_some_length _ _ _ hvs).1 (mapM_some_length _ _ _ hvs).2
          obtain ⟨n, rfl, rfl⟩ := byteOf_inv hv
          exact ⟨n :: xs, by simp [hx1], by simp [hx2]⟩
  obtain ⟨xs, rfl, rfl⟩ := hints
  have hgoal : (Value.string ⟨(xs.map fun n => UInt8.ofNat n.toNat).toArray⟩) = .string (strOfNums xs) := rfl
  rw [hgoal]
  have hcell : ∀ (i : Nat) (c : AV) (q : Value), (xs.map (AV.int .u8))[i]? = some c → Rep σ c q → q = .int .u8 (xs.getD i 0) := by
    intro i c q hc hq
    simp only [List.getElem?_map, Option.map_eq_some_iff] at hc
    obtain ⟨n, hn, rfl⟩ := hc
    rw [rep_int_inv hq]
    simp [List.getD_eq_getElem?_getD, hn]
  cases hx <;> simp only [onesOf] at h1 <;> first | (cases h1; done) | skip
  · rename_i tt ad cap h3 h4 h5
    have : xs = [] := by simpa using h1.symm
    subst this
    rw [run_convert_bytes_string w src dst e _ _ _ hsrc he hdst]
    cases ad with
    | none => simp [Conv.bytesToString, strOfNums]; rfl
    | some ad => simp [Conv.bytesToString, loadCells, loadCellsFrom, strOfNums]; rfl
  · rename_i ys tt b off sz cap val h3 h4 h5 h6 h7 h8 h9 h10
    obtain rfl := Option.some.inj h1
    have hlen : (xs.map (AV.int .u8)).length = xs.length := by simp
    rw [hlen]
    refine run_convert_bytes_arg w src e hsrc he b off xs.length cap xs rfl (fun i hi => ?_) dst hdst
    have hx' : (xs.map (AV.int .u8))[i]? = some (AV.int .u8 xs[i]) := by simp [hi]
    have hsz := h6 i _ hx'
    simp at hsz
    subst hsz
    have hc := h7 i _ hx' 0 (AV.int .u8 xs[i]) rfl
    have hr := h8 i _ hx' 0 (AV.int .u8 xs[i]) rfl
    have := hs.cell hc
    rw [hcell i _ _ hx' hr] at this
    simpa using this
  · rename_i b e' o n tt ad cap c0 sz h3 h4 h5 h6 h7 h8 h9 h10
    split at h1
    · rename_i he1
      subst he1
      obtain ⟨cs, hb, h1⟩ := Option.bind_eq_some_iff.1 h1
      split at h1
      · rename_i hfit
        have h1 := Option.some.inj h1
        have hn : xs.length = n := by
          have := congrArg List.length h1
          simp at this
          omega
        by_cases hcap : cap = 0
        · have hx0 : xs = [] := List.eq_nil_of_length_eq_zero (by omega)
          have hn0 : n = 0 := by omega
          subst hx0; subst hn0
          rw [run_convert_bytes_string w src dst e _ _ _ hsrc he hdst]
          simp [Conv.bytesToString, loadCells, loadCellsFrom, strOfNums]; rfl
        · have had := h6 hcap
          subst had
          refine run_convert_bytes_arg w src e hsrc he c0 (o * 1) n cap xs hn (fun i hi => ?_) dst hdst
          have hx' : (xs.map (AV.int .u8))[i]? = some (AV.int .u8 (xs[i]'(by omega))) := by simp [show i < xs.length by omega]
          have hcs : cs[o + i]? = some (AV.int .u8 (xs[i]'(by omega))) := by
            rw [← h1, List.getElem?_take, if_pos hi, List.getElem?_drop] at hx'
            exact hx'
          obtain ⟨q, hq1, hq2, _, _⟩ := hs.ownCell hb hcs h7
          rw [hcell i _ _ hx' hq2] at hq1
          simpa using hq1
      · cases h1
    · cases h1

end Go.Proofs.YtlglgcmpeabdnaaGreatDoorAi

/- All operations that do nothing to memory, together. -/
namespace Go.Proofs.YtlglgcmpeabdnaaGreatDoorAi
open Go Go.RowKit
set_option linter.unusedVariables false
set_option linter.unusedSimpArgs false

variable {P : Program} {σ : Sg} {w : World}

theorem value_run {x : Sem Value} {q : Value} (h : x.run P w = .ok q w) : (do pure (Next.value (← x)) : Sem Next).run P w = .ok (.value q) w := by simp [h]

theorem arrT_spec {t : TypeId} {ne : Nat × TypeId} (h : arrT P t = some ne) : P.underlying t = some (.array ne.1 ne.2) := by
  unfold arrT at h
  split at h
  · rename_i n e hu
    obtain rfl := Option.some.inj h
    exact hu
  · cases h
theorem constI_spec {i : Operand} {k : Int} (h : constI i = some k) : ∃ kk, i = .const (.int kk k) := by
  unfold constI at h
  split at h
  · obtain rfl := Option.some.inj h; exact ⟨_, rfl⟩
  · cases h
theorem aggT_of_struct {t : TypeId} {fs : Array Field} (h : P.underlying t = some (.struct fs)) : aggT P t = some true := by unfold aggT; rw [h]; rfl

set_option maxHeartbeats 1000000 in
theorem pure_sound {B : Nat → Prop} {n : Nat} {w0 : World} {s : St} {a : Act} (hs : SimSt B w0 n σ s a w) {o : Oper} {op' : AOp} (hc : ccOp P o.op = some op') {r : AV} (h : pureOp s op' = some r) :
    ∃ q, (execOp a.eval o).run P w = .ok (.value q) w ∧ Rep σ r q := by
  obtain ⟨dst, op, ty, pos, after, guard⟩ := o
  simp only at hc
  cases op with
  | move x =>
    simp only [ccOp, Option.map_eq_some_iff] at hc
    obtain ⟨y, hy, rfl⟩ := hc
    obtain rfl := Option.some.inj h
    exact ⟨_, rfl, ev_rep hs hy⟩
  | assign x =>
    simp only [ccOp, Option.map_eq_some_iff] at hc
    obtain ⟨y, hy, rfl⟩ := hc
    obtain rfl := Option.some.inj h
    exact ⟨_, rfl, ev_rep hs hy⟩
  | pick c x y =>
    simp only [ccOp, Option.bind_eq_some_iff, Option.map_eq_some_iff] at hc
    obtain ⟨c', hc', x', hx', y', hy', rfl⟩ := hc
    simp only [pureOp, pickA] at h
    have hr := ev_rep hs hc'
    cases hb : s.ev c' <;> simp only [hb] at h <;> first | (cases h; done) | skip
    rename_i b
    obtain rfl := Option.some.inj h
    rw [hb] at hr
    have hv : a.eval c = .bool b := by generalize a.eval c = v at hr; cases hr; rfl
    cases b
    · exact ⟨_, by simp [execOp, hv, asBool]; rfl, by simpa using ev_rep hs hy'⟩
    · exact ⟨_, by simp [execOp, hv, asBool]; rfl, by simpa using ev_rep hs hx'⟩
  | extract x i =>
    simp only [ccOp, Option.map_eq_some_iff] at hc
    obtain ⟨y, hy, rfl⟩ := hc
    have hr := ev_rep hs hy
    simp only [pureOp, extA] at h
    cases hb : s.ev y <;> simp only [hb] at h <;> first | (cases h; done) | skip
    rename_i vs
    rw [hb] at hr
    show ∃ q, (do pure (Next.value (← Instr.extract (a.eval x) i)) : Sem Next).run P w = _ ∧ _
    generalize a.eval x = v at *
    cases hr with
    | tup cs us hl hr =>
      have hlt : i < us.length := by rw [← hl]; exact (List.getElem?_eq_some_iff.1 h).1
      exact ⟨us[i], by simp [Instr.extract, hlt], hr i _ _ h (List.getElem?_eq_getElem hlt)⟩
  | binOp op t x y yt =>
    simp only [ccOp, Option.bind_eq_some_iff] at hc
    obtain ⟨x', hx', y', hy', eq, heq, hc⟩ := hc
    have hrx := ev_rep hs hx'
    have hry := ev_rep hs hy'
    show ∃ q, (do pure (Next.value (← (do eqGuard op t x y (a.eval x) (a.eval y); binOp op t (a.eval x) (a.eval y) : Sem Value))) : Sem Next).run P w = .ok (.value q) w ∧ Rep σ r q
    have plain : op' = .bin op x' y' → ∃ q, (do pure (Next.value (← (do eqGuard op t x y (a.eval x) (a.eval y); binOp op t (a.eval x) (a.eval y) : Sem Value))) : Sem Next).run P w = .ok (.value q) w ∧ Rep σ r q := by
      intro e
      subst e
      simp only [pureOp] at h
      obtain ⟨q, h1, h2⟩ := bin_run (P := P) (w := w) hrx hry h t x y
      exact ⟨q, value_run h1, h2⟩
    cases eq with
    | none => simp only [Option.some.injEq] at hc; exact plain hc.symm
    | some neg =>
      have hop : op = if neg = true then .neq else .eql := by
        cases op <;> simp at heq <;> subst heq <;> rfl
      simp only at hc
      split at hc
      · simp only [Option.some.injEq] at hc; exact plain hc.symm
      · simp only [Option.some.injEq] at hc; exact plain hc.symm
      · rename_i hu
        simp only [Option.some.injEq] at hc
        subst hc
        simp only [pureOp, eqbA] at h
        cases h1 : s.ev x' <;> simp only [h1] at h <;> first | (cases h; done) | skip
        cases h2 : s.ev y' <;> simp only [h2] at h <;> first | (cases h; done) | skip
        rename_i b b'
        obtain rfl := Option.some.inj h
        rw [h1] at hrx; rw [h2] at hry
        have hv : a.eval x = .bool b := by generalize a.eval x = v at hrx; cases hrx; rfl
        have hv' : a.eval y = .bool b' := by generalize a.eval y = v at hry; cases hry; rfl
        rw [hv, hv']
        exact ⟨_, value_run (eqb_run t hu x y op hop), .bool _⟩
      · rename_i fs hu
        split at hc
        · rename_i hg
          simp only [Option.map_eq_some_iff] at hc
          obtain ⟨ks, hk, rfl⟩ := hc
          simp only [pureOp, eqsA] at h
          cases h1 : s.ev x' <;> simp only [h1] at h <;> first | (cases h; done) | skip
          cases h2 : s.ev y' <;> simp only [h2] at h <;> first | (cases h; done) | skip
          rename_i b b'
          obtain ⟨e, he, rfl⟩ := Option.map_eq_some_iff.1 h
          rw [h1] at hrx; rw [h2] at hry
          generalize a.eval x = v at *
          generalize a.eval y = v' at *
          cases hrx with
          | agg cs us hl h1c hr =>
            cases hry with
            | agg cs' us' hl' h1c' hr' =>
              exact ⟨_, value_run (eqs_run t hu hk hg ⟨hl, hr⟩ ⟨hl', hr'⟩ he x y op hop), .bool _⟩
        · cases hc
      · split at hc
        · simp only [Option.some.injEq] at hc; subst hc; simp [pureOp] at h
        · cases hc
      · split at hc
        · simp only [Option.some.injEq] at hc; subst hc; simp [pureOp] at h
        · cases hc
      · cases hc
  | unOp op t x =>
    simp only [ccOp, Option.map_eq_some_iff] at hc
    obtain ⟨y, hy, rfl⟩ := hc
    obtain ⟨q, h1, h2⟩ := un_run (P := P) (w := w) (ev_rep hs hy) h
    exact ⟨q, value_run h1, h2⟩
  | convert src d x =>
    simp only [ccOp] at hc
    split at hc
    · rename_i k0 k hsr hds
      simp only [Option.map_eq_some_iff] at hc
      obtain ⟨y, hy, rfl⟩ := hc
      have hr := ev_rep hs hy
      simp only [pureOp, convA] at h
      cases hb : s.ev y <;> simp only [hb] at h <;> first | (cases h; done) | skip
      rename_i k' m
      obtain rfl := Option.some.inj h
      rw [hb] at hr
      show ∃ q, (do pure (Next.value (← convert src d (a.eval x))) : Sem Next).run P w = _ ∧ _
      rw [rep_int_inv hr]
      exact ⟨_, value_run (by simp [convert, run_underlying hsr, run_underlying hds, Conv.intToInt]), .int _ _⟩
    · rename_i hsr hds
      simp only [Option.map_eq_some_iff] at hc
      obtain ⟨y, hy, rfl⟩ := hc
      have hr := ev_rep hs hy
      simp only [pureOp, cstrA] at h
      cases hb : s.ev y <;> simp only [hb] at h <;> first | (cases h; done) | skip
      obtain rfl := Option.some.inj h
      rw [hb] at hr
      show ∃ q, (do pure (Next.value (← convert src d (a.eval x))) : Sem Next).run P w = _ ∧ _
      generalize a.eval x = v at *
      cases hr
      exact ⟨_, value_run (by simp [convert, run_underlying hsr, run_underlying hds]), .str _⟩
    · rename_i e hsr hds
      split at hc
      · rename_i he
        simp only [Option.map_eq_some_iff] at hc
        obtain ⟨y, hy, rfl⟩ := hc
        simp only [pureOp] at h
        obtain ⟨vs, h1, h⟩ := Option.bind_eq_some_iff.1 h
        obtain ⟨l, h2, rfl⟩ := Option.map_eq_some_iff.1 h
        have hue : P.underlying e = some (.int .u8) := by
          unfold isU8 at he
          split at he
          · assumption
          · cases he
        exact ⟨_, value_run (b2s_run hs.sim (ev_rep hs hy) hsr hue hds h1 h2), .str _⟩
      · cases hc
    · cases hc
  | fieldAddr t x f =>
    simp only [ccOp] at hc
    split at hc
    · rename_i fs hu
      obtain ⟨fd, hfd, hc⟩ := Option.bind_eq_some_iff.1 hc
      split at hc
      · cases hc
      · rename_i hz
        simp only [Option.map_eq_some_iff] at hc
        obtain ⟨y, hy, rfl⟩ := hc
        obtain ⟨q, h1, h2⟩ := fieldAt_run (P := P) (w := w) (ev_rep hs hy) hu hfd hz h
        exact ⟨q, value_run h1, h2⟩
    · cases hc
  | field t x f =>
    simp only [ccOp] at hc
    split at hc
    · rename_i fs hu
      simp only [Option.bind_eq_some_iff, Option.map_eq_some_iff] at hc
      obtain ⟨fd, hfd, m, hm, g, hg, y, hy, rfl⟩ := hc
      have hr := ev_rep hs hy
      simp only [pureOp, fldA] at h
      cases hb : s.ev y <;> simp only [hb] at h <;> first | (cases h; done) | skip
      rw [hb] at hr
      obtain ⟨q, h1, h2⟩ := field_run (P := P) (w := w) (x := .nilp) hr hu hfd hm hg h
      exact ⟨q, value_run h1, h2⟩
    · cases hc
  | indexAddr t x i =>
    simp only [ccOp] at hc
    split at hc
    · simp only [Option.bind_eq_some_iff, Option.map_eq_some_iff] at hc
      obtain ⟨e, he, m, hm, x', hx', i', hi', rfl⟩ := hc
      obtain ⟨q, h1, h2⟩ := iad_run (P := P) (w := w) he hm (ev_rep hs hx') (ev_rep hs hi') h
      exact ⟨q, value_run h1, h2⟩
    · rename_i ne hne
      obtain ⟨n, hn, hc⟩ := Option.bind_eq_some_iff.1 hc
      obtain ⟨k, hk, hc⟩ := Option.bind_eq_some_iff.1 hc
      split at hc
      · rename_i hkb
        obtain ⟨x', hx', rfl⟩ := Option.map_eq_some_iff.1 hc
        obtain ⟨kk, rfl⟩ := constI_spec hk
        obtain ⟨q, h1, h2⟩ := arrAt_run (P := P) (w := w) (kk := kk) (ev_rep hs hx') (arrT_spec hne) hn hkb h
        exact ⟨q, value_run h1, h2⟩
      · cases hc
  | index t x i =>
    simp only [ccOp] at hc
    split at hc
    · rename_i hst
      simp only [Option.bind_eq_some_iff, Option.map_eq_some_iff] at hc
      obtain ⟨x', hx', i', hi', rfl⟩ := hc
      have hu : P.underlying t = some .string := by unfold isStr at hst; split at hst <;> first | assumption | cases hst
      obtain ⟨q, h1, h2⟩ := idx_run (P := P) (w := w) hu (ev_rep hs hx') (ev_rep hs hi') h
      exact ⟨q, value_run h1, h2⟩
    · cases hc
  | nilCheck x =>
    simp only [ccOp, Option.map_eq_some_iff] at hc
    obtain ⟨y, hy, rfl⟩ := hc
    have hr := ev_rep hs hy
    simp only [pureOp, nilcA] at h
    cases hb : s.ev y <;> simp only [hb] at h <;> first | (cases h; done) | skip
    all_goals
      obtain rfl := Option.some.inj h
      rw [hb] at hr
      refine ⟨a.eval x, ?_, hr⟩
      generalize hv : a.eval x = v at hr
      simp only [execOp, hv]
      cases hr <;> rfl
  | makeFunc fn first captured =>
    cases fn with
    | func f =>
      simp only [ccOp] at hc
      split at hc
      · rename_i h0
        simp only [Option.map_eq_some_iff] at hc
        obtain ⟨cs, hcs, rfl⟩ := hc
        obtain rfl := Option.some.inj h
        have hr := evs_rep hs hcs
        have hf : first = #[] := Array.eq_empty_of_size_eq_zero h0
        subst hf
        refine ⟨.func (.func f) #[] (captured.map a.eval), by simp [execOp, Instr.makeFunc], ?_⟩
        have := Rep.fn (σ := σ) f (cs.map s.ev) (captured.toList.map a.eval) hr.1 hr.2
        rw [show captured.map a.eval = (captured.toList.map a.eval).toArray from by apply Array.ext'; simp]
        exact this
      · split at hc
        · rename_i h0 h1
          simp only [Option.map_eq_some_iff] at hc
          obtain ⟨cs, hcs, rfl⟩ := hc
          simp only [pureOp] at h
          split at h
          · rename_i hvv
            obtain rfl := Option.some.inj h
            obtain ⟨vs, hvs⟩ := Option.isSome_iff_exists.1 hvv
            have hr := evs_rep hs hcs
            have hf : captured = #[] := Array.eq_empty_of_size_eq_zero h1
            subst hf
            refine ⟨.func (.func f) (first.map a.eval) #[], by simp [execOp, Instr.makeFunc], ?_⟩
            have hv := valsOf_rep hr hvs
            rw [show first.map a.eval = vs.toArray from by rw [← hv]; apply Array.ext'; simp]
            exact .mv f _ vs hvs
          · cases h
        · cases hc
    | _ => simp [ccOp] at hc
  | slice t x lo hi mx =>
    simp only [ccOp] at hc
    split at hc
    · rename_i hst
      have hu : P.underlying t = some .string := by unfold isStr at hst; split at hst <;> first | assumption | cases hst
      cases mx with
      | some m => cases hc
      | none =>
        simp only [Option.bind_eq_some_iff, Option.map_eq_some_iff] at hc
        obtain ⟨x', hx', lo', hlo, hi', hhi, rfl⟩ := hc
        simp only [pureOp] at h
        obtain ⟨m, hm, h⟩ := Option.bind_eq_some_iff.1 h
        obtain ⟨l, hl, h⟩ := Option.bind_eq_some_iff.1 h
        obtain ⟨hh, hhh, h⟩ := Option.bind_eq_some_iff.1 h
        obtain ⟨q, h1, h2⟩ := sls_run (P := P) (w := w) hs hu (ev_rep hs hx') hm hlo hhi hl hhh h
        exact ⟨q, value_run h1, h2⟩
    · split at hc
      · cases hc
      · rename_i hmh
        simp only [Option.bind_eq_some_iff, Option.map_eq_some_iff] at hc
        obtain ⟨e, he, m, hm, x', hx', lo', hlo, hi', hhi, mx', hmx, rfl⟩ := hc
        simp only [pureOp] at h
        obtain ⟨m', hm', h⟩ := Option.bind_eq_some_iff.1 h
        obtain ⟨l, hl, h⟩ := Option.bind_eq_some_iff.1 h
        obtain ⟨hh, hhh, h⟩ := Option.bind_eq_some_iff.1 h
        obtain ⟨q', hq', h⟩ := Option.bind_eq_some_iff.1 h
        obtain ⟨q, h1, h2⟩ := sli_run (P := P) (w := w) hs he hm (ev_rep hs hx') hm' hlo hhi hmx hl hhh hq' (by intro h'; cases hi <;> simp_all) h
        exact ⟨q, value_run h1, h2⟩
  | build t parts =>
    simp only [ccOp] at hc
    split at hc
    · rename_i fs hu
      simp only [Option.bind_eq_some_iff, Option.map_eq_some_iff] at hc
      obtain ⟨places, hp, z, hz, ps, hps, rfl⟩ := hc
      simp only [pureOp] at h
      obtain ⟨as, has, rfl⟩ := Option.map_eq_some_iff.1 h
      obtain ⟨q, h1, h2⟩ := bld_run (P := P) (w := w) hs hu hp hz hps has
      exact ⟨q, value_run h1, h2⟩
    · rename_i len e hu
      simp only [Option.bind_eq_some_iff, Option.map_eq_some_iff] at hc
      obtain ⟨n, hn, z, hz, ps, hps, rfl⟩ := hc
      simp only [pureOp] at h
      obtain ⟨as, has, rfl⟩ := Option.map_eq_some_iff.1 h
      obtain ⟨q, h1, h2⟩ := bld_arr_run (P := P) (w := w) hs hu hn hz (by simpa only [Option.bind_some] using hps) has
      exact ⟨q, value_run h1, h2⟩
    · cases hc
  | load t x =>
    simp only [ccOp, Option.bind_eq_some_iff, Option.map_eq_some_iff] at hc
    obtain ⟨m, hm, g, hg, y, hy, rfl⟩ := hc
    obtain ⟨q, h1, h2, _⟩ := ldVar_run (P := P) hs.sim (ev_rep hs hy) hm hg h
    exact ⟨q, value_run h1, h2⟩
  | call c =>
    obtain ⟨callee, args, ats⟩ := c
    cases callee with
    | value f =>
      simp only [ccOp, Option.bind_eq_some_iff, Option.map_eq_some_iff] at hc
      obtain ⟨f', _, as, _, rfl⟩ := hc
      simp [pureOp] at h
    | invoke r m => simp [ccOp] at hc
    | builtin b =>
      obtain ⟨args⟩ := args
      obtain ⟨ats⟩ := ats
      simp only [ccOp] at hc
      split at hc
      · rename_i x t
        split at hc
        · rename_i hst
          simp only [Option.map_eq_some_iff] at hc
          obtain ⟨y, hy, rfl⟩ := hc
          simp only [pureOp] at h
          obtain ⟨m, hm, rfl⟩ := Option.map_eq_some_iff.1 h
          refine ⟨.int .i64 (m : Int), ?_, .int _ _⟩
          simp [execOp, resolve, invoke, builtin, lens_run (P := P) (w := w) (ty := ty) (ev_rep hs hy) hm hst]
        · split at hc
          · rename_i hsl
            simp only [Option.map_eq_some_iff] at hc
            obtain ⟨y, hy, rfl⟩ := hc
            simp only [pureOp] at h
            obtain ⟨m, hm, rfl⟩ := Option.map_eq_some_iff.1 h
            refine ⟨.int .i64 (m : Int), ?_, .int _ _⟩
            simp [execOp, resolve, invoke, builtin, len_run (P := P) (w := w) (ty := ty) (ev_rep hs hy) hm hsl]
          · cases hc
      · simp only [Option.bind_eq_some_iff] at hc
        obtain ⟨e, _, e', _, m, _, b, _, z, _, hc⟩ := hc
        split at hc
        · simp only [Option.bind_eq_some_iff, Option.map_eq_some_iff] at hc
          obtain ⟨_, _, _, _, rfl⟩ := hc
          simp [pureOp] at h
        · cases hc
      · simp only [Option.bind_eq_some_iff] at hc
        obtain ⟨_, _, _, _, _, _, hc⟩ := hc
        split at hc
        · cases hc
        · simp only [Option.bind_eq_some_iff, Option.map_eq_some_iff] at hc
          obtain ⟨_, _, _, _, rfl⟩ := hc
          simp [pureOp] at h
      · simp only [Option.bind_eq_some_iff] at hc
        obtain ⟨e, _, m, _, z, _, hc⟩ := hc
        split at hc
        · simp only [Option.map_eq_some_iff] at hc
          obtain ⟨_, _, rfl⟩ := hc
          simp [pureOp] at h
        · cases hc
      · simp only [Option.bind_eq_some_iff, Option.map_eq_some_iff] at hc
        obtain ⟨x', hx', y', hy', rfl⟩ := hc
        obtain ⟨q, h1, h2⟩ := max_run (P := P) (w := w) (ts := ats.toArray) (ty := ty) (ev_rep hs hx') (ev_rep hs hy') h
        exact ⟨q, by simp [execOp, resolve, invoke, builtin, h1], h2⟩
      · simp only [Option.bind_eq_some_iff, Option.map_eq_some_iff] at hc
        obtain ⟨x', hx', y', hy', rfl⟩ := hc
        obtain ⟨q, h1, h2⟩ := min_run (P := P) (w := w) (ts := ats.toArray) (ty := ty) (ev_rep hs hx') (ev_rep hs hy') h
        exact ⟨q, by simp [execOp, resolve, invoke, builtin, h1], h2⟩
      · cases hc
  | buildSlice t len parts =>
    simp only [ccOp, Option.bind_eq_some_iff] at hc
    obtain ⟨e, _, m, _, z, _, hc⟩ := hc
    split at hc
    · simp only [Option.map_eq_some_iff] at hc
      obtain ⟨_, _, rfl⟩ := hc
      simp [pureOp] at h
    · cases hc
  | makeSlice t l c =>
    simp only [ccOp, Option.bind_eq_some_iff] at hc
    obtain ⟨e, _, m, _, b, _, z, _, hc⟩ := hc
    split at hc
    · simp only [Option.bind_eq_some_iff, Option.map_eq_some_iff] at hc
      obtain ⟨_, _, _, _, rfl⟩ := hc
      simp [pureOp] at h
    · cases hc
  | store t x v =>
    simp only [ccOp, Option.bind_eq_some_iff, Option.map_eq_some_iff] at hc
    obtain ⟨_, _, _, _, _, _, rfl⟩ := hc
    simp [pureOp] at h
  | alloc t =>
    simp only [ccOp, Option.map_eq_some_iff] at hc
    obtain ⟨_, _, rfl⟩ := hc
    split at h <;> simp [pureOp] at h
  | box t x =>
    simp only [ccOp, Option.bind_eq_some_iff, Option.map_eq_some_iff] at hc
    obtain ⟨_, _, _, _, rfl⟩ := hc
    simp [pureOp] at h
  | _ => simp [ccOp] at hc

end Go.Proofs.YtlglgcmpeabdnaaGreatDoorAi

/- Memory: what is written, made and copied. -/
namespace Go.Proofs.YtlglgcmpeabdnaaGreatDoorAi
open Go Go.RowKit
set_option linter.unusedVariables false
set_option linter.unusedSimpArgs false

variable {P : Program} {σ : Sg} {w : World}

theorem Sim.setRow {B : Nat → Prop} {A : AHeap} (h : Sim B σ A w) {b : Nat} {cs : List AV} (hb : A b = some cs) {c sz : Nat} (hn : σ.nm b = some (c, sz)) (cur' : Array Value) (cs' : List AV)
    (hsz : ∀ c0 e fr, w.heap[c]? = some (.cells c0 e fr) → cur'.size = c0.size) (hl : cs'.length ≤ cur'.size)
    (hr : ∀ (j : Nat) c, cs'[j]? = some c → ∃ v, cur'[j]? = some v ∧ Rep σ c v ∧ v.oneCell' = true) : Sim B σ (A.set b cs') (w.setRow c cur') := by
  obtain ⟨c', cur, e, hn', h1, h2, hh, _, _⟩ := h.own b cs hb
  rw [hn] at hn'
  injection hn' with hn'; injection hn' with e1 hs
  subst e1
  have hnew := setRow_heap w c cur cur' e (0, 0) hh
  refine ⟨by simpa using h.base, fun i o hi => ?_, h.low, fun i c1 n hi => ?_, fun i hi => h.tot i (by simpa using hi), fun i ob hi => ?_, fun i i' o o' c1 n n' e1 e2 => ?_, fun i e' hi => ?_⟩
  · have hne : i ≠ c := fun e' => by subst e'; rw [h2] at hi; cases hi
    rw [setRow_other w c i cur' hne]; exact h.mem i o hi
  · obtain ⟨k1, k2⟩ := h.nm i c1 n hi
    refine ⟨by simpa using k1, ?_⟩
    by_cases hib : c1 = c
    · subst hib
      obtain ⟨cs1, t1, fr1, k3, k4⟩ := k2
      exact ⟨cur', e, (0, 0), hnew, by rw [hsz _ _ _ k3, k4]⟩
    · rw [setRow_other w c c1 cur' hib]; exact k2
  · rw [AHeap.set_at] at hi
    split at hi
    · rename_i hib
      rw [hib.1]
      obtain rfl := Option.some.inj hi
      exact ⟨c, cur', e, by rw [hsz _ _ _ hh, ← hs]; exact hn, h1, h2, hnew, hl, hr⟩
    · rename_i hib
      have hib : i ≠ b := fun e => hib ⟨e, AHeap.lt hb⟩
      refine (h.own i ob hi).same fun c1 n1 hn1 => setRow_other w c c1 cur' fun hcc => ?_
      subst hcc
      exact hib (h.inj _ _ _ _ _ _ _ hi hb hn1 hn)
  · have key : ∀ {j oj}, (A.set b cs') j = some oj → ∃ oj', A j = some oj' := by
      intro j oj hj
      rw [AHeap.set_at] at hj
      split at hj
      · rename_i hjb; exact ⟨cs, by rw [hjb.1]; exact hb⟩
      · exact ⟨_, hj⟩
    obtain ⟨_, e1⟩ := key e1
    obtain ⟨_, e2⟩ := key e2
    exact h.inj i i' _ _ c1 n n' e1 e2
  · obtain ⟨cs1, fr1, k3⟩ := h.ty i e' hi
    by_cases hib : i = c
    · subst hib
      rw [hh] at k3
      injection k3 with k3; injection k3 with k4 k5 k6
      exact ⟨cur', (0, 0), by rw [hnew, k5]⟩
    · exact ⟨cs1, fr1, by rw [setRow_other w c i cur' hib]; exact k3⟩

theorem below_row {B : Nat → Prop} {g : Nat} {w0 w : World} (hb : Keeps B w0 w) (hBg : ¬ B g) (cs : Array Value) : Keeps B w0 (w.setRow g cs) :=
  hb.trans ⟨rfl, rfl, rfl, by simp, fun i hi => setRow_other w g i cs (fun e => hBg (e ▸ hi))⟩

theorem spliceV_get (cur : List Value) (off : Nat) (vs : List Value) (h : off + vs.length ≤ cur.length) (j : Nat) :
    (cur.take off ++ vs ++ cur.drop (off + vs.length))[j]? = if off ≤ j ∧ j < off + vs.length then vs[j - off]? else cur[j]? := by
  have h1 : (cur.take off).length = off := by simp; omega
  have h2 : (cur.take off ++ vs).length = off + vs.length := by simp; omega
  rcases Nat.lt_or_ge j (off + vs.length) with hj | hj
  · rw [List.getElem?_append_left (by omega)]
    rcases Nat.lt_or_ge j off with hj' | hj'
    · rw [List.getElem?_append_left (by omega), List.getElem?_take, if_pos hj', if_neg (by omega)]
    · rw [List.getElem?_append_right (by omega), h1, if_pos ⟨hj', hj⟩]
  · rw [List.getElem?_append_right (by omega), h2, List.getElem?_drop, if_neg (by omega)]
    congr 1
    omega

theorem setCells_get : ∀ (vs : List AV) (cs : List AV) (off j : Nat), off + vs.length ≤ cs.length → (setCells cs off vs)[j]? = if off ≤ j ∧ j < off + vs.length then vs[j - off]? else cs[j]?
  | [], cs, off, j, h => by simp [setCells]; intro h1 h2; omega
  | v :: vs, cs, off, j, h => by
    rw [setCells, setCells_get vs _ (off + 1) j (by simp at h ⊢; omega)]
    simp only [List.length_cons] at h ⊢
    by_cases h0 : j = off
    · subst h0
      rw [if_neg (by omega), if_pos (by omega), List.getElem?_set_self (by omega)]
      simp
    · by_cases h1 : off + 1 ≤ j ∧ j < off + 1 + vs.length
      · rw [if_pos h1, if_pos (by omega)]
        obtain ⟨k, hk⟩ : ∃ k, j - off = k + 1 := ⟨j - off - 1, by omega⟩
        rw [hk, List.getElem?_cons_succ]
        congr 1
        omega
      · rw [if_neg h1, if_neg (by omega), List.getElem?_set_ne (Ne.symm h0)]

/-- Cells are stored into an object. -/
theorem store_run {B : Nat → Prop} {w0 : World} {A : AHeap} (h : Sim B σ A w) (hb0 : Keeps B w0 w) {b off : Nat} {cs xs : List AV} {vs : List Value} (hb : A b = some cs) {c sz : Nat} (hn : σ.nm b = some (c, sz)) (hx : RepL σ xs vs) (h1 : ∀ v ∈ vs, v.oneCell' = true) (hfit : off + xs.length ≤ cs.length) :
    ∃ w', (storeCells ⟨c, off, none⟩ vs).run P w = .ok () w' ∧ Sim B σ (A.set b (setCells cs off xs)) w' ∧ Keeps B w0 w' := by
  obtain ⟨c', cur, e, hn', hB, _, hh, hcl, hr⟩ := h.own b cs hb
  rw [hn] at hn'
  injection hn' with hn'; injection hn' with e1 hs
  subst e1
  have hlv : xs.length = vs.length := hx.1
  have hst := run_storeCells_at P c off e vs 0 cur w hh (by omega) h1
  simp only [Nat.add_zero] at hst
  refine ⟨_, hst, h.setRow hb hn _ _ (fun c e' fr hc => ?_) ?_ (fun j c hj => ?_), below_row hb0 hB _⟩
  · rw [hh] at hc
    injection hc with hc
    injection hc with hc
    subst hc
    simp; omega
  · rw [setCells_length]; simp; omega
  · rw [setCells_get xs cs off j hfit] at hj
    have hget := spliceV_get cur.toList off vs (by simp; omega) j
    simp only [List.getElem?_toArray, hget]
    by_cases hc : off ≤ j ∧ j < off + xs.length
    · rw [if_pos hc] at hj
      rw [if_pos (by omega)]
      have hlt : j - off < vs.length := by omega
      exact ⟨vs[j - off], List.getElem?_eq_getElem hlt, hx.2 _ _ _ hj (List.getElem?_eq_getElem hlt), h1 _ (List.getElem_mem hlt)⟩
    · rw [if_neg hc] at hj
      rw [if_neg (by omega)]
      obtain ⟨v, h2, h3, h4⟩ := hr j c hj
      exact ⟨v, by simpa using h2, h3, h4⟩

theorem flatMap_get (e : Nat) : ∀ (xs : List AV) (k : Nat), (∀ x ∈ xs, x.cells.length = e) → 0 < e → (xs.flatMap AV.cells)[k]? = (xs[k / e]?).bind fun x => x.cells[k % e]?
  | [], k, _, _ => by simp
  | x :: xs, k, h, he => by
    rw [List.flatMap_cons]
    have hx := h x (List.mem_cons_self ..)
    rcases Nat.lt_or_ge k e with hk | hk
    · rw [List.getElem?_append_left (by omega), Nat.div_eq_of_lt hk, Nat.mod_eq_of_lt hk]
      rfl
    · rw [List.getElem?_append_right (by omega), hx, flatMap_get e xs (k - e) (fun y hy => h y (List.mem_cons_of_mem _ hy)) he]
      have h1 : k / e = (k - e) / e + 1 := by
        rw [Nat.div_eq k e, if_pos ⟨he, hk⟩]
      have h2 : k % e = (k - e) % e := Nat.mod_eq_sub_mod hk
      rw [h1, h2, List.getElem?_cons_succ]

theorem flatMap_len (e : Nat) : ∀ (xs : List AV), (∀ x ∈ xs, x.cells.length = e) → (xs.flatMap AV.cells).length = xs.length * e
  | [], _ => by simp
  | x :: xs, h => by
    rw [List.flatMap_cons, List.length_append, h x (List.mem_cons_self ..), flatMap_len e xs (fun y hy => h y (List.mem_cons_of_mem _ hy)), List.length_cons, Nat.add_mul]
    omega

/-- The cells of a slice, as they lie in memory. -/
theorem src_run {B : Nat → Prop} {A : AHeap} (h : Sim B σ A w) {e m : Nat} (he : 0 < e) {x : AV} {v : Value} (hx : Rep σ x v) {ys : List AV} (h1 : sliceCells A e x = some ys) (h2 : x.len? = some m) :
    ∃ us : List Value, RepL σ ys us ∧ (∀ u ∈ us, u.oneCell' = true) ∧ us.length = m * e ∧ ys.length = m * e ∧ (∀ w' : World, (Builtin.lenOf v).run P w' = .ok m w') ∧
      ∀ k : Nat, k ≤ m → ∀ w' : World, w'.heap = w.heap → (Builtin.firstCells e k v).run P w' = .ok (us.take (k * e)).toArray w' := by
  cases hx <;> simp only [sliceCells] at h1 <;> first | (cases h1; done) | skip
  · rename_i tt ad cap h3 h4 h5
    simp at h1
    subst h1
    simp [AV.len?] at h2
    subst h2
    refine ⟨[], RepL.nil σ, by simp, by simp, by simp, fun w' => rfl, fun k hk w' _ => ?_⟩
    have : k = 0 := by omega
    subst this
    cases ad <;> simp [Builtin.firstCells, loadCells, loadCellsFrom]
  · rename_i xs tt b off s cap val h3 h4 h5 h6 h7 h8 h9 h10
    split at h1
    · rename_i hall
      obtain rfl := Option.some.inj h1
      simp [AV.len?] at h2
      subst h2
      have hce : ∀ x ∈ xs, x.cells.length = e := fun x hx => beq_iff_eq.1 (List.all_eq_true.1 hall x hx)
      have hlen := flatMap_len e xs hce
      have hse : ∀ (i : Nat) (x : AV), xs[i]? = some x → s = e := fun i x hx => by rw [← h6 i x hx]; exact hce x (List.mem_of_getElem? hx)
      let us : List Value := (List.range (xs.length * e)).map fun k => val (k / e) (k % e)
      have husl : us.length = xs.length * e := by simp [us]
      have hus : ∀ (k : Nat) (u : Value), us[k]? = some u → k < xs.length * e ∧ u = val (k / e) (k % e) := by
        intro k u hu
        obtain ⟨hk, rfl⟩ := List.getElem?_eq_some_iff.1 hu
        exact ⟨by omega, by simp [us]⟩
      have hkey : ∀ (k : Nat) (c : AV), (xs.flatMap AV.cells)[k]? = some c → σ.cell b (off + k) = some (val (k / e) (k % e)) ∧ Rep σ c (val (k / e) (k % e)) := by
        intro k c hk
        rw [flatMap_get e xs k hce he] at hk
        obtain ⟨x, hx, hc⟩ := Option.bind_eq_some_iff.1 hk
        have hm := h7 _ _ hx _ _ hc
        rw [hse _ _ hx] at hm
        refine ⟨?_, h8 _ _ hx _ _ hc⟩
        rw [Nat.add_assoc, Nat.mul_comm, Nat.div_add_mod] at hm
        exact hm
      refine ⟨us, ⟨by rw [hlen, husl], fun k c u hk hu => ?_⟩, fun u hu => ?_, husl, hlen, fun w' => rfl, fun k hk w' hw' => ?_⟩
      · rw [(hus k u hu).2]; exact (hkey k c hk).2
      · obtain ⟨k, hk⟩ := List.getElem?_of_mem hu
        rw [(hus k u hk).2]; exact h9 _ _
      · have hcell : ∀ (j : Nat) (u : Value), us[j]? = some u → w'.cell? ((⟨b, off, none⟩ : Addr).add j) = some u := by
          intro j u hj
          obtain ⟨hlt, rfl⟩ := hus j u hj
          have hlt' : j < (xs.flatMap AV.cells).length := by omega
          have := (hkey j _ (List.getElem?_eq_getElem hlt')).1
          rw [add_plain]
          have hc := h.cell this
          simpa [World.cell?, hw'] using hc
        have hl' : (us.take (k * e)).length = k * e := by
          rw [List.length_take, husl]
          exact Nat.min_eq_left (Nat.mul_le_mul_right _ hk)
        have := run_loadCells_list (P := P) (w := w') ⟨b, off, none⟩ (us.take (k * e)) (fun j u hj => hcell j u (by
          rw [List.getElem?_take] at hj
          split at hj
          · exact hj
          · cases hj))
        rw [hl'] at this
        simpa [Builtin.firstCells] using this
    · cases h1
  · rename_i b e' o n tt ad cap c0 sz h3 h4 h5 h6 h7 h8 h9 h10
    split at h1
    · rename_i hee
      subst hee
      obtain ⟨cs, hb, h1⟩ := Option.bind_eq_some_iff.1 h1
      split at h1
      · rename_i hfit
        obtain rfl := Option.some.inj h1
        simp [AV.len?] at h2
        subst h2
        obtain ⟨c', cur, t, hn', _, _, hh, hcl, hr⟩ := h.own b cs hb
        rw [h7] at hn'
        injection hn' with hn'; injection hn' with e1 hs
        subst e1
        let us : List Value := (cur.toList.drop (o * e')).take (n * e')
        have hfit' : o * e' + n * e' ≤ cs.length := by rw [← Nat.add_mul]; exact hfit
        have husl : us.length = n * e' := by simp [us]; omega
        have hget : ∀ (k : Nat) (u : Value), us[k]? = some u → k < n * e' ∧ cur[o * e' + k]? = some u := by
          intro k u hu
          have hlt : k < n * e' := by have := (List.getElem?_eq_some_iff.1 hu).1; omega
          simp only [us, List.getElem?_take, if_pos hlt, List.getElem?_drop] at hu
          exact ⟨hlt, by simpa using hu⟩
        have hkey : ∀ (k : Nat) (u : Value), us[k]? = some u → ∃ c, cs[o * e' + k]? = some c ∧ Rep σ c u ∧ u.oneCell' = true := by
          intro k u hu
          obtain ⟨hlt, hc⟩ := hget k u hu
          have hlt' : o * e' + k < cs.length := by omega
          obtain ⟨v, hv1, hv2, hv3⟩ := hr _ _ (List.getElem?_eq_getElem hlt')
          rw [hc] at hv1
          obtain rfl := Option.some.inj hv1
          exact ⟨_, List.getElem?_eq_getElem hlt', hv2, hv3⟩
        refine ⟨us, ⟨by simp [husl]; omega, fun k c u hk hu => ?_⟩, fun u hu => ?_, husl, by simp; omega, fun w' => rfl, fun k hk w' hw' => ?_⟩
        · obtain ⟨c', hc', hr', _⟩ := hkey k u hu
          have hlt := (hget k u hu).1
          rw [List.getElem?_take, if_pos hlt, List.getElem?_drop, hc'] at hk
          obtain rfl := Option.some.inj hk
          exact hr'
        · obtain ⟨k, hk⟩ := List.getElem?_of_mem hu
          obtain ⟨_, _, _, h1'⟩ := hkey k u hk
          exact h1'
        · by_cases hcap : cap = 0
          · have : k = 0 := by omega
            subst this
            simp [Builtin.firstCells, loadCells, loadCellsFrom]
          · have had := h6 hcap
            subst had
            have hl' : (us.take (k * e')).length = k * e' := by
              rw [List.length_take, husl]
              exact Nat.min_eq_left (Nat.mul_le_mul_right _ hk)
            have := run_loadCells_list (P := P) (w := w') ⟨c0, o * e', none⟩ (us.take (k * e')) (fun j u hj => by
              rw [List.getElem?_take] at hj
              split at hj
              · rw [add_plain]
                have := (hget j u hj).2
                simp [World.cell?, hw', hh, this]
              · cases hj)
            rw [hl'] at this
            simpa [Builtin.firstCells] using this
      · cases h1
    · cases h1

end Go.Proofs.YtlglgcmpeabdnaaGreatDoorAi

/- append, make, literals, copy, clear. -/
namespace Go.Proofs.YtlglgcmpeabdnaaGreatDoorAi
open Go Go.RowKit
set_option linter.unusedVariables false
set_option linter.unusedSimpArgs false

variable {P : Program} {σ : Sg} {w : World}

/-- What a step leaves: more is known, and it fits. -/
def Step (B : Nat → Prop) (w0 : World) (σ : Sg) (A' : AHeap) (r : AV) (q : Value) (w' : World) : Prop := ∃ σ', σ.Le σ' ∧ Sim B σ' A' w' ∧ Rep σ' r q ∧ Keeps B w0 w'

theorem new_step {B : Nat → Prop} {w0 : World} {A : AHeap} (h : Sim B σ A w) (hb : Keeps B w0 w) (cells : Array Value) (e : TypeId) (cs : List AV)
    (hl : cs.length ≤ cells.size) (hr : ∀ (j : Nat) c, cs[j]? = some c → ∃ v, cells[j]? = some v ∧ Rep σ c v ∧ v.oneCell' = true) :
    ∃ σ', σ.Le σ' ∧ Sim B σ' (A.push cs) (w.alloc (.cells cells e)) ∧ Keeps B w0 (w.alloc (.cells cells e)) ∧ σ'.nm A.n = some (w.heap.size, cells.size) := by
  obtain ⟨h1, h2⟩ := h.new cells e cs hl hr
  exact ⟨_, h1, h2, hb.alloc h.base _, by simp [Sg.withNm]⟩

theorem newRow_run (e : TypeId) (cells : Array Value) : (newRow e cells).run P w = .ok ⟨w.heap.size, 0, none⟩ (w.alloc (.cells cells e)) := by
  rfl

theorem alloc_run {B : Nat → Prop} {w0 : World} {A : AHeap} (h : Sim B σ A w) (hb : Keeps B w0 w) {t : TypeId} {z : List AV} (hz : zeroT P t = some z) (old : Value) :
    ∃ w', (Instr.alloc t true (.tuple #[])).run P w = .ok (.pointer (some ⟨w.heap.size, 0, none⟩)) w' ∧ Step B w0 σ (A.push z) (.ptr A.n 0) (.pointer (some ⟨w.heap.size, 0, none⟩)) w' := by
  obtain ⟨v, hv, hr, h1⟩ := zeroT_run (σ := σ) hz
  have hl : z.length ≤ v.cells.size := by have := hr.1; simp at this; omega
  obtain ⟨σ', k1, k2, k3, k4⟩ := new_step h hb v.cells t z hl (fun j c hj => by
    have hlt : j < v.cells.toList.length := by rw [← hr.1]; exact (List.getElem?_eq_some_iff.1 hj).1
    exact ⟨v.cells.toList[j], by simp, hr.2 _ _ _ hj (List.getElem?_eq_getElem hlt), h1 _ (List.getElem_mem hlt)⟩)
  exact ⟨_, by simp [Instr.alloc, hv w, newVar, newRow_run], σ', k1, k2, .ptr _ _ _ _ k4, k3⟩

/-- What is known of a block's type. -/
def Sg.withTy (σ : Sg) (c : Nat) (e : TypeId) : Sg := { σ with ty := fun i => if i = c then some e else σ.ty i }
theorem Sim.withTy {B : Nat → Prop} {A : AHeap} (h : Sim B σ A w) {c : Nat} {e : TypeId} (hh : ∃ cs fr, w.heap[c]? = some (.cells cs e fr)) : σ.Le (σ.withTy c e) ∧ Sim B (σ.withTy c e) A w := by
  have hle : σ.Le (σ.withTy c e) := ⟨fun _ _ h => h, fun _ _ h => h, rfl, fun i e' hi => by
    show (if i = c then some e else σ.ty i) = some e'
    split
    · rename_i hic
      subst hic
      obtain ⟨cs, fr, h1⟩ := hh
      obtain ⟨cs', fr', h2⟩ := h.ty i e' hi
      rw [h1] at h2
      injection h2 with h2; injection h2 with _ h3 _
      rw [h3]
    · exact hi⟩
  refine ⟨hle, h.base, h.mem, h.low, h.nm, h.tot, fun b cs hb => (h.own b cs hb).mono hle rfl, h.inj, fun i e' hi => ?_⟩
  have hi : (if i = c then some e else σ.ty i) = some e' := hi
  split at hi
  · rename_i hic
    obtain rfl := Option.some.inj hi
    subst hic
    exact hh
  · exact h.ty i e' hi
theorem bldZ_eq {z : List AV} (h : bldZ z = true) : z = [.nilp, .sl [] true] := by
  unfold bldZ at h
  split at h
  · rfl
  · cases h
theorem allocb_run {B : Nat → Prop} {w0 : World} {A : AHeap} (h : Sim B σ A w) (hb : Keeps B w0 w) {t : TypeId} {z : List AV} (hz : zeroT P t = some z) (hbz : bldZ z = true) :
    ∃ w', (Instr.alloc t true (.tuple #[])).run P w = .ok (.pointer (some ⟨w.heap.size, 0, none⟩)) w' ∧ Step B w0 σ (A.push [.nilp, .sl [] true]) (.ep (.ptr A.n 0) t 0) (.pointer (some ⟨w.heap.size, 0, none⟩)) w' := by
  obtain rfl := bldZ_eq hbz
  obtain ⟨v, hv, hr, h1⟩ := zeroT_run (σ := σ) hz
  have hl : [AV.nilp, AV.sl [] true].length ≤ v.cells.size := by have := hr.1; simp at this ⊢; omega
  obtain ⟨σ1, k1, k2, k3, k4⟩ := new_step h hb v.cells t _ hl (fun j c hj => by
    have hlt : j < v.cells.toList.length := by rw [← hr.1]; exact (List.getElem?_eq_some_iff.1 hj).1
    exact ⟨v.cells.toList[j], by simp, hr.2 _ _ _ hj (List.getElem?_eq_getElem hlt), h1 _ (List.getElem_mem hlt)⟩)
  obtain ⟨m1, m2⟩ := k2.withTy (c := w.heap.size) (e := t) ⟨_, _, heap_alloc_new w _⟩
  have e2 : v.cells.size = 2 := by have := hr.1; simp at this; omega
  have k5 : (σ1.withTy w.heap.size t).nm A.n = some (w.heap.size, 2) := by rw [e2] at k4; exact k4
  exact ⟨_, by simp [Instr.alloc, hv w, newVar, newRow_run], _, k1.trans m1, m2, .eptr A.n t w.heap.size k5 (by simp [Sg.withTy]), k3⟩

theorem box_run {B : Nat → Prop} {w0 : World} {A : AHeap} (h : Sim B σ A w) (hb : Keeps B w0 w) {t : TypeId} {x : AV} {v : Value} (hx : Rep σ x v) (hs : x.solid = true) :
    ∃ w', (Instr.box t v).run P w = .ok (.pointer (some ⟨w.heap.size, 0, none⟩)) w' ∧ Step B w0 σ (A.push x.cells) (.ptr A.n 0) (.pointer (some ⟨w.heap.size, 0, none⟩)) w' := by
  have hr := hx.cells hs
  have h1 := hx.cells_one hs
  have hl : x.cells.length ≤ v.cells.size := by have := hr.1; simp at this ⊢; omega
  obtain ⟨σ', k1, k2, k3, k4⟩ := new_step h hb v.cells t x.cells hl (fun j c hj => by
    have hlt : j < v.cells.toList.length := by rw [← hr.1]; exact (List.getElem?_eq_some_iff.1 hj).1
    exact ⟨v.cells.toList[j], by simp, hr.2 _ _ _ hj (List.getElem?_eq_getElem hlt), h1 _ (List.getElem_mem hlt)⟩)
  exact ⟨_, by simp [Instr.box, newVar, newRow_run], σ', k1, k2, .ptr _ _ _ _ k4, k3⟩

theorem flat_get {α : Type} (z : List α) : ∀ (n k : Nat), k < n * z.length → ((List.replicate n z).flatten)[k]? = z[k % z.length]?
  | 0, k, h => by simp at h
  | n + 1, k, h => by
    rw [List.replicate_succ, List.flatten_cons]
    rcases Nat.lt_or_ge k z.length with hk | hk
    · rw [List.getElem?_append_left hk, Nat.mod_eq_of_lt hk]
    · rw [List.getElem?_append_right hk, flat_get z n (k - z.length) (by rw [Nat.add_mul] at h; omega), Nat.mod_eq_sub_mod hk]
theorem flat_len {α : Type} (z : List α) (n : Nat) : ((List.replicate n z).flatten).length = n * z.length := by
  induction n with
  | zero => simp
  | succ n ih => rw [List.replicate_succ, List.flatten_cons, List.length_append, ih, Nat.add_mul]; omega

theorem made_flat (z : Array Value) (n : Nat) : (madeCells z (n * z.size)).toList = (List.replicate n z.toList).flatten := by
  apply List.ext_getElem?
  intro k
  rcases Nat.lt_or_ge k (n * z.size) with hk | hk
  · rw [flat_get _ _ _ (by simpa using hk)]
    have hz : 0 < z.size := by
      rcases Nat.eq_zero_or_pos z.size with h | h
      · rw [h] at hk; simp at hk
      · exact h
    have hm : k % z.size < z.size := Nat.mod_lt _ hz
    rw [List.getElem?_eq_getElem (by simpa [size_madeCells] using hk)]
    simp [madeCells, hm]
  · rw [List.getElem?_eq_none (by simpa [size_madeCells] using hk), List.getElem?_eq_none (by rw [flat_len]; simpa using hk)]

theorem RepL.flat {z : List AV} {vs : List Value} (h : RepL σ z vs) : ∀ n, RepL σ (List.replicate n z).flatten (List.replicate n vs).flatten
  | 0 => RepL.nil σ
  | n + 1 => by
    rw [List.replicate_succ, List.replicate_succ, List.flatten_cons, List.flatten_cons]
    exact h.append (RepL.flat h n)

/-- Zero cells, over and over. -/
theorem zeros_rep {z : List AV} {v : Value} (hr : RepL σ z v.cells.toList) (h1 : ∀ u ∈ v.cells.toList, u.oneCell' = true) {e n : Nat} (he : z.length = e) :
    RepL σ (newCells e n z) (madeCells v.cells (n * e)).toList ∧ ∀ u ∈ (madeCells v.cells (n * e)).toList, u.oneCell' = true := by
  have hvl : e = v.cells.size := by have := hr.1; simp at this; omega
  subst hvl
  rw [made_flat]
  exact ⟨hr.flat n, fun u hu => by
    obtain ⟨l, hl, hu⟩ := List.mem_flatten.1 hu
    rw [List.eq_of_mem_replicate hl] at hu
    exact h1 u hu⟩

theorem cells_of {xs : List AV} {us : List Value} (hr : RepL σ xs us) (h1 : ∀ u ∈ us, u.oneCell' = true) (cells : Array Value) (hc : ∀ (j : Nat) (u : Value), us[j]? = some u → cells[j]? = some u) :
    ∀ (j : Nat) c, xs[j]? = some c → ∃ v, cells[j]? = some v ∧ Rep σ c v ∧ v.oneCell' = true := by
  intro j c hj
  have hlt : j < us.length := by rw [← hr.1]; exact (List.getElem?_eq_some_iff.1 hj).1
  exact ⟨us[j], hc j _ (List.getElem?_eq_getElem hlt), hr.2 _ _ _ hj (List.getElem?_eq_getElem hlt), h1 _ (List.getElem_mem hlt)⟩

theorem mks_run {B : Nat → Prop} {w0 : World} {A : AHeap} (h : Sim B σ A w) (hb : Keeps B w0 w) {t e : TypeId} (he : elT P t = some e) {esz bytes : Nat} (hn : szT P e = some esz) (hby : byT P e = some bytes) {z : List AV} (hz : zeroT P e = some z) (hzl : z.length = esz)
    {k k' : IntKind} {n : Int} (h0 : 0 ≤ n) (hm1 : n * ((bytes : Int) + 1) ≤ (mostBytes : Int)) :
    ∃ w', (Instr.makeSlice t (.int k n) (.int k' n)).run P w = .ok (.slice (some ⟨w.heap.size, 0, none⟩) n.toNat n.toNat) w' ∧
      Step B w0 σ (A.push (newCells esz n.toNat z)) (.ref A.n esz 0 n.toNat .tight) (.slice (some ⟨w.heap.size, 0, none⟩) n.toNat n.toNat) w' := by
  have hu := elT_spec he
  obtain ⟨i, hi, his⟩ := Option.map_eq_some_iff.1 hn
  obtain ⟨i', hi', hib⟩ := Option.map_eq_some_iff.1 hby
  rw [hi] at hi'
  obtain rfl := Option.some.inj hi'
  unfold zeroT at hz
  obtain ⟨v, hv, hzz⟩ := Option.bind_eq_some_iff.1 hz
  rw [hi] at hv
  simp only [Option.bind_some] at hv
  obtain ⟨hr, h1⟩ := ccVals_rep (σ := σ) hzz
  have hmul : 0 ≤ n * (bytes : Int) := Int.mul_nonneg h0 (Int.natCast_nonneg _)
  rw [Int.mul_add, Int.mul_one] at hm1
  have hmost : (mostBytes : Int) = 140737488355328 := rfl
  have hm : n * (bytes : Int) ≤ (mostBytes : Int) := by omega
  have hbig : n ≤ 9223372036854775807 := by omega
  have hmb : (i.bytes : Int) * n ≤ 281474976710656 := by
    have : (mostBytes : Int) = 140737488355328 := rfl
    rw [hib, Int.mul_comm]; omega
  have hrun := run_make (P := P) w t e i v hu hi hv k k' n n h0 (Int.le_refl _) hmb hbig
  obtain ⟨hz1, hz2⟩ := zeros_rep (n := n.toNat) hr h1 hzl
  rw [his] at hrun
  have hlen : (newCells esz n.toNat z).length = n.toNat * esz := by rw [newCells, flat_len, hzl]
  obtain ⟨σ', k1, k2, k3, k4⟩ := new_step h hb (madeCells v.cells (n.toNat * esz)) e (newCells esz n.toNat z) (by rw [hlen, size_madeCells]; exact Nat.le_refl _) (cells_of hz1 hz2 _ (fun j u hu => by simpa using hu))
  refine ⟨_, hrun, σ', k1, k2, ?_, k3⟩
  refine .ref _ _ _ _ _ _ _ w.heap.size (n.toNat * esz) (Nat.le_refl _) (by simp only [maxLen]; omega) (fun _ => rfl) (fun _ => by simp) (by rw [k4, size_madeCells]) (by simp) (fun h => by cases h) (fun h => by cases h)

theorem bsl_run {B : Nat → Prop} {n0 : Nat} {w0 : World} {s : St} {a : Act} (hs : SimSt B w0 n0 σ s a w) {t e : TypeId} (he : elT P t = some e) {esz len : Nat} (hn : szT P e = some esz) {z : List AV} (hz : zeroT P e = some z) (hzl : z.length = esz) (hpos : esz ≠ 0) (hbig : len * esz ≤ 16777216)
    {parts : Array (Nat × Operand)} {ps : List (Nat × Opd)} (hps : (parts.toList.mapM fun (p : Nat × Operand) => (ccOpd p.2).map fun x => (p.1, x)) = some ps) {cs : List AV}
    (hf : fillA (newCells esz len z) (ps.map fun p => (p.1 * esz, esz, s.ev p.2)) = some cs) :
    ∃ w', (Instr.buildSlice t len (parts.map fun (i, x) => (i, a.eval x))).run P w = .ok (.slice (some ⟨w.heap.size, 0, none⟩) len len) w' ∧
      Step B w0 σ (s.A.push cs) (.ref s.A.n esz 0 len .tight) (.slice (some ⟨w.heap.size, 0, none⟩) len len) w' := by
  have hu := elT_spec he
  obtain ⟨v, hv, hr, h1⟩ := zeroT_run (σ := σ) hz
  obtain ⟨hl, hget⟩ := mapM_some_length _ _ _ hps
  have hw : ∀ (i : Nat) (p : Nat × Operand), parts.toList[i]? = some p → ∃ x, ccOpd p.2 = some x ∧ ps[i]? = some (p.1, x) := by
    intro i p hpi
    obtain ⟨y, hy, hf⟩ := hget i p hpi
    obtain ⟨x, hx, rfl⟩ := Option.map_eq_some_iff.1 hf
    exact ⟨x, hx, hy⟩
  let mid : List (Nat × AV) := (parts.toList.zip ps).map fun q => (q.1.1, s.ev q.2.2)
  have hml : mid.length = parts.toList.length := by simp [mid, hl]
  obtain ⟨hz1, hz2⟩ := zeros_rep (n := len) hr h1 hzl
  obtain ⟨cells', hfc, hr', h1', hsz⟩ := fill_ok (σ := σ) (fun i => some (i * esz, esz)) mid ((parts.toList.map fun (i, x) => (i, a.eval x))) (ps.map fun p => (p.1 * esz, esz, s.ev p.2)) _ cs (madeCells v.cells (len * esz)) (by simp [hml]) (by simp [hml, hl])
    (fun j p hj => by
      simp only [mid, List.getElem?_map, Option.map_eq_some_iff] at hj
      obtain ⟨q, hq, rfl⟩ := hj
      rw [List.getElem?_zip_eq_some] at hq
      obtain ⟨x, hx, hy⟩ := hw j q.1 hq.1
      rw [hq.2] at hy
      have hqe := Option.some.inj hy
      refine ⟨a.eval q.1.2, by simp [List.getElem?_map, hq.1], by rw [hqe]; exact ev_rep hs hx, _, _, rfl, ?_⟩
      simp [List.getElem?_map, hq.2, hqe]) hz1 hz2 hf
  have hcl : cs.length = cells'.size := by have := hr'.1; simpa using this
  rw [size_madeCells] at hsz
  obtain ⟨σ', k1, k2, k3, k4⟩ := new_step hs.sim hs.below cells' e cs (by omega) (cells_of hr' h1' _ (fun j u hu => by simpa using hu))
  have hpa : (parts.map fun (i, x) => (i, a.eval x)).toList = parts.toList.map fun (i, x) => (i, a.eval x) := by simp
  refine ⟨_, ?_, σ', k1, k2, .ref _ _ _ _ _ _ _ w.heap.size (len * esz) (Nat.le_refl _) ?_ (fun _ => rfl) (fun _ => by simp) (by rw [k4, hsz]) (by simp) (fun h => by cases h) (fun h => by cases h), k3⟩
  · have hnb : ¬ (len * esz > 2 ^ 24) := by omega
    simp only [Instr.buildSlice, Sem.run_bind, run_underlying hu, Result.andThen_ok, run_sizeOf hn, if_neg hnb, Sem.run_pure]
    by_cases h0 : len * esz = 0
    · have hm0 : (Array.range (len * esz)).map (fun x => (#[] : Array Value)[x % (#[] : Array Value).size]!) = madeCells v.cells (len * esz) := by rw [h0]; simp [madeCells]
      rw [if_pos h0]
      simp only [Sem.run_bind, Sem.run_pure, Result.andThen_ok]
      rw [hm0, hpa, hfc]
      simp [newRow_run]
    · rw [if_neg h0]
      simp only [Sem.run_bind, hv w, Sem.run_pure, Result.andThen_ok]
      rw [hpa]
      have hfc' : Instr.fill (fun i => some (i * esz, esz)) ((Array.range (len * esz)).map (fun x => v.cells[x % v.cells.size]!)) (parts.toList.map fun (i, x) => (i, a.eval x)) = some cells' := hfc
      rw [hfc']
      simp [newRow_run]
  · simp only [maxLen]
    have : len * 1 ≤ len * esz := Nat.mul_le_mul_left _ (by omega)
    omega

end Go.Proofs.YtlglgcmpeabdnaaGreatDoorAi
