/- The abstract values and the abstract code of the own framework: definitions alone. -/
import Derived.WalkKit
namespace Go.Proofs.YtllahdjejcideaaAi
open Go Go.RowKit
set_option linter.unusedVariables false
set_option linter.unusedSimpArgs false

/-- How far a slice of an owned object reaches: no room behind; room to the object's end; not known. -/
inductive Cp where
  | tight | full | unk
  deriving Inhabited, DecidableEq

/-- Abstract values. `sl`: a slice whose elements never change again, by value. `ref`: a slice of an owned object. `ep`: the address of a cell of an element of a slice. -/
inductive AV where
  | bool (b : Bool)
  | int (k : IntKind) (n : Int)
  | str (s : ByteArray)
  | ptr (b off : Nat)
  | sl (xs : List AV) (tight : Bool)
  | ref (b esz off len : Nat) (cp : Cp)
  | ep (v : AV) (i off : Nat)
  | fn (f : FuncId) (caps : List AV)
  | nilp | nilf | nili | iface | any
  | agg (cs : List AV)
  | tup (vs : List AV)
  deriving Inhabited

@[simp] def AV.cells : AV → List AV
  | .agg cs => cs
  | v => [v]

/-- Owned objects by their names, in order: a row of cells; none: owned no more. -/
structure AHeap where
  l : List (Option (List AV))
def hget : List (Option (List AV)) → Nat → Option (List AV)
  | [], _ => none
  | o :: r, i => if i = 0 then o else hget r (i - 1)
def hset : List (Option (List AV)) → Nat → Option (List AV) → List (Option (List AV))
  | [], _, _ => []
  | o :: r, i, x => if i = 0 then x :: r else o :: hset r (i - 1) x
instance : CoeFun AHeap fun _ => Nat → Option (List AV) := ⟨fun A => hget A.l⟩
abbrev AHeap.n (A : AHeap) : Nat := A.l.length
def AHeap.nil : AHeap := ⟨[]⟩
def AHeap.set (A : AHeap) (b : Nat) (cs : List AV) : AHeap := ⟨hset A.l b (some cs)⟩
def AHeap.del (A : AHeap) (b : Nat) : AHeap := ⟨hset A.l b none⟩
def AHeap.push (A : AHeap) (cs : List AV) : AHeap := ⟨A.l ++ [some cs]⟩
/-- As many names; some objects are owned no more. -/
def AHeap.le (A A' : AHeap) : Prop := ∀ b cs, A b = some cs → A' b = some cs

mutual
/-- All names are less than a number. Slices by value have none. -/
def AV.lt (n : Nat) : AV → Bool
  | .ptr b _ => decide (b < n)
  | .ref b _ _ _ _ => decide (b < n)
  | .ep v _ _ => v.lt n
  | .fn _ cs => ltL n cs
  | .agg cs => ltL n cs
  | .tup cs => ltL n cs
  | _ => true
def ltL (n : Nat) : List AV → Bool
  | [] => true
  | x :: r => x.lt n && ltL n r
end
mutual
/-- Other names. -/
def AV.ren (f : Nat → Nat) : AV → AV
  | .ptr b o => .ptr (f b) o
  | .ref b e o n t => .ref (f b) e o n t
  | .ep v i o => .ep (v.ren f) i o
  | .fn g cs => .fn g (renL f cs)
  | .agg cs => .agg (renL f cs)
  | .tup cs => .tup (renL f cs)
  | x => x
def renL (f : Nat → Nat) : List AV → List AV
  | [] => []
  | x :: r => x.ren f :: renL f r
end

mutual
/-- Of slices by value no more is known of their room. -/
def AV.loose : AV → AV
  | .sl xs _ => .sl xs false
  | .fn g cs => .fn g (looseL cs)
  | .agg cs => .agg (looseL cs)
  | .tup cs => .tup (looseL cs)
  | x => x
def looseL : List AV → List AV
  | [] => []
  | x :: r => x.loose :: looseL r
end

inductive Opd where
  | t (n : Nat)
  | c (v : AV)
  deriving Inhabited

/-- Kinds of cells of plain data. -/
inductive Kd where
  | b | s
  | i (k : IntKind)
  deriving Inhabited, DecidableEq

inductive AOp where
  | mv (x : Opd)
  | eqb (neg : Bool) (x y : Opd)
  | eqs (neg : Bool) (ks : List Kd) (x y : Opd)
  | eqn (neg : Bool) (x : Opd)
  | eqi (neg : Bool) (x : Opd)
  | pick (c a b : Opd)
  | ext (x : Opd) (i : Nat)
  | bin (op : BinOp) (x y : Opd)
  | un (op : UnOp) (x : Opd)
  | conv (k : IntKind) (x : Opd)
  | b2s (x : Opd)
  | cstr (x : Opd)
  | fad (x : Opd) (off : Nat)
  | fld (x : Opd) (off size : Nat) (agg : Bool)
  | iad (esz : Nat) (x i : Opd)
  | idx (x i : Opd)
  | nilc (x : Opd)
  | mkf (f : FuncId) (caps : List Opd)
  | sli (esz : Nat) (x : Opd) (lo hi mx : Option Opd)
  | sls (x : Opd) (lo hi : Option Opd)
  | bld (zero : List AV) (parts : List (Nat × Nat × Opd))
  | len (x : Opd)
  | lens (x : Opd)
  | ld (x : Opd) (size : Nat) (agg : Bool)
  | st (x : Opd) (size : Nat) (v : Opd)
  | alloc (cells : List AV)
  | box (size : Nat) (x : Opd)
  | bsl (esz len : Nat) (zero : List AV) (parts : List (Nat × Opd))
  | mks (esz bytes : Nat) (zero : List AV) (l c : Opd)
  | app (esz bytes : Nat) (s x : Opd)
  | cpy (esz : Nat) (d s : Opd)
  | clr (esz : Nat) (zero : List AV) (x : Opd)
  | max (x y : Opd)
  | min (x y : Opd)
  | call (f : Opd) (args : List Opd)
  | callq (f : Opd) (args : List Opd)
  | calle (f : Opd) (args : List Opd) (cks : List (Opd × Nat × Bool))
  | bad
  deriving Inhabited

structure AOper where
  dst : Option Nat
  op : AOp
  guard : Option (Nat × Bool) := none
  deriving Inhabited

inductive AC where
  | skip
  | reg (ops : List AOper)
  | draw (ops : List (AOper × List Nat))
  | seq (a b : AC)
  | cond (c : Opd) (x y : AC)
  | block (id : Nat) (c : AC)
  | loop (c : AC)
  | exit (id : Nat)
  | ret
  | shift
  | bad
  deriving Inhabited

structure St where
  t : Nat → AV
  A : AHeap

def putT (t : Nat → AV) (d : Nat) (v : AV) : Nat → AV := fun i => if i = d then v else t i
def St.put (s : St) (d : Option Nat) (v : AV) : St :=
  match d with
  | some d => { s with t := putT s.t d v }
  | none => s

def St.ev (s : St) : Opd → AV
  | .t n => s.t n
  | .c v => v

/-! ### what operations compute -/

/-- Cell `off` of element `i` of a slice, read in a heap. -/
def elemCell (A : AHeap) (v : AV) (i off : Nat) : Option AV :=
  match v with
  | .sl xs _ => (xs[i]?).bind fun x => x.cells[off]?
  | .ref b esz o n _ => if i < n ∧ off < esz then (A b).bind fun cs => cs[(o + i) * esz + off]? else none
  | _ => none

def ldCell (A : AHeap) : AV → Option AV
  | .ptr b off => (A b).bind (·[off]?)
  | .ep v i off => elemCell A v i off
  | _ => none

def AV.addOff (n : Nat) : AV → Option AV
  | .ptr b off => some (.ptr b (off + n))
  | .ep v i off => some (.ep v i (off + n))
  | _ => none

def ldCells (A : AHeap) (p : AV) : Nat → Option (List AV)
  | 0 => some []
  | n + 1 => (ldCells A p n).bind fun cs => (p.addOff n).bind fun q => (ldCell A q).map fun c => cs ++ [c]

def ldVar (A : AHeap) (p : AV) (size : Nat) (agg : Bool) : Option AV :=
  if agg then (if size = 0 then none else (ldCells A p size).map AV.agg) else ldCell A p

def AV.len? : AV → Option Nat
  | .sl xs _ => some xs.length
  | .ref _ _ _ n _ => some n
  | _ => none
def AV.strlen? : AV → Option Nat
  | .str s => some s.size
  | _ => none

/-- Not a tuple of results: it can lie in memory. -/
def AV.solid : AV → Bool
  | .tup _ | .any => false
  | _ => true
/-- One cell. -/
def AV.one : AV → Bool
  | .tup _ | .agg _ | .any => false
  | _ => true

def isPlain : AV → Bool
  | .bool _ | .int _ _ | .str _ => true
  | _ => false

def cellEq : Kd → AV → AV → Option Bool
  | .b, .bool a, .bool b => some (a == b)
  | .i j, .int k a, .int k' b => if k = j ∧ k' = j then some (a == b) else none
  | .s, .str a, .str b => some (a == b)
  | _, _, _ => none

def cellsEq : List Kd → List AV → List AV → Option Bool
  | [], [], [] => some true
  | k :: ks, a :: x, b :: y => (cellEq k a b).bind fun r => (cellsEq ks x y).map fun q => r && q
  | _, _, _ => none

def intBin (op : BinOp) (k : IntKind) (x y : Int) : Option AV :=
  match op with
  | .add => some (.int k (k.wrap (x + y)))
  | .sub => some (.int k (k.wrap (x - y)))
  | .mul => some (.int k (k.wrap (x * y)))
  | .quo => if y = 0 then none else some (.int k (k.wrap (x.tdiv y)))
  | .rem => if y = 0 then none else some (.int k (x.tmod y))
  | .and => some (.int k (k.wrap (BitVec.ofInt k.bits x &&& BitVec.ofInt k.bits y).toNat))
  | .or => some (.int k (k.wrap (BitVec.ofInt k.bits x ||| BitVec.ofInt k.bits y).toNat))
  | .xor => some (.int k (k.wrap (BitVec.ofInt k.bits x ^^^ BitVec.ofInt k.bits y).toNat))
  | .andNot => some (.int k (k.wrap (BitVec.ofInt k.bits x &&& ~~~(BitVec.ofInt k.bits y)).toNat))
  | .eql => some (.bool (x == y))
  | .neq => some (.bool (x != y))
  | .lss => some (.bool (decide (x < y)))
  | .leq => some (.bool (decide (x ≤ y)))
  | .gtr => some (.bool (decide (x > y)))
  | .geq => some (.bool (decide (x ≥ y)))
  | _ => none

def binA (op : BinOp) (x y : AV) : Option AV :=
  match op, x, y with
  | .shl, .int k a, .int _ b => if b < 0 then none else some (.int k (k.wrap (a * 2 ^ min b.toNat k.bits)))
  | .shr, .int k a, .int _ b => if b < 0 then none else some (.int k (a.fdiv (2 ^ min b.toNat k.bits)))
  | op, .int k a, .int k' b => if k = k' then intBin op k a b else none
  | .add, .str a, .str b => if a.size + b.size ≤ 9223372036854775807 then some (.str (a ++ b)) else none
  | .eql, .str a, .str b => some (.bool (a == b))
  | .neq, .str a, .str b => some (.bool (a != b))
  | _, _, _ => none

def unA (op : UnOp) (x : AV) : Option AV :=
  match op, x with
  | .not, .bool b => some (.bool (!b))
  | .neg, .int k n => some (.int k (k.wrap (0 - n)))
  | .xor, .int k n => some (.int k (k.wrap (BitVec.ofInt k.bits (if k.signed then -1 else k.max) ^^^ BitVec.ofInt k.bits n).toNat))
  | _, _ => none

def byteOf : AV → Option UInt8
  | .int .u8 n => if 0 ≤ n ∧ n < 256 then some (UInt8.ofNat n.toNat) else none
  | _ => none

/-- The elements of a slice of one-cell elements. -/
def onesOf (A : AHeap) (v : AV) : Option (List AV) :=
  match v with
  | .sl xs _ => some xs
  | .ref b e o n _ => if e = 1 then (A b).bind fun cs => if o + n ≤ cs.length then some ((cs.drop o).take n) else none else none
  | _ => none

def optNat (s : St) (d : Nat) : Option Opd → Option Nat
  | none => some d
  | some x => match s.ev x with
    | .int _ n => if 0 ≤ n then some n.toNat else none
    | _ => none

/-- Slicing a slice: a bound beyond the length is served only where it is tight or none. -/
def maxOk (hi n : Nat) : Option Nat → Bool
  | none => true
  | some m => decide (hi ≤ m) && decide (m ≤ n)
def maxTight (hi n : Nat) (t : Bool) : Option Nat → Bool
  | none => t && hi == n
  | some m => m == hi
def maxCp (hi n : Nat) (t : Cp) : Option Nat → Cp
  | none => match t with
    | .tight => if hi = n then .tight else .unk
    | c => c
  | some m => if m = hi then .tight else .unk
def sliceA (esz : Nat) (v : AV) (lo hi : Nat) (mx : Option Nat) : Option AV :=
  match v with
  | .sl xs t => if lo ≤ hi ∧ hi ≤ xs.length ∧ maxOk hi xs.length mx = true ∧ (xs.all fun x => x.cells.length == esz) = true then
      some (.sl ((xs.take hi).drop lo) (maxTight hi xs.length t mx)) else none
  | .ref b e o n t => if e = esz ∧ lo ≤ hi ∧ hi ≤ n ∧ maxOk hi n mx = true then
      some (.ref b e (o + lo) (hi - lo) (maxCp hi n t mx)) else none
  | _ => none

def setCells (cs : List AV) (off : Nat) : List AV → List AV
  | [] => cs
  | c :: r => setCells (cs.set off c) (off + 1) r

def fillA (cells : List AV) : List (Nat × Nat × AV) → Option (List AV)
  | [] => some cells
  | (off, size, v) :: rest => if v.cells.length = size ∧ v.solid = true ∧ off + size ≤ cells.length then fillA (setCells cells off v.cells) rest else none

def pickA (c a b : AV) : Option AV :=
  match c with
  | .bool x => some (if x = true then a else b)
  | _ => none
def extA (x : AV) (i : Nat) : Option AV :=
  match x with
  | .tup vs => vs[i]?
  | _ => none
def eqbA (neg : Bool) (x y : AV) : Option AV :=
  match x, y with
  | .bool a, .bool b => some (.bool (if neg = true then a != b else a == b))
  | _, _ => none
def eqsA (neg : Bool) (ks : List Kd) (x y : AV) : Option AV :=
  match x, y with
  | .agg a, .agg b => (cellsEq ks a b).map fun r => .bool (if neg = true then !r else r)
  | _, _ => none
def convA (k : IntKind) (x : AV) : Option AV :=
  match x with
  | .int _ n => some (.int k (k.wrap n))
  | _ => none
def cstrA (x : AV) : Option AV :=
  match x with
  | .str s => some (.str s)
  | _ => none
def fldA (x : AV) (off size : Nat) (agg : Bool) : Option AV :=
  match x with
  | .agg cs => if agg = true then (if off + size ≤ cs.length then some (.agg ((cs.drop off).take size)) else none) else cs[off]?
  | _ => none
/-- The address of element `n` of a slice. -/
def eltA (esz : Nat) (x : AV) (n : Int) : Option AV :=
  match x with
  | .sl xs t => if 0 ≤ n then (xs[n.toNat]?).bind fun x => if x.cells.length = esz then some (.ep (.sl xs t) n.toNat 0) else none else none
  | .ref b e o l t => if e = esz ∧ 0 ≤ n ∧ n < l then some (.ep (.ref b e o l t) n.toNat 0) else none
  | _ => none
def iadA (esz : Nat) (x i : AV) : Option AV :=
  match i with
  | .int _ n => eltA esz x n
  | _ => none
def bytA (b : ByteArray) (n : Int) : Option AV := if h : 0 ≤ n ∧ n.toNat < b.size then some (.int .u8 ((b[n.toNat]'h.2).toNat : Int)) else none
def idxA (x i : AV) : Option AV :=
  match x, i with
  | .str b, .int _ n => bytA b n
  | _, _ => none
def nilcA (x : AV) : Option AV :=
  match x with
  | .ptr b o => some (.ptr b o)
  | .ep v i o => some (.ep v i o)
  | .fn f c => some (.fn f c)
  | _ => none
def slsA (x : AV) (l h : Nat) : Option AV :=
  match x with
  | .str b => if l ≤ h ∧ h ≤ b.size then some (.str (b.extract l h)) else none
  | _ => none
def maxA (x y : AV) : Option AV :=
  match x, y with
  | .int k a, .int k' b => if k = k' then some (.int k (if b > a then b else a)) else none
  | _, _ => none
def minA (x y : AV) : Option AV :=
  match x, y with
  | .int k a, .int k' b => if k = k' then some (.int k (if b < a then b else a)) else none
  | _, _ => none
def optMax (s : St) : Option Opd → Option (Option Nat)
  | none => some none
  | some m => (optNat s 0 (some m)).map some

def pureOp (s : St) : AOp → Option AV
  | .mv x => some (s.ev x)
  | .pick c a b => pickA (s.ev c) (s.ev a) (s.ev b)
  | .ext x i => extA (s.ev x) i
  | .bin op x y => binA op (s.ev x) (s.ev y)
  | .un op x => unA op (s.ev x)
  | .eqb neg x y => eqbA neg (s.ev x) (s.ev y)
  | .eqs neg ks x y => eqsA neg ks (s.ev x) (s.ev y)
  | .conv k x => convA k (s.ev x)
  | .b2s x => (onesOf s.A (s.ev x)).bind fun vs => (vs.mapM byteOf).map fun l => .str ⟨l.toArray⟩
  | .cstr x => cstrA (s.ev x)
  | .fad x off => (s.ev x).addOff off
  | .fld x off size agg => fldA (s.ev x) off size agg
  | .iad esz x i => iadA esz (s.ev x) (s.ev i)
  | .idx x i => idxA (s.ev x) (s.ev i)
  | .nilc x => nilcA (s.ev x)
  | .mkf f caps => some (.fn f (caps.map s.ev))
  | .sli esz x lo hi mx => ((s.ev x).len?).bind fun n => (optNat s 0 lo).bind fun l => (optNat s n hi).bind fun h => (optMax s mx).bind fun m => sliceA esz (s.ev x) l h m
  | .sls x lo hi => ((s.ev x).strlen?).bind fun n => (optNat s 0 lo).bind fun l => (optNat s n hi).bind fun h => slsA (s.ev x) l h
  | .bld zero parts => (fillA zero (parts.map fun p => (p.1, p.2.1, s.ev p.2.2))).map AV.agg
  | .len x => ((s.ev x).len?).map fun (n : Nat) => AV.int .i64 (n : Int)
  | .lens x => ((s.ev x).strlen?).map fun (n : Nat) => AV.int .i64 (n : Int)
  | .ld x size agg => ldVar s.A (s.ev x) size agg
  | .max x y => maxA (s.ev x) (s.ev y)
  | .min x y => minA (s.ev x) (s.ev y)
  | _ => none

/-- A store of cells at an address. -/
def stA (A : AHeap) (p : AV) (cs : List AV) : Option AHeap :=
  match p with
  | .ptr b off => (A b).bind fun old => if off + cs.length ≤ old.length then some (A.set b (setCells old off cs)) else none
  | .ep (.ref b esz o n _) i off => if i < n ∧ off + cs.length ≤ esz then
      (A b).bind fun old => if (o + i) * esz + off + cs.length ≤ old.length then some (A.set b (setCells old ((o + i) * esz + off) cs)) else none else none
  | _ => none

/-- All cells of a slice, in order. -/
def sliceCells (A : AHeap) (esz : Nat) (v : AV) : Option (List AV) :=
  match v with
  | .sl xs _ => if xs.all (fun x => x.cells.length == esz) then some (xs.flatMap AV.cells) else none
  | .ref b e o n _ => if e = esz then (A b).bind fun cs => if (o + n) * esz ≤ cs.length then some ((cs.drop (o * esz)).take (n * esz)) else none else none
  | _ => none

end Go.Proofs.YtllahdjejcideaaAi
