/- Contracts, joined. -/
import Derived.Test.YtjfoenibffdoeaaDoorAiZ
import Derived.Test.YtjfoenibffdoeaaDoorProg
import Derived.Test.YtjfoenibffdoeaaDoorAiX
import Derived.Test.YtjfoenibffdoeaaDoorShelfA
section
/- The program, for contracts. -/
namespace Go.Proofs.YtjfoenibffdoeaaDoorAi
open Go Go.RowKit
noncomputable abbrev PP : Program := Go.Proofs.Tryd.prog
theorem hmix : PP.follows .mixedOrders = true := by kernel_rfl
end Go.Proofs.YtjfoenibffdoeaaDoorAi
end

section
/- Data of the program, and how they lie. -/
namespace Go.Proofs.YtjfoenibffdoeaaDoorAi
open Go Go.RowKit
set_option linter.unusedVariables false
set_option linter.unusedSimpArgs false

structure Fr where
  p : Int
  q : Int
  deriving DecidableEq
structure Gr where
  n : Int
  e : Int
  deriving DecidableEq
structure Fl where
  l : Int
  g : Gr
  deriving DecidableEq

abbrev frA (x : Fr) : AV := .agg [.int .i64 x.p, .int .i64 x.q]
abbrev grA (x : Gr) : AV := .agg [.int .i64 x.n, .int .u32 x.e]
abbrev flA (x : Fl) : AV := .agg [.int .i64 x.l, .int .i64 x.g.n, .int .u32 x.g.e]
abbrev inA (n : Int) : AV := .int .i64 n

/-- A list of encoded data. -/
def mapA {α : Type} (f : α → AV) (l : List α) : List AV := l.map f
@[simp] theorem mapA_length {α : Type} (f : α → AV) (l : List α) : (mapA f l).length = l.length := by simp [mapA]
@[simp] theorem mapA_get {α : Type} (f : α → AV) (l : List α) (i : Nat) : (mapA f l)[i]? = (l[i]?).map f := by simp [mapA]
@[simp] theorem mapA_getElem {α : Type} (f : α → AV) (l : List α) (i : Nat) (h : i < (mapA f l).length) : (mapA f l)[i] = f (l[i]'(by simpa using h)) := by simp [mapA]
theorem mapA_getE {α : Type} (f : α → AV) (l : List α) (i : Nat) (h : i < l.length) : (mapA f l)[i]? = some (f l[i]) := by simp [mapA, h]
theorem mapA_append {α : Type} (f : α → AV) (l k : List α) : mapA f (l ++ k) = mapA f l ++ mapA f k := by simp [mapA]
theorem mapA_inj {α : Type} {f : α → AV} (hf : ∀ x y, f x = f y → x = y) : ∀ {l k : List α}, mapA f l = mapA f k → l = k
  | [], [], _ => rfl
  | [], _ :: _, h => by simp [mapA] at h
  | _ :: _, [], h => by simp [mapA] at h
  | x :: l, y :: k, h => by
    simp only [mapA, List.map_cons, List.cons.injEq] at h
    rw [hf _ _ h.1, mapA_inj hf (show mapA f l = mapA f k from h.2)]
theorem frA_inj (x y : Fr) (h : frA x = frA y) : x = y := by cases x; cases y; simp_all
theorem grA_inj (x y : Gr) (h : grA x = grA y) : x = y := by cases x; cases y; simp_all
theorem flA_inj (x y : Fl) (h : flA x = flA y) : x = y := by rcases x with ⟨_, _, _⟩; rcases y with ⟨_, _, _⟩; simp_all
theorem inA_inj (x y : Int) (h : inA x = inA y) : x = y := by simpa using h
abbrev frsA (l : List Fr) : List AV := mapA frA l
abbrev grsA (l : List Gr) : List AV := mapA grA l
abbrev flsA (l : List Fl) : List AV := mapA flA l
abbrev insA (l : List Int) : List AV := mapA inA l
@[simp] theorem frsA_inj {l k : List Fr} : mapA frA l = mapA frA k ↔ l = k := ⟨mapA_inj frA_inj, fun h => by rw [h]⟩
@[simp] theorem grsA_inj {l k : List Gr} : mapA grA l = mapA grA k ↔ l = k := ⟨mapA_inj grA_inj, fun h => by rw [h]⟩
@[simp] theorem flsA_inj {l k : List Fl} : mapA flA l = mapA flA k ↔ l = k := ⟨mapA_inj flA_inj, fun h => by rw [h]⟩
@[simp] theorem insA_inj {l k : List Int} : mapA inA l = mapA inA k ↔ l = k := ⟨mapA_inj inA_inj, fun h => by rw [h]⟩

theorem take_snoc {α : Type} (ps : List α) (i : Nat) (h : i < ps.length) : ps.take (i + 1) = ps.take i ++ [ps[i]] := by
  rw [List.take_add_one, List.getElem?_eq_getElem h]; rfl
theorem wrapNat {i : Nat} (h : i < 9223372036854775807) : IntKind.i64.wrap ((i : Int) + 1) = (i : Int) + 1 := wrapI64 (by omega) (by omega)

/-- Nothing is forgotten but temporaries: the first objects are the same. -/
theorem Sub.keep {N : Nat} {s : St} {l : List (Nat × AV)} {os : List (Option (List AV))} (hN : N ≤ os.length) (hs : hsub (fun b => b) os.length s.A 0 os) (ht : ∀ p ∈ l, p.2.lt os.length = true ∧ s.t p.1 = p.2) : Sub N s ⟨tl l, ⟨os⟩⟩ := by
  obtain ⟨h1, h2⟩ := hsub_get hs
  refine ⟨fun b => b, hN, fun _ _ => rfl, ⟨fun b hb => by simpa using h1 b hb, fun b cs hb => by simpa using h2 b cs hb, fun b b' cs cs' e1 e2 e => e⟩, tl_sub fun p hp => ⟨(ht p hp).1, by rw [ren_id]; exact (ht p hp).2⟩⟩

end Go.Proofs.YtjfoenibffdoeaaDoorAi
end

section
/- MADE BY PROGRAM (wip/tools/gen.py): the abstract code of functions. -/
namespace Go.Proofs.YtjfoenibffdoeaaDoorAi
open Go AC AOp Opd
set_option linter.unusedVariables false
set_option maxRecDepth 100000
def c_impl_in : AC := seq (reg [⟨(some 6), mv (c (.bool false)), none⟩]) (seq (reg [⟨(some 7), mv (t 0), none⟩, ⟨(some 8), mv (t 1), none⟩, ⟨(some 9), bin .geq (t 7) (t 8), none⟩, ⟨(some 10), mv (t 9), none⟩, ⟨(some 11), mv (t 0), some (10, true)⟩, ⟨(some 12), mv (t 2), some (10, true)⟩, ⟨(some 13), bin .leq (t 11) (t 12), some (10, true)⟩, ⟨(some 14), pick (t 10) (t 13) (c (.bool false)), none⟩, ⟨(some 6), mv (t 14), none⟩]) (ret))
def r_impl_in : List ARes := [.tmp 6]
theorem k_impl_in : acLin Go.Proofs.Tryd.prog 98 3 (inQ [] []) [] = some (c_impl_in, r_impl_in) := by kernel_rfl
def c_spec_l00In : AC := seq (reg [⟨(some 6), mv (c (.bool false)), none⟩]) (seq (reg [⟨(some 7), mv (t 0), none⟩, ⟨(some 8), mv (t 1), none⟩, ⟨(some 9), bin .geq (t 7) (t 8), none⟩, ⟨(some 10), mv (t 9), none⟩, ⟨(some 11), mv (t 0), some (10, true)⟩, ⟨(some 12), mv (t 2), some (10, true)⟩, ⟨(some 13), bin .leq (t 11) (t 12), some (10, true)⟩, ⟨(some 14), pick (t 10) (t 13) (c (.bool false)), none⟩, ⟨(some 6), mv (t 14), none⟩]) (ret))
def r_spec_l00In : List ARes := [.tmp 6]
theorem k_spec_l00In : acLin Go.Proofs.Tryd.prog 95 3 (inQ [] []) [] = some (c_spec_l00In, r_spec_l00In) := by kernel_rfl
def c_impl_pairs : AC := seq (reg [⟨(some 2), mv (c (.int .i64 0)), none⟩]) (seq (reg [⟨(some 3), mv (t 0), none⟩, ⟨(some 4), mv (t 0), none⟩, ⟨(some 5), bin .sub (t 4) (c (.int .i64 1)), none⟩, ⟨(some 6), bin .mul (t 3) (t 5), none⟩, ⟨(some 7), bin .quo (t 6) (c (.int .i64 2)), none⟩, ⟨(some 2), mv (t 7), none⟩]) (ret))
def r_impl_pairs : List ARes := [.tmp 2]
theorem k_impl_pairs : acLin Go.Proofs.Tryd.prog 102 1 (inQ [] []) [] = some (c_impl_pairs, r_impl_pairs) := by kernel_rfl
def c_spec_l01Bits : AC := seq (reg [⟨(some 2), mv (c (.int .i64 0)), none⟩]) (seq (reg [⟨(some 3), mv (t 0), none⟩, ⟨(some 4), mv (t 0), none⟩, ⟨(some 5), bin .sub (t 4) (c (.int .i64 1)), none⟩, ⟨(some 6), bin .mul (t 3) (t 5), none⟩, ⟨(some 7), bin .quo (t 6) (c (.int .i64 2)), none⟩, ⟨(some 2), mv (t 7), none⟩]) (ret))
def r_spec_l01Bits : List ARes := [.tmp 2]
theorem k_spec_l01Bits : acLin Go.Proofs.Tryd.prog 100 1 (inQ [] []) [] = some (c_spec_l01Bits, r_spec_l01Bits) := by kernel_rfl
def c_impl_ValidGraph : AC := seq (reg [⟨(some 1), box 2 (t 0), none⟩, ⟨(some 2), mv (c (.bool false)), none⟩]) (seq (reg [⟨(some 3), fad (t 1) 0, none⟩, ⟨(some 4), ld (t 3) 1 false, none⟩, ⟨(some 5), callq (c (.fn 98 [])) [t 4, c (.int .i64 0), c (.int .i64 5)], none⟩, ⟨(some 6), mv (t 5), none⟩, ⟨(some 7), fad (t 1) 1, some (6, true)⟩, ⟨(some 8), ld (t 7) 1 false, some (6, true)⟩, ⟨(some 9), fad (t 1) 0, some (6, true)⟩, ⟨(some 10), ld (t 9) 1 false, some (6, true)⟩, ⟨(some 11), callq (c (.fn 102 [])) [t 10], some (6, true)⟩, ⟨(some 12), bin .shr (t 8) (t 11), some (6, true)⟩, ⟨(some 13), bin .eql (t 12) (c (.int .u32 0)), some (6, true)⟩, ⟨(some 14), pick (t 6) (t 13) (c (.bool false)), none⟩, ⟨(some 2), mv (t 14), none⟩]) (ret))
def r_impl_ValidGraph : List ARes := [.tmp 2]
theorem k_impl_ValidGraph : acLin Go.Proofs.Tryd.prog 61 1 (inQ [98, 102] []) [⟨false, none, [], [], none⟩, ⟨false, some [0, 1, 2, 3, 4, 5, 6, 7, 8, 9, 10, 11, 12], [], [], none⟩] = some (c_impl_ValidGraph, r_impl_ValidGraph) := by kernel_rfl
def c_spec_l01Ok : AC := seq (reg [⟨(some 1), box 2 (t 0), none⟩, ⟨(some 2), mv (c (.bool false)), none⟩]) (seq (reg [⟨(some 3), fad (t 1) 0, none⟩, ⟨(some 4), ld (t 3) 1 false, none⟩, ⟨(some 5), callq (c (.fn 95 [])) [t 4, c (.int .i64 0), c (.int .i64 5)], none⟩, ⟨(some 6), mv (t 5), none⟩, ⟨(some 7), fad (t 1) 1, some (6, true)⟩, ⟨(some 8), ld (t 7) 1 false, some (6, true)⟩, ⟨(some 9), conv .i64 (t 8), some (6, true)⟩, ⟨(some 10), fad (t 1) 0, some (6, true)⟩, ⟨(some 11), ld (t 10) 1 false, some (6, true)⟩, ⟨(some 12), callq (c (.fn 100 [])) [t 11], some (6, true)⟩, ⟨(some 13), conv .u64 (t 12), some (6, true)⟩, ⟨(some 14), bin .shl (c (.int .i64 1)) (t 13), some (6, true)⟩, ⟨(some 15), bin .lss (t 9) (t 14), some (6, true)⟩, ⟨(some 16), pick (t 6) (t 15) (c (.bool false)), none⟩, ⟨(some 2), mv (t 16), none⟩]) (ret))
def r_spec_l01Ok : List ARes := [.tmp 2]
theorem k_spec_l01Ok : acLin Go.Proofs.Tryd.prog 59 1 (inQ [95, 100] []) [⟨false, none, [], [], none⟩, ⟨false, some [0, 1, 2, 3, 4, 5, 6, 7, 8, 9, 10, 11, 12, 13, 14], [], [], none⟩] = some (c_spec_l01Ok, r_spec_l01Ok) := by kernel_rfl
def c_impl_size : AC := seq (reg [⟨(some 2), mv (c (.int .i64 0)), none⟩]) (seq (reg [⟨(some 3), mv (t 0), none⟩, ⟨(some 4), mv (t 0), none⟩, ⟨(some 5), un .neg (t 4), none⟩, ⟨(some 6), max (t 3) (t 5), none⟩, ⟨(some 2), mv (t 6), none⟩]) (ret))
def r_impl_size : List ARes := [.tmp 2]
theorem k_impl_size : acLin Go.Proofs.Tryd.prog 134 1 (inQ [] []) [] = some (c_impl_size, r_impl_size) := by kernel_rfl
def c_impl_gcd : AC := seq (reg [⟨(some 4), mv (c (.int .i64 0)), none⟩]) (seq (block 0 (loop (seq (seq (reg [⟨(some 5), mv (t 1), none⟩, ⟨(some 6), bin .neq (t 5) (c (.int .i64 0)), none⟩]) (cond (t 6) (skip) (exit 0))) (block 1 (reg [⟨(some 7), mv (t 1), none⟩, ⟨(some 8), mv (t 0), none⟩, ⟨(some 9), mv (t 1), none⟩, ⟨(some 10), bin .rem (t 8) (t 9), none⟩, ⟨(some 0), mv (t 7), none⟩, ⟨(some 1), mv (t 10), none⟩]))))) (seq (reg [⟨(some 11), mv (t 0), none⟩, ⟨(some 12), callq (c (.fn 134 [])) [t 11], none⟩, ⟨(some 4), mv (t 12), none⟩]) (ret)))
def r_impl_gcd : List ARes := [.tmp 4]
theorem k_impl_gcd : acLin Go.Proofs.Tryd.prog 97 2 (inQ [134] []) [⟨false, none, [], [], none⟩, ⟨false, none, [], [], none⟩, ⟨false, none, [], [], none⟩, ⟨false, some [0, 1, 2, 3, 4, 5], [], [], none⟩] = some (c_impl_gcd, r_impl_gcd) := by kernel_rfl
def c_spec_l02Abs : AC := seq (reg [⟨(some 2), mv (c (.int .i64 0)), none⟩]) (seq (seq (reg [⟨(some 3), mv (t 0), none⟩, ⟨(some 4), bin .lss (t 3) (c (.int .i64 0)), none⟩]) (cond (t 4) (seq (reg [⟨(some 5), mv (t 0), none⟩, ⟨(some 6), un .neg (t 5), none⟩, ⟨(some 2), mv (t 6), none⟩]) (ret)) (skip))) (seq (reg [⟨(some 7), mv (t 0), none⟩, ⟨(some 2), mv (t 7), none⟩]) (ret)))
def r_spec_l02Abs : List ARes := [.tmp 2]
theorem k_spec_l02Abs : acLin Go.Proofs.Tryd.prog 51 1 (inQ [] []) [] = some (c_spec_l02Abs, r_spec_l02Abs) := by kernel_rfl
def c_spec_l02Common : AC := seq (reg [⟨(some 4), mv (c (.int .i64 0)), none⟩]) (seq (block 0 (loop (seq (seq (reg [⟨(some 6), mv (t 1), none⟩, ⟨(some 7), bin .neq (t 6) (c (.int .i64 0)), none⟩]) (cond (t 7) (skip) (exit 0))) (block 1 (seq (reg [⟨(some 8), mv (t 0), none⟩, ⟨(some 9), mv (t 1), none⟩, ⟨(some 10), bin .rem (t 8) (t 9), none⟩, ⟨(some 5), mv (t 10), none⟩]) (seq (reg [⟨(some 11), mv (t 1), none⟩, ⟨(some 0), mv (t 11), none⟩]) (reg [⟨(some 12), mv (t 5), none⟩, ⟨(some 1), mv (t 12), none⟩]))))))) (seq (reg [⟨(some 13), mv (t 0), none⟩, ⟨(some 4), mv (t 13), none⟩]) (ret)))
def r_spec_l02Common : List ARes := [.tmp 4]
theorem k_spec_l02Common : acLin Go.Proofs.Tryd.prog 96 2 (inQ [] []) [] = some (c_spec_l02Common, r_spec_l02Common) := by kernel_rfl
def c_impl_ValidFraction : AC := seq (reg [⟨(some 1), box 2 (t 0), none⟩, ⟨(some 2), mv (c (.bool false)), none⟩]) (seq (reg [⟨(some 3), fad (t 1) 1, none⟩, ⟨(some 4), ld (t 3) 1 false, none⟩, ⟨(some 5), bin .gtr (t 4) (c (.int .i64 0)), none⟩, ⟨(some 6), mv (t 5), none⟩, ⟨(some 7), fad (t 1) 0, some (6, true)⟩, ⟨(some 8), ld (t 7) 1 false, some (6, true)⟩, ⟨(some 9), bin .geq (t 8) (c (.int .i64 (-1000000000))), some (6, true)⟩, ⟨(some 10), pick (t 6) (t 9) (c (.bool false)), none⟩, ⟨(some 11), mv (t 10), none⟩, ⟨(some 12), fad (t 1) 0, some (11, true)⟩, ⟨(some 13), ld (t 12) 1 false, some (11, true)⟩, ⟨(some 14), bin .leq (t 13) (c (.int .i64 1000000000)), some (11, true)⟩, ⟨(some 15), pick (t 11) (t 14) (c (.bool false)), none⟩, ⟨(some 16), mv (t 15), none⟩, ⟨(some 17), fad (t 1) 1, some (16, true)⟩, ⟨(some 18), ld (t 17) 1 false, some (16, true)⟩, ⟨(some 19), bin .leq (t 18) (c (.int .i64 1000000000)), some (16, true)⟩, ⟨(some 20), pick (t 16) (t 19) (c (.bool false)), none⟩, ⟨(some 21), mv (t 20), none⟩, ⟨(some 22), fad (t 1) 0, some (21, true)⟩, ⟨(some 23), ld (t 22) 1 false, some (21, true)⟩, ⟨(some 24), fad (t 1) 1, some (21, true)⟩, ⟨(some 25), ld (t 24) 1 false, some (21, true)⟩, ⟨(some 26), callq (c (.fn 97 [])) [t 23, t 25], some (21, true)⟩, ⟨(some 27), bin .eql (t 26) (c (.int .i64 1)), some (21, true)⟩, ⟨(some 28), pick (t 21) (t 27) (c (.bool false)), none⟩, ⟨(some 2), mv (t 28), none⟩]) (ret))
def r_impl_ValidFraction : List ARes := [.tmp 2]
theorem k_impl_ValidFraction : acLin Go.Proofs.Tryd.prog 52 1 (inQ [97] []) [] = some (c_impl_ValidFraction, r_impl_ValidFraction) := by kernel_rfl
def c_spec_l02Ok : AC := seq (reg [⟨(some 1), box 2 (t 0), none⟩, ⟨(some 2), mv (c (.bool false)), none⟩]) (seq (reg [⟨(some 3), fad (t 1) 0, none⟩, ⟨(some 4), ld (t 3) 1 false, none⟩, ⟨(some 5), callq (c (.fn 95 [])) [t 4, c (.int .i64 (-1000000000)), c (.int .i64 1000000000)], none⟩, ⟨(some 6), mv (t 5), none⟩, ⟨(some 7), fad (t 1) 1, some (6, true)⟩, ⟨(some 8), ld (t 7) 1 false, some (6, true)⟩, ⟨(some 9), callq (c (.fn 95 [])) [t 8, c (.int .i64 1), c (.int .i64 1000000000)], some (6, true)⟩, ⟨(some 10), pick (t 6) (t 9) (c (.bool false)), none⟩, ⟨(some 11), mv (t 10), none⟩, ⟨(some 12), fad (t 1) 0, some (11, true)⟩, ⟨(some 13), ld (t 12) 1 false, some (11, true)⟩, ⟨(some 14), callq (c (.fn 51 [])) [t 13], some (11, true)⟩, ⟨(some 15), fad (t 1) 1, some (11, true)⟩, ⟨(some 16), ld (t 15) 1 false, some (11, true)⟩, ⟨(some 17), callq (c (.fn 96 [])) [t 14, t 16], some (11, true)⟩, ⟨(some 18), bin .eql (t 17) (c (.int .i64 1)), some (11, true)⟩, ⟨(some 19), pick (t 11) (t 18) (c (.bool false)), none⟩, ⟨(some 2), mv (t 19), none⟩]) (ret))
def r_spec_l02Ok : List ARes := [.tmp 2]
theorem k_spec_l02Ok : acLin Go.Proofs.Tryd.prog 49 1 (inQ [51, 95, 96] []) [⟨false, none, [], [], none⟩, ⟨false, some [0, 1, 2, 3, 4, 5, 6, 7, 8, 9, 10, 11, 12, 13, 14, 15, 16, 17], [], [], none⟩] = some (c_spec_l02Ok, r_spec_l02Ok) := by kernel_rfl
def c_impl_badFraction : AC := seq (reg [⟨(some 1), box 2 (t 0), none⟩, ⟨(some 2), mv (c (.bool false)), none⟩]) (seq (reg [⟨(some 3), ld (t 1) 2 true, none⟩, ⟨(some 4), callq (c (.fn 52 [])) [t 3], none⟩, ⟨(some 5), un .not (t 4), none⟩, ⟨(some 2), mv (t 5), none⟩]) (ret))
def r_impl_badFraction : List ARes := [.tmp 2]
theorem k_impl_badFraction : acLin Go.Proofs.Tryd.prog 114 1 (inQ [52] []) [] = some (c_impl_badFraction, r_impl_badFraction) := by kernel_rfl
def c_impl_zero : AC := seq (reg [⟨(some 0), alloc [.int .i64 0, .int .i64 0], none⟩]) (seq (reg [⟨(some 1), bld [.int .i64 0, .int .i64 0] [(0, 1, c (.int .i64 0)), (1, 1, c (.int .i64 1))], none⟩, ⟨none, st (t 0) 2 (t 1), none⟩]) (ret))
def r_impl_zero : List ARes := [.cell 0 2 true]
theorem k_impl_zero : acLin Go.Proofs.Tryd.prog 113 0 (inQ [] []) [] = some (c_impl_zero, r_impl_zero) := by kernel_rfl
def c_impl_one : AC := seq (reg [⟨(some 0), alloc [.int .i64 0, .int .i64 0], none⟩]) (seq (reg [⟨(some 1), bld [.int .i64 0, .int .i64 0] [(0, 1, c (.int .i64 1)), (1, 1, c (.int .i64 1))], none⟩, ⟨none, st (t 0) 2 (t 1), none⟩]) (ret))
def r_impl_one : List ARes := [.cell 0 2 true]
theorem k_impl_one : acLin Go.Proofs.Tryd.prog 116 0 (inQ [] []) [] = some (c_impl_one, r_impl_one) := by kernel_rfl
def c_spec_l02Zero : AC := seq (reg [⟨(some 0), alloc [.int .i64 0, .int .i64 0], none⟩]) (seq (reg [⟨(some 1), bld [.int .i64 0, .int .i64 0] [(1, 1, c (.int .i64 1))], none⟩, ⟨none, st (t 0) 2 (t 1), none⟩]) (ret))
def r_spec_l02Zero : List ARes := [.cell 0 2 true]
theorem k_spec_l02Zero : acLin Go.Proofs.Tryd.prog 140 0 (inQ [] []) [] = some (c_spec_l02Zero, r_spec_l02Zero) := by kernel_rfl
def c_spec_l02One : AC := seq (reg [⟨(some 2), alloc [.int .i64 0, .int .i64 0], none⟩]) (seq (reg [⟨(some 3), mv (t 0), none⟩, ⟨(some 4), bld [.int .i64 0, .int .i64 0] [(0, 1, t 3), (1, 1, c (.int .i64 1))], none⟩, ⟨none, st (t 2) 2 (t 4), none⟩]) (ret))
def r_spec_l02One : List ARes := [.cell 2 2 true]
theorem k_spec_l02One : acLin Go.Proofs.Tryd.prog 111 1 (inQ [] []) [] = some (c_spec_l02One, r_spec_l02One) := by kernel_rfl
end Go.Proofs.YtjfoenibffdoeaaDoorAi
end

section
/- Contracts: bounds, numbers of pairs, validity of graphs. -/
namespace Go.Proofs.YtjfoenibffdoeaaDoorAi
open Go Go.RowKit
set_option linter.unusedVariables false
set_option linter.unusedSimpArgs false

noncomputable def sp_in : List AV → Option (AV) := pf (ι := (Int) × (Int) × (Int)) (α := AV) (fun ⟨n, lo, hi⟩ => True) (fun ⟨n, lo, hi⟩ => [.int .i64 n, .int .i64 lo, .int .i64 hi]) (fun ⟨n, lo, hi⟩ => .bool (decide (lo ≤ n) && decide (n ≤ hi)))
theorem sp_in_eq (n lo hi : Int) : sp_in [.int .i64 n, .int .i64 lo, .int .i64 hi] = some (.bool (decide (lo ≤ n) && decide (n ≤ hi))) := by
  unfold sp_in
  exact pf_eq (ι := (Int) × (Int) × (Int)) (α := AV) (n, lo, hi) trivial (by rintro ⟨n', lo', hi'⟩ _ e; simp_all [Int.natCast_inj])
attribute [simp] sp_in_eq
theorem q_impl_in : QP PP 98 sp_in := by
  refine QP_pf (fun i h => ?_) fun i h => ?_
  · obtain ⟨n, lo, hi⟩ := i; exact ⟨by first | rfl | simp, by first | rfl | simp⟩
  obtain ⟨n, lo, hi⟩ := i
  replace h : True := h
  refine P_code Quiet.nil hmix k_impl_in rfl ?_ ?_
  · first | rfl | simp
  show wpc 0 PP _ c_impl_in (initSt [.int .i64 n, .int .i64 lo, .int .i64 hi] .nil) (endP r_impl_in (.bool (decide (lo ≤ n) && decide (n ≤ hi))))
  simp -dsimp -implicitDefEqProofs [c_impl_in, r_impl_in]
  repeat' (refine brW_of (fun h => ?_) (fun h => ?_) <;> have h0 := h <;> (try simp only [Bool.and_eq_true, Bool.and_eq_false_iff, Bool.or_eq_true, Bool.or_eq_false_iff, Bool.not_eq_true', Bool.not_eq_false', decide_eq_true_eq, decide_eq_false_iff_not, beq_iff_eq, beq_eq_false_iff_ne, bne_iff_ne, bne_eq_false_iff_eq] at h) <;> simp -dsimp -implicitDefEqProofs [h, h0])
theorem q_spec_l00In : QP PP 95 sp_in := by
  refine QP_pf (fun i h => ?_) fun i h => ?_
  · obtain ⟨n, lo, hi⟩ := i; exact ⟨by first | rfl | simp, by first | rfl | simp⟩
  obtain ⟨n, lo, hi⟩ := i
  replace h : True := h
  refine P_code Quiet.nil hmix k_spec_l00In rfl ?_ ?_
  · first | rfl | simp
  show wpc 0 PP _ c_spec_l00In (initSt [.int .i64 n, .int .i64 lo, .int .i64 hi] .nil) (endP r_spec_l00In (.bool (decide (lo ≤ n) && decide (n ≤ hi))))
  simp -dsimp -implicitDefEqProofs [c_spec_l00In, r_spec_l00In]
  repeat' (refine brW_of (fun h => ?_) (fun h => ?_) <;> have h0 := h <;> (try simp only [Bool.and_eq_true, Bool.and_eq_false_iff, Bool.or_eq_true, Bool.or_eq_false_iff, Bool.not_eq_true', Bool.not_eq_false', decide_eq_true_eq, decide_eq_false_iff_not, beq_iff_eq, beq_eq_false_iff_ne, bne_iff_ne, bne_eq_false_iff_eq] at h) <;> simp -dsimp -implicitDefEqProofs [h, h0])

def pairsI (n : Int) : Int := (n * (n - 1)).tdiv 2
theorem pI0 : pairsI 0 = 0 := by decide
theorem pI1 : pairsI 1 = 0 := by decide
theorem pI2 : pairsI 2 = 1 := by decide
theorem pI3 : pairsI 3 = 3 := by decide
theorem pI4 : pairsI 4 = 6 := by decide
theorem pI5 : pairsI 5 = 10 := by decide
noncomputable def sp_pairs : List AV → Option (AV) := pf (ι := (Int)) (α := AV) (fun n => 0 ≤ n ∧ n ≤ 5) (fun n => [.int .i64 n]) (fun n => .int .i64 (pairsI n))
theorem sp_pairs_eq (n : Int) (h : 0 ≤ n ∧ n ≤ 5) : sp_pairs [.int .i64 n] = some (.int .i64 (pairsI n)) := by
  unfold sp_pairs
  exact pf_eq (ι := (Int)) (α := AV) n h (by rintro n' _ e; simp_all [Int.natCast_inj])
theorem q_impl_pairs : QP PP 102 sp_pairs := by
  refine QP_pf (fun n h => ?_) fun n h => ?_
  · exact ⟨by first | rfl | simp, by first | rfl | simp⟩
  replace h : 0 ≤ n ∧ n ≤ 5 := h
  refine P_code Quiet.nil hmix k_impl_pairs rfl ?_ ?_
  · first | rfl | simp
  show wpc 0 PP _ c_impl_pairs (initSt [.int .i64 n] .nil) (endP r_impl_pairs (.int .i64 (pairsI n)))
  have h5 : n = 0 ∨ n = 1 ∨ n = 2 ∨ n = 3 ∨ n = 4 ∨ n = 5 := by omega
  rcases h5 with rfl | rfl | rfl | rfl | rfl | rfl <;> simp -dsimp -implicitDefEqProofs [c_impl_pairs, r_impl_pairs] <;> decide
theorem q_spec_l01Bits : QP PP 100 sp_pairs := by
  refine QP_pf (fun n h => ?_) fun n h => ?_
  · exact ⟨by first | rfl | simp, by first | rfl | simp⟩
  replace h : 0 ≤ n ∧ n ≤ 5 := h
  refine P_code Quiet.nil hmix k_spec_l01Bits rfl ?_ ?_
  · first | rfl | simp
  show wpc 0 PP _ c_spec_l01Bits (initSt [.int .i64 n] .nil) (endP r_spec_l01Bits (.int .i64 (pairsI n)))
  have h5 : n = 0 ∨ n = 1 ∨ n = 2 ∨ n = 3 ∨ n = 4 ∨ n = 5 := by omega
  rcases h5 with rfl | rfl | rfl | rfl | rfl | rfl <;> simp -dsimp -implicitDefEqProofs [c_spec_l01Bits, r_spec_l01Bits] <;> decide

theorem fdiv_zero {e m : Int} (hm : 0 < m) (h0 : 0 ≤ e) : (e.fdiv m == 0) = decide (e < m) := by
  rw [Int.fdiv_eq_ediv_of_nonneg _ (by omega), Bool.eq_iff_iff]
  simp
  constructor
  · intro h
    have := Int.emod_add_mul_ediv e m
    have := Int.emod_lt_of_pos e hm
    rw [h] at *
    omega
  · intro h
    exact Int.ediv_eq_zero_of_lt h0 h

def graphOk (n e : Int) : Bool := decide ((0 ≤ n ∧ n ≤ 5) ∧ e < 2 ^ (pairsI n).toNat)
noncomputable def sp_graphOk : List AV → Option (AV) := pf (ι := (Int) × (Int)) (α := AV) (fun ⟨n, e⟩ => 0 ≤ e ∧ e ≤ 4294967295) (fun ⟨n, e⟩ => [.agg [.int .i64 n, .int .u32 e]]) (fun ⟨n, e⟩ => .bool (graphOk n e))
theorem sp_graphOk_eq (n e : Int) (h : 0 ≤ e ∧ e ≤ 4294967295) : sp_graphOk [.agg [.int .i64 n, .int .u32 e]] = some (.bool (graphOk n e)) := by
  unfold sp_graphOk
  exact pf_eq (ι := (Int) × (Int)) (α := AV) (n, e) h (by rintro ⟨n', e'⟩ _ e; simp_all [Int.natCast_inj])
theorem q_impl_ValidGraph : QP PP 61 sp_graphOk := by
  refine QP_pf (fun i h => ?_) fun i h => ?_
  · obtain ⟨n, e⟩ := i; exact ⟨by first | rfl | simp, by first | rfl | simp⟩
  obtain ⟨n, e⟩ := i
  replace h : 0 ≤ e ∧ e ≤ 4294967295 := h
  refine P_code (Quiet.q1 q_impl_in (Quiet.q1 q_impl_pairs Quiet.nil)) hmix k_impl_ValidGraph rfl ?_ ?_
  · first | rfl | simp
  show wpc 0 PP _ c_impl_ValidGraph (initSt [.agg [.int .i64 n, .int .u32 e]] .nil) (endP r_impl_ValidGraph (.bool (graphOk n e)))
  simp -dsimp -implicitDefEqProofs [c_impl_ValidGraph, r_impl_ValidGraph]
  by_cases hn : 0 ≤ n ∧ n ≤ 5
  · have h5 : n = 0 ∨ n = 1 ∨ n = 2 ∨ n = 3 ∨ n = 4 ∨ n = 5 := by omega
    rcases h5 with rfl | rfl | rfl | rfl | rfl | rfl <;> simp -dsimp -implicitDefEqProofs [sp_pairs_eq, pI0, pI1, pI2, pI3, pI4, pI5, IntKind.bits]
    all_goals (try rw [fdiv_zero (by decide) h.1])
    all_goals (rw [Bool.eq_iff_iff]; simp [graphOk, pI0, pI1, pI2, pI3, pI4, pI5] <;> omega)
  · have hv : graphOk n e = false := decide_eq_false fun h => hn h.1
    have hv' : (decide (0 ≤ n) && decide (n ≤ 5)) = false := by simpa using hn
    simp -dsimp -implicitDefEqProofs [hv, hv']
theorem q_spec_l01Ok : QP PP 59 sp_graphOk := by
  refine QP_pf (fun i h => ?_) fun i h => ?_
  · obtain ⟨n, e⟩ := i; exact ⟨by first | rfl | simp, by first | rfl | simp⟩
  obtain ⟨n, e⟩ := i
  replace h : 0 ≤ e ∧ e ≤ 4294967295 := h
  refine P_code (Quiet.q1 q_spec_l00In (Quiet.q1 q_spec_l01Bits Quiet.nil)) hmix k_spec_l01Ok rfl ?_ ?_
  · first | rfl | simp
  show wpc 0 PP _ c_spec_l01Ok (initSt [.agg [.int .i64 n, .int .u32 e]] .nil) (endP r_spec_l01Ok (.bool (graphOk n e)))
  have em : e % 18446744073709551616 = e := by omega
  simp -dsimp -implicitDefEqProofs [c_spec_l01Ok, r_spec_l01Ok]
  by_cases hn : 0 ≤ n ∧ n ≤ 5
  · have h5 : n = 0 ∨ n = 1 ∨ n = 2 ∨ n = 3 ∨ n = 4 ∨ n = 5 := by omega
    rcases h5 with rfl | rfl | rfl | rfl | rfl | rfl <;> simp -dsimp -implicitDefEqProofs [sp_pairs_eq, pI0, pI1, pI2, pI3, pI4, pI5, IntKind.bits, IntKind.wrap, IntKind.signed]
    all_goals (rw [em, if_neg (by omega), Bool.eq_iff_iff]; simp [graphOk, pI0, pI1, pI2, pI3, pI4, pI5] <;> omega)
  · have hv : graphOk n e = false := decide_eq_false fun h => hn h.1
    have hv' : (decide (0 ≤ n) && decide (n ≤ 5)) = false := by simpa using hn
    simp -dsimp -implicitDefEqProofs [hv, hv']
noncomputable def sp_badGraph : List AV → Option (AV) := pf (ι := (Int) × (Int)) (α := AV) (fun ⟨n, e⟩ => 0 ≤ e ∧ e ≤ 4294967295) (fun ⟨n, e⟩ => [.agg [.int .i64 n, .int .u32 e]]) (fun ⟨n, e⟩ => .bool (!graphOk n e))
theorem sp_badGraph_eq (n e : Int) (h : 0 ≤ e ∧ e ≤ 4294967295) : sp_badGraph [.agg [.int .i64 n, .int .u32 e]] = some (.bool (!graphOk n e)) := by
  unfold sp_badGraph
  exact pf_eq (ι := (Int) × (Int)) (α := AV) (n, e) h (by rintro ⟨n', e'⟩ _ e; simp_all [Int.natCast_inj])
noncomputable def sp_zero : List AV → Option (AV) := pf (ι := Unit) (α := AV) (fun _ => True) (fun _ => []) (fun _ => .agg [.int .i64 0, .int .i64 1])
theorem sp_zero_eq  : sp_zero [] = some (.agg [.int .i64 0, .int .i64 1]) := by
  unfold sp_zero
  exact pf_eq (ι := Unit) (α := AV) () trivial (by rintro _ _ e; simp_all [Int.natCast_inj])
attribute [simp] sp_zero_eq
theorem q_impl_zero : QP PP 113 sp_zero := by
  refine QP_pf (fun i h => ?_) fun i h => ?_
  · exact ⟨by first | rfl | simp, by first | rfl | simp⟩
  replace h : True := h
  refine P_code Quiet.nil hmix k_impl_zero rfl ?_ ?_
  · first | rfl | simp
  show wpc 0 PP _ c_impl_zero (initSt [] .nil) (endP r_impl_zero (.agg [.int .i64 0, .int .i64 1]))
  simp -dsimp -implicitDefEqProofs [c_impl_zero, r_impl_zero]
theorem q_spec_l02Zero : QP PP 140 sp_zero := by
  refine QP_pf (fun i h => ?_) fun i h => ?_
  · exact ⟨by first | rfl | simp, by first | rfl | simp⟩
  replace h : True := h
  refine P_code Quiet.nil hmix k_spec_l02Zero rfl ?_ ?_
  · first | rfl | simp
  show wpc 0 PP _ c_spec_l02Zero (initSt [] .nil) (endP r_spec_l02Zero (.agg [.int .i64 0, .int .i64 1]))
  simp -dsimp -implicitDefEqProofs [c_spec_l02Zero, r_spec_l02Zero]
noncomputable def sp_one : List AV → Option (AV) := pf (ι := Unit) (α := AV) (fun _ => True) (fun _ => []) (fun _ => .agg [.int .i64 1, .int .i64 1])
theorem sp_one_eq  : sp_one [] = some (.agg [.int .i64 1, .int .i64 1]) := by
  unfold sp_one
  exact pf_eq (ι := Unit) (α := AV) () trivial (by rintro _ _ e; simp_all [Int.natCast_inj])
attribute [simp] sp_one_eq
theorem q_impl_one : QP PP 116 sp_one := by
  refine QP_pf (fun i h => ?_) fun i h => ?_
  · exact ⟨by first | rfl | simp, by first | rfl | simp⟩
  replace h : True := h
  refine P_code Quiet.nil hmix k_impl_one rfl ?_ ?_
  · first | rfl | simp
  show wpc 0 PP _ c_impl_one (initSt [] .nil) (endP r_impl_one (.agg [.int .i64 1, .int .i64 1]))
  simp -dsimp -implicitDefEqProofs [c_impl_one, r_impl_one]
noncomputable def sp_whole : List AV → Option (AV) := pf (ι := (Int)) (α := AV) (fun n => True) (fun n => [.int .i64 n]) (fun n => .agg [.int .i64 n, .int .i64 1])
theorem sp_whole_eq (n : Int) : sp_whole [.int .i64 n] = some (.agg [.int .i64 n, .int .i64 1]) := by
  unfold sp_whole
  exact pf_eq (ι := (Int)) (α := AV) n trivial (by rintro n' _ e; simp_all [Int.natCast_inj])
attribute [simp] sp_whole_eq
theorem q_spec_l02One : QP PP 111 sp_whole := by
  refine QP_pf (fun n h => ?_) fun n h => ?_
  · exact ⟨by first | rfl | simp, by first | rfl | simp⟩
  replace h : True := h
  refine P_code Quiet.nil hmix k_spec_l02One rfl ?_ ?_
  · first | rfl | simp
  show wpc 0 PP _ c_spec_l02One (initSt [.int .i64 n] .nil) (endP r_spec_l02One (.agg [.int .i64 n, .int .i64 1]))
  simp -dsimp -implicitDefEqProofs [c_spec_l02One, r_spec_l02One]

end Go.Proofs.YtjfoenibffdoeaaDoorAi
end

section
/- Contracts: common divisors, validity of fractions. -/
namespace Go.Proofs.YtjfoenibffdoeaaDoorAi
open Go Go.RowKit
set_option linter.unusedVariables false
set_option linter.unusedSimpArgs false

theorem gcd_step (x y : Int) : Int.gcd y (x.tmod y) = Int.gcd x y := by
  unfold Int.gcd
  rw [Int.natAbs_tmod, Nat.gcd_comm, ← Nat.gcd_rec, Nat.gcd_comm]
theorem tmod_bound {a b : Int} (ha : -4611686018427387904 ≤ a ∧ a ≤ 4611686018427387904) : -4611686018427387904 ≤ a.tmod b ∧ a.tmod b ≤ 4611686018427387904 := by
  have h1 : (a.tmod b).natAbs = a.natAbs % b.natAbs := Int.natAbs_tmod ..
  have h2 : a.natAbs % b.natAbs ≤ a.natAbs := Nat.mod_le ..
  omega
theorem tmod_less {a b : Int} (hb : b ≠ 0) : (a.tmod b).natAbs < b.natAbs := by
  rw [Int.natAbs_tmod]
  exact Nat.mod_lt _ (by omega)

noncomputable def sp_size : List AV → Option (AV) := pf (ι := (Int)) (α := AV) (fun n => -4611686018427387904 ≤ n ∧ n ≤ 4611686018427387904) (fun n => [.int .i64 n]) (fun n => .int .i64 n.natAbs)
theorem sp_size_eq (n : Int) (h : -4611686018427387904 ≤ n ∧ n ≤ 4611686018427387904) : sp_size [.int .i64 n] = some (.int .i64 n.natAbs) := by
  unfold sp_size
  exact pf_eq (ι := (Int)) (α := AV) n h (by rintro n' _ e; simp_all [Int.natCast_inj])
theorem q_impl_size : QP PP 134 sp_size := by
  refine QP_pf (fun n h => ?_) fun n h => ?_
  · exact ⟨by first | rfl | simp, by first | rfl | simp⟩
  replace h : -4611686018427387904 ≤ n ∧ n ≤ 4611686018427387904 := h
  refine P_code Quiet.nil hmix k_impl_size rfl ?_ ?_
  · first | rfl | simp
  show wpc 0 PP _ c_impl_size (initSt [.int .i64 n] .nil) (endP r_impl_size (.int .i64 n.natAbs))
  have hw : IntKind.i64.wrap (-n) = -n := wrapI64 (by omega) (by omega)
  simp -dsimp -implicitDefEqProofs [c_impl_size, r_impl_size, hw]
  split <;> omega
theorem q_spec_l02Abs : QP PP 51 sp_size := by
  refine QP_pf (fun n h => ?_) fun n h => ?_
  · exact ⟨by first | rfl | simp, by first | rfl | simp⟩
  replace h : -4611686018427387904 ≤ n ∧ n ≤ 4611686018427387904 := h
  refine P_code Quiet.nil hmix k_spec_l02Abs rfl ?_ ?_
  · first | rfl | simp
  show wpc 0 PP _ c_spec_l02Abs (initSt [.int .i64 n] .nil) (endP r_spec_l02Abs (.int .i64 n.natAbs))
  have hw : IntKind.i64.wrap (-n) = -n := wrapI64 (by omega) (by omega)
  simp -dsimp -implicitDefEqProofs [c_spec_l02Abs, r_spec_l02Abs, hw]
  refine brW_of (fun h => ?_) (fun h => ?_) <;> simp only [decide_eq_true_eq, decide_eq_false_iff_not] at h <;> simp -dsimp -implicitDefEqProofs [h, hw] <;> omega

def in62 (n : Int) : Prop := -4611686018427387904 ≤ n ∧ n ≤ 4611686018427387904
noncomputable def sp_gcd : List AV → Option (AV) := pf (ι := (Int) × (Int)) (α := AV) (fun ⟨a, b⟩ => in62 a ∧ in62 b) (fun ⟨a, b⟩ => [.int .i64 a, .int .i64 b]) (fun ⟨a, b⟩ => .int .i64 (Int.gcd a b))
theorem sp_gcd_eq (a b : Int) (h : in62 a ∧ in62 b) : sp_gcd [.int .i64 a, .int .i64 b] = some (.int .i64 (Int.gcd a b)) := by
  unfold sp_gcd
  exact pf_eq (ι := (Int) × (Int)) (α := AV) (a, b) h (by rintro ⟨a', b'⟩ _ e; simp_all [Int.natCast_inj])
theorem q_impl_gcd : QP PP 97 sp_gcd := by
  refine QP_pf (fun i h => ?_) fun i h => ?_
  · obtain ⟨a, b⟩ := i; exact ⟨by first | rfl | simp, by first | rfl | simp⟩
  obtain ⟨a, b⟩ := i
  replace h : in62 a ∧ in62 b := h
  refine P_code (Quiet.q1 q_impl_size Quiet.nil) hmix k_impl_gcd rfl ?_ ?_
  · first | rfl | simp
  show wpc 0 PP _ c_impl_gcd (initSt [.int .i64 a, .int .i64 b] .nil) (endP r_impl_gcd (.int .i64 (Int.gcd a b)))
  simp -dsimp -implicitDefEqProofs [c_impl_gcd, r_impl_gcd]
  refine wpLoop_st (fun (x : Int × Int) => ⟨tl [(0, .int .i64 x.1), (1, .int .i64 x.2)], ⟨[]⟩⟩) (fun x => in62 x.1 ∧ in62 x.2 ∧ Int.gcd x.1 x.2 = Int.gcd a b) (fun x => x.2.natAbs) (a, b) ⟨h.1, h.2, rfl⟩ (Sub.keep (by simp) (by simp [hsub]) (by simp)) ?_
  rintro ⟨x, y⟩ ⟨bx, by_, hg⟩
  simp -dsimp -implicitDefEqProofs
  refine brW_of (fun h => ?_) (fun h => ?_)
  · have hy0 : y ≠ 0 := by simpa using h
    simp -dsimp -implicitDefEqProofs [hy0]
    exact .mk (y, x.tmod y) ⟨by_, tmod_bound bx, by rw [gcd_step]; exact hg⟩ (tmod_less hy0) (Sub.keep (by simp) (by simp [hsub]) (by simp))
  · have hy0 : y = 0 := by simpa using h
    subst hy0
    simp -dsimp -implicitDefEqProofs [sp_size_eq x bx]
    rw [← hg, Int.gcd_zero_right]

noncomputable def sp_common : List AV → Option (AV) := pf (ι := (Int) × (Int)) (α := AV) (fun ⟨a, b⟩ => (0 ≤ a ∧ a ≤ 4611686018427387904) ∧ (0 ≤ b ∧ b ≤ 4611686018427387904)) (fun ⟨a, b⟩ => [.int .i64 a, .int .i64 b]) (fun ⟨a, b⟩ => .int .i64 (Int.gcd a b))
theorem sp_common_eq (a b : Int) (h : (0 ≤ a ∧ a ≤ 4611686018427387904) ∧ (0 ≤ b ∧ b ≤ 4611686018427387904)) : sp_common [.int .i64 a, .int .i64 b] = some (.int .i64 (Int.gcd a b)) := by
  unfold sp_common
  exact pf_eq (ι := (Int) × (Int)) (α := AV) (a, b) h (by rintro ⟨a', b'⟩ _ e; simp_all [Int.natCast_inj])
theorem q_spec_l02Common : QP PP 96 sp_common := by
  refine QP_pf (fun i h => ?_) fun i h => ?_
  · obtain ⟨a, b⟩ := i; exact ⟨by first | rfl | simp, by first | rfl | simp⟩
  obtain ⟨a, b⟩ := i
  replace h : (0 ≤ a ∧ a ≤ 4611686018427387904) ∧ (0 ≤ b ∧ b ≤ 4611686018427387904) := h
  refine P_code Quiet.nil hmix k_spec_l02Common rfl ?_ ?_
  · first | rfl | simp
  show wpc 0 PP _ c_spec_l02Common (initSt [.int .i64 a, .int .i64 b] .nil) (endP r_spec_l02Common (.int .i64 (Int.gcd a b)))
  simp -dsimp -implicitDefEqProofs [c_spec_l02Common, r_spec_l02Common]
  refine wpLoop_st (fun (x : Int × Int) => ⟨tl [(0, .int .i64 x.1), (1, .int .i64 x.2)], ⟨[]⟩⟩) (fun x => (0 ≤ x.1 ∧ x.1 ≤ 4611686018427387904) ∧ (0 ≤ x.2 ∧ x.2 ≤ 4611686018427387904) ∧ Int.gcd x.1 x.2 = Int.gcd a b) (fun x => x.2.natAbs) (a, b) ⟨h.1, h.2, rfl⟩ (Sub.keep (by simp) (by simp [hsub]) (by simp)) ?_
  rintro ⟨x, y⟩ ⟨bx, by_, hg⟩
  simp -dsimp -implicitDefEqProofs
  simp only at bx by_
  refine brW_of (fun h => ?_) (fun h => ?_)
  · have hy0 : y ≠ 0 := by simpa using h
    simp -dsimp -implicitDefEqProofs [hy0]
    exact .mk (y, x.tmod y) ⟨by_, ⟨Int.tmod_nonneg _ bx.1, (tmod_bound ⟨by omega, bx.2⟩).2⟩, by rw [gcd_step]; exact hg⟩ (tmod_less hy0) (Sub.keep (by simp) (by simp [hsub]) (by simp))
  · have hy0 : y = 0 := by simpa using h
    subst hy0
    simp -dsimp -implicitDefEqProofs
    rw [← hg, Int.gcd_zero_right]
    omega

def frOk (p q : Int) : Bool := decide ((-1000000000 ≤ p ∧ p ≤ 1000000000) ∧ (1 ≤ q ∧ q ≤ 1000000000) ∧ Int.gcd p q = 1)
theorem gcd_abs (p q : Int) : Int.gcd (p.natAbs : Int) q = Int.gcd p q := by simp [Int.gcd]
noncomputable def sp_frOk : List AV → Option (AV) := pf (ι := (Int) × (Int)) (α := AV) (fun ⟨p, q⟩ => True) (fun ⟨p, q⟩ => [.agg [.int .i64 p, .int .i64 q]]) (fun ⟨p, q⟩ => .bool (frOk p q))
theorem sp_frOk_eq (p q : Int) : sp_frOk [.agg [.int .i64 p, .int .i64 q]] = some (.bool (frOk p q)) := by
  unfold sp_frOk
  exact pf_eq (ι := (Int) × (Int)) (α := AV) (p, q) trivial (by rintro ⟨p', q'⟩ _ e; simp_all [Int.natCast_inj])
attribute [simp] sp_frOk_eq
theorem q_spec_l02Ok : QP PP 49 sp_frOk := by
  refine QP_pf (fun i h => ?_) fun i h => ?_
  · obtain ⟨p, q⟩ := i; exact ⟨by first | rfl | simp, by first | rfl | simp⟩
  obtain ⟨p, q⟩ := i
  replace h : True := h
  refine P_code (Quiet.q1 q_spec_l00In (Quiet.q1 q_spec_l02Abs (Quiet.q1 q_spec_l02Common Quiet.nil))) hmix k_spec_l02Ok rfl ?_ ?_
  · first | rfl | simp
  show wpc 0 PP _ c_spec_l02Ok (initSt [.agg [.int .i64 p, .int .i64 q]] .nil) (endP r_spec_l02Ok (.bool (frOk p q)))
  simp -dsimp -implicitDefEqProofs [c_spec_l02Ok, r_spec_l02Ok]
  by_cases c1 : -1000000000 ≤ p ∧ p ≤ 1000000000
  · by_cases c2 : 1 ≤ q ∧ q ≤ 1000000000
    · have hv : frOk p q = ((Int.gcd p q : Int) == 1) := by
        unfold frOk
        rw [Bool.eq_iff_iff]
        simp [c1, c2]
        omega
      simp -dsimp -implicitDefEqProofs [sp_size_eq p (by omega), sp_common_eq p.natAbs q (by omega), c1, c2, gcd_abs, hv]
    · have hv : frOk p q = false := decide_eq_false fun h => c2 h.2.1
      have c2' : (decide (1 ≤ q) && decide (q ≤ 1000000000)) = false := by simpa using c2
      simp -dsimp -implicitDefEqProofs [c1, c2', hv]
  · have hv : frOk p q = false := decide_eq_false fun h => c1 h.1
    have c1' : (decide (-1000000000 ≤ p) && decide (p ≤ 1000000000)) = false := by simpa using c1
    simp -dsimp -implicitDefEqProofs [c1', hv]
theorem q_impl_ValidFraction : QP PP 52 sp_frOk := by
  refine QP_pf (fun i h => ?_) fun i h => ?_
  · obtain ⟨p, q⟩ := i; exact ⟨by first | rfl | simp, by first | rfl | simp⟩
  obtain ⟨p, q⟩ := i
  replace h : True := h
  refine P_code (Quiet.q1 q_impl_gcd Quiet.nil) hmix k_impl_ValidFraction rfl ?_ ?_
  · first | rfl | simp
  show wpc 0 PP _ c_impl_ValidFraction (initSt [.agg [.int .i64 p, .int .i64 q]] .nil) (endP r_impl_ValidFraction (.bool (frOk p q)))
  simp -dsimp -implicitDefEqProofs [c_impl_ValidFraction, r_impl_ValidFraction]
  by_cases c : (-1000000000 ≤ p ∧ p ≤ 1000000000) ∧ (1 ≤ q ∧ q ≤ 1000000000)
  · have c1 : 0 < q := by omega
    have c2 : ¬ q < 1 := by omega
    have hv : frOk p q = ((Int.gcd p q : Int) == 1) := by
      unfold frOk
      rw [Bool.eq_iff_iff]
      simp [c.1, c.2]
      omega
    simp -dsimp -implicitDefEqProofs [sp_gcd_eq p q (by unfold in62; omega), c, c1, c2, hv]
  · have hv : frOk p q = false := decide_eq_false fun h => c ⟨h.1, h.2.1⟩
    rw [hv]
    repeat' (refine brW_of (fun h => ?_) (fun h => ?_) <;> have h0 := h <;> (try simp only [Bool.and_eq_true, Bool.and_eq_false_iff, Bool.or_eq_true, Bool.or_eq_false_iff, Bool.not_eq_true', Bool.not_eq_false', decide_eq_true_eq, decide_eq_false_iff_not, beq_iff_eq, beq_eq_false_iff_ne, bne_iff_ne, bne_eq_false_iff_eq] at h) <;> simp -dsimp -implicitDefEqProofs [h, h0, *])
    all_goals (exfalso; apply c; omega)
noncomputable def sp_badFraction : List AV → Option (AV) := pf (ι := (Int) × (Int)) (α := AV) (fun ⟨p, q⟩ => True) (fun ⟨p, q⟩ => [.agg [.int .i64 p, .int .i64 q]]) (fun ⟨p, q⟩ => .bool (!frOk p q))
theorem sp_badFraction_eq (p q : Int) : sp_badFraction [.agg [.int .i64 p, .int .i64 q]] = some (.bool (!frOk p q)) := by
  unfold sp_badFraction
  exact pf_eq (ι := (Int) × (Int)) (α := AV) (p, q) trivial (by rintro ⟨p', q'⟩ _ e; simp_all [Int.natCast_inj])
attribute [simp] sp_badFraction_eq
theorem q_impl_badFraction : QP PP 114 sp_badFraction := by
  refine QP_pf (fun i h => ?_) fun i h => ?_
  · obtain ⟨p, q⟩ := i; exact ⟨by first | rfl | simp, by first | rfl | simp⟩
  obtain ⟨p, q⟩ := i
  replace h : True := h
  refine P_code (Quiet.q1 q_impl_ValidFraction Quiet.nil) hmix k_impl_badFraction rfl ?_ ?_
  · first | rfl | simp
  show wpc 0 PP _ c_impl_badFraction (initSt [.agg [.int .i64 p, .int .i64 q]] .nil) (endP r_impl_badFraction (.bool (!frOk p q)))
  simp -dsimp -implicitDefEqProofs [c_impl_badFraction, r_impl_badFraction]

end Go.Proofs.YtjfoenibffdoeaaDoorAi
end

section
/- MADE BY PROGRAM (wip/tools/gen.py): the abstract code of functions. -/
namespace Go.Proofs.YtjfoenibffdoeaaDoorAi
open Go AC AOp Opd
set_option linter.unusedVariables false
set_option maxRecDepth 100000
def c_strconv_FormatInt : AC := seq (reg [⟨(some 4), mv (c (.str ⟨#[]⟩)), none⟩]) (seq (reg [⟨(some 5), mv (t 0), none⟩, ⟨(some 6), mv (t 1), none⟩, ⟨(some 7), callq (c (.fn 135 [])) [t 5, t 6], none⟩, ⟨(some 4), mv (t 7), none⟩]) (ret))
def r_strconv_FormatInt : List ARes := [.tmp 4]
theorem k_strconv_FormatInt : acLin Go.Proofs.Tryd.prog 99 2 (inQ [135] []) [] = some (c_strconv_FormatInt, r_strconv_FormatInt) := by kernel_rfl
def c_spec_Decimal : AC := seq (reg [⟨(some 2), mv (c (.str ⟨#[]⟩)), none⟩]) (seq (seq (reg [⟨(some 3), mv (t 0), none⟩, ⟨(some 4), bin .geq (t 3) (c (.int .i64 10)), none⟩]) (cond (t 4) (seq (reg [⟨(some 5), mv (t 0), none⟩, ⟨(some 6), bin .quo (t 5) (c (.int .i64 10)), none⟩, ⟨(some 7), callq (c (.fn 50 [])) [t 6], none⟩, ⟨(some 8), mv (t 0), none⟩, ⟨(some 9), bin .rem (t 8) (c (.int .i64 10)), none⟩, ⟨(some 10), bin .add (c (.int .i64 48)) (t 9), none⟩, ⟨(some 11), conv .u8 (t 10), none⟩, ⟨(some 12), bsl 1 1 [.int .u8 0] [(0, t 11)], none⟩, ⟨(some 13), b2s (t 12), none⟩, ⟨(some 14), bin .add (t 7) (t 13), none⟩, ⟨(some 2), mv (t 14), none⟩]) (ret)) (skip))) (seq (reg [⟨(some 15), mv (t 0), none⟩, ⟨(some 16), bin .add (c (.int .i64 48)) (t 15), none⟩, ⟨(some 17), conv .u8 (t 16), none⟩, ⟨(some 18), bsl 1 1 [.int .u8 0] [(0, t 17)], none⟩, ⟨(some 19), b2s (t 18), none⟩, ⟨(some 2), mv (t 19), none⟩]) (ret)))
def r_spec_Decimal : List ARes := [.tmp 2]
theorem k_spec_Decimal : acLin Go.Proofs.Tryd.prog 50 1 (inQ [50] []) [⟨false, none, [], [], none⟩, ⟨false, none, [], [], none⟩, ⟨false, some [0, 1, 2, 3, 4, 5, 6, 7, 8, 9, 10], [], [], none⟩] = some (c_spec_Decimal, r_spec_Decimal) := by kernel_rfl
def c_impl_decimal : AC := seq (reg [⟨(some 2), mv (c (.str ⟨#[]⟩)), none⟩]) (seq (reg [⟨(some 3), mv (t 0), none⟩, ⟨(some 4), callq (c (.fn 99 [])) [t 3, c (.int .i64 10)], none⟩, ⟨(some 2), mv (t 4), none⟩]) (ret))
def r_impl_decimal : List ARes := [.tmp 2]
theorem k_impl_decimal : acLin Go.Proofs.Tryd.prog 58 1 (inQ [99] []) [] = some (c_impl_decimal, r_impl_decimal) := by kernel_rfl
def c_impl_Fraction_text : AC := seq (reg [⟨(some 1), box 2 (t 0), none⟩, ⟨(some 2), mv (c (.str ⟨#[]⟩)), none⟩]) (seq (seq (reg [⟨(some 3), fad (t 1) 1, none⟩, ⟨(some 4), ld (t 3) 1 false, none⟩, ⟨(some 5), bin .eql (t 4) (c (.int .i64 1)), none⟩]) (cond (t 5) (seq (reg [⟨(some 6), fad (t 1) 0, none⟩, ⟨(some 7), ld (t 6) 1 false, none⟩, ⟨(some 8), callq (c (.fn 58 [])) [t 7], none⟩, ⟨(some 2), mv (t 8), none⟩]) (ret)) (skip))) (seq (reg [⟨(some 9), fad (t 1) 0, none⟩, ⟨(some 10), ld (t 9) 1 false, none⟩, ⟨(some 11), callq (c (.fn 58 [])) [t 10], none⟩, ⟨(some 12), bin .add (t 11) (c (.str ⟨#[47]⟩)), none⟩, ⟨(some 13), fad (t 1) 1, none⟩, ⟨(some 14), ld (t 13) 1 false, none⟩, ⟨(some 15), callq (c (.fn 58 [])) [t 14], none⟩, ⟨(some 16), bin .add (t 12) (t 15), none⟩, ⟨(some 2), mv (t 16), none⟩]) (ret)))
def r_impl_Fraction_text : List ARes := [.tmp 2]
theorem k_impl_Fraction_text : acLin Go.Proofs.Tryd.prog 53 1 (inQ [58] []) [⟨false, none, [], [], none⟩, ⟨false, none, [], [], none⟩, ⟨false, none, [], [], none⟩, ⟨false, none, [], [], none⟩, ⟨false, some [0, 1, 2, 3, 4, 5, 6, 7, 8], [], [], none⟩] = some (c_impl_Fraction_text, r_impl_Fraction_text) := by kernel_rfl
def c_impl_FractionText : AC := seq (reg [⟨(some 1), box 2 (t 0), none⟩, ⟨(some 2), mv (c (.str ⟨#[]⟩)), none⟩]) (seq (seq (reg [⟨(some 3), ld (t 1) 2 true, none⟩, ⟨(some 4), callq (c (.fn 52 [])) [t 3], none⟩, ⟨(some 5), un .not (t 4), none⟩]) (cond (t 5) (seq (reg [⟨(some 2), mv (c (.str ⟨#[]⟩)), none⟩]) (ret)) (skip))) (seq (reg [⟨(some 6), ld (t 1) 2 true, none⟩, ⟨(some 7), callq (c (.fn 53 [])) [t 6], none⟩, ⟨(some 2), mv (t 7), none⟩]) (ret)))
def r_impl_FractionText : List ARes := [.tmp 2]
theorem k_impl_FractionText : acLin Go.Proofs.Tryd.prog 15 1 (inQ [52, 53] []) [] = some (c_impl_FractionText, r_impl_FractionText) := by kernel_rfl
def c_spec_FractionText : AC := seq (reg [⟨(some 1), box 2 (t 0), none⟩, ⟨(some 2), mv (c (.str ⟨#[]⟩)), none⟩]) (seq (seq (reg [⟨(some 4), ld (t 1) 2 true, none⟩, ⟨(some 5), callq (c (.fn 49 [])) [t 4], none⟩, ⟨(some 6), un .not (t 5), none⟩]) (cond (t 6) (seq (reg [⟨(some 2), mv (c (.str ⟨#[]⟩)), none⟩]) (ret)) (skip))) (seq (reg [⟨(some 7), fad (t 1) 0, none⟩, ⟨(some 8), ld (t 7) 1 false, none⟩, ⟨(some 9), callq (c (.fn 51 [])) [t 8], none⟩, ⟨(some 10), callq (c (.fn 50 [])) [t 9], none⟩, ⟨(some 3), mv (t 10), none⟩]) (seq (seq (reg [⟨(some 11), fad (t 1) 0, none⟩, ⟨(some 12), ld (t 11) 1 false, none⟩, ⟨(some 13), bin .lss (t 12) (c (.int .i64 0)), none⟩]) (cond (t 13) (reg [⟨(some 14), mv (t 3), none⟩, ⟨(some 15), bin .add (c (.str ⟨#[45]⟩)) (t 14), none⟩, ⟨(some 3), mv (t 15), none⟩]) (skip))) (seq (seq (reg [⟨(some 16), fad (t 1) 1, none⟩, ⟨(some 17), ld (t 16) 1 false, none⟩, ⟨(some 18), bin .neq (t 17) (c (.int .i64 1)), none⟩]) (cond (t 18) (reg [⟨(some 19), mv (t 3), none⟩, ⟨(some 20), fad (t 1) 1, none⟩, ⟨(some 21), ld (t 20) 1 false, none⟩, ⟨(some 22), callq (c (.fn 50 [])) [t 21], none⟩, ⟨(some 23), bin .add (c (.str ⟨#[47]⟩)) (t 22), none⟩, ⟨(some 24), bin .add (t 19) (t 23), none⟩, ⟨(some 3), mv (t 24), none⟩]) (skip))) (seq (reg [⟨(some 25), mv (t 3), none⟩, ⟨(some 2), mv (t 25), none⟩]) (ret))))))
def r_spec_FractionText : List ARes := [.tmp 2]
theorem k_spec_FractionText : acLin Go.Proofs.Tryd.prog 13 1 (inQ [49, 50, 51] []) [] = some (c_spec_FractionText, r_spec_FractionText) := by kernel_rfl
def c_laws_FnExactFractionText : AC := seq (reg [⟨(some 1), box 2 (t 0), none⟩, ⟨(some 2), mv (c (.bool false)), none⟩]) (seq (reg [⟨(some 5), ld (t 1) 2 true, none⟩, ⟨(some 6), callq (c (.fn 14 [])) [t 5], none⟩, ⟨(some 7), callq (c (.fn 13 [])) [t 6], none⟩, ⟨(some 3), mv (t 7), none⟩]) (seq (reg [⟨(some 8), ld (t 1) 2 true, none⟩, ⟨(some 9), callq (c (.fn 14 [])) [t 8], none⟩, ⟨(some 10), callq (c (.fn 15 [])) [t 9], none⟩, ⟨(some 4), mv (t 10), none⟩]) (seq (seq (reg [⟨(some 11), mv (t 4), none⟩, ⟨(some 12), mv (t 3), none⟩, ⟨(some 13), bin .neq (t 11) (t 12), none⟩]) (cond (t 13) (seq (reg [⟨(some 2), mv (c (.bool false)), none⟩]) (ret)) (skip))) (seq (reg [⟨(some 2), mv (c (.bool true)), none⟩]) (ret)))))
def r_laws_FnExactFractionText : List ARes := [.tmp 2]
theorem k_laws_FnExactFractionText : acLin Go.Proofs.Tryd.prog 3 1 (inQ [13, 14, 15] []) [] = some (c_laws_FnExactFractionText, r_laws_FnExactFractionText) := by kernel_rfl
def c_impl_wordOf : AC := seq (reg [⟨(some 2), mv (c (.str ⟨#[]⟩)), none⟩, ⟨(some 3), mv (c (.int .i64 0)), none⟩]) (seq (seq (reg [⟨(some 4), mv (t 0), none⟩]) (block 0 (seq (reg [⟨(some 6), bin .eql (t 4) (c (.int .i64 1)), none⟩, ⟨(some 5), mv (t 6), none⟩]) (cond (t 5) (seq (reg [⟨(some 2), mv (c (.str ⟨#[103, 105, 118, 101]⟩)), none⟩, ⟨(some 3), mv (c (.int .i64 2)), none⟩]) (ret)) (seq (reg [⟨(some 8), bin .eql (t 4) (c (.int .i64 2)), none⟩, ⟨(some 7), mv (t 8), none⟩]) (cond (t 7) (seq (reg [⟨(some 2), mv (c (.str ⟨#[119, 111, 114, 107]⟩)), none⟩, ⟨(some 3), mv (c (.int .i64 1)), none⟩]) (ret)) (seq (reg [⟨(some 10), bin .eql (t 4) (c (.int .i64 3)), none⟩, ⟨(some 9), mv (t 10), none⟩]) (cond (t 9) (seq (reg [⟨(some 2), mv (c (.str ⟨#[100, 101, 108, 105, 118, 101, 114]⟩)), none⟩, ⟨(some 3), mv (c (.int .i64 1)), none⟩]) (ret)) (seq (reg [⟨(some 12), bin .eql (t 4) (c (.int .i64 4)), none⟩, ⟨(some 11), mv (t 12), none⟩]) (cond (t 11) (seq (reg [⟨(some 2), mv (c (.str ⟨#[99, 111, 112, 121]⟩)), none⟩, ⟨(some 3), mv (c (.int .i64 1)), none⟩]) (ret)) (seq (reg [⟨(some 14), bin .eql (t 4) (c (.int .i64 5)), none⟩, ⟨(some 13), mv (t 14), none⟩]) (cond (t 13) (seq (reg [⟨(some 2), mv (c (.str ⟨#[100, 114, 111, 112]⟩)), none⟩, ⟨(some 3), mv (c (.int .i64 1)), none⟩]) (ret)) (seq (reg [⟨(some 16), bin .eql (t 4) (c (.int .i64 6)), none⟩, ⟨(some 15), mv (t 16), none⟩]) (cond (t 15) (seq (reg [⟨(some 2), mv (c (.str ⟨#[115, 97, 118, 101]⟩)), none⟩, ⟨(some 3), mv (c (.int .i64 0)), none⟩]) (ret)) (seq (reg [⟨(some 18), bin .eql (t 4) (c (.int .i64 7)), none⟩, ⟨(some 17), mv (t 18), none⟩]) (cond (t 17) (seq (reg [⟨(some 2), mv (c (.str ⟨#[99, 114, 97, 115, 104]⟩)), none⟩, ⟨(some 3), mv (c (.int .i64 0)), none⟩]) (ret)) (skip))))))))))))))))) (seq (reg [⟨(some 2), mv (c (.str ⟨#[]⟩)), none⟩, ⟨(some 3), mv (c (.int .i64 0)), none⟩]) (ret)))
def r_impl_wordOf : List ARes := [.tmp 2, .tmp 3]
theorem k_impl_wordOf : acLin Go.Proofs.Tryd.prog 57 1 (inQ [] []) [] = some (c_impl_wordOf, r_impl_wordOf) := by kernel_rfl
def c_spec_l08Words : AC := seq (reg [⟨(some 0), mv (c (.sl [] true)), none⟩, ⟨(some 1), mv (c (.sl [] true)), none⟩]) (seq (reg [⟨(some 2), bsl 1 8 [.str ⟨#[]⟩] [(0, c (.str ⟨#[]⟩)), (1, c (.str ⟨#[103, 105, 118, 101]⟩)), (2, c (.str ⟨#[119, 111, 114, 107]⟩)), (3, c (.str ⟨#[100, 101, 108, 105, 118, 101, 114]⟩)), (4, c (.str ⟨#[99, 111, 112, 121]⟩)), (5, c (.str ⟨#[100, 114, 111, 112]⟩)), (6, c (.str ⟨#[115, 97, 118, 101]⟩)), (7, c (.str ⟨#[99, 114, 97, 115, 104]⟩))], none⟩, ⟨(some 3), bsl 1 8 [.int .i64 0] [(0, c (.int .i64 0)), (1, c (.int .i64 2)), (2, c (.int .i64 1)), (3, c (.int .i64 1)), (4, c (.int .i64 1)), (5, c (.int .i64 1)), (6, c (.int .i64 0)), (7, c (.int .i64 0))], none⟩, ⟨(some 0), mv (t 2), none⟩, ⟨(some 1), mv (t 3), none⟩]) (ret))
def r_spec_l08Words : List ARes := [.tmp 0, .tmp 1]
theorem k_spec_l08Words : acLin Go.Proofs.Tryd.prog 55 0 (inQ [] []) [] = some (c_spec_l08Words, r_spec_l08Words) := by kernel_rfl
def c_spec_l08Deed : AC := seq (reg [⟨(some 1), box 3 (t 0), none⟩, ⟨(some 2), mv (c (.bool false)), none⟩]) (seq (seq (reg [⟨(some 5), fad (t 1) 0, none⟩, ⟨(some 6), ld (t 5) 1 false, none⟩, ⟨(some 7), callq (c (.fn 95 [])) [t 6, c (.int .i64 1), c (.int .i64 7)], none⟩, ⟨(some 8), un .not (t 7), none⟩, ⟨(some 9), mv (t 8), none⟩, ⟨(some 10), fad (t 1) 1, some (9, false)⟩, ⟨(some 11), ld (t 10) 1 false, some (9, false)⟩, ⟨(some 12), callq (c (.fn 95 [])) [t 11, c (.int .i64 0), c (.int .i64 999)], some (9, false)⟩, ⟨(some 13), un .not (t 12), some (9, false)⟩, ⟨(some 14), pick (t 9) (c (.bool true)) (t 13), none⟩, ⟨(some 15), mv (t 14), none⟩, ⟨(some 16), fad (t 1) 2, some (15, false)⟩, ⟨(some 17), ld (t 16) 1 false, some (15, false)⟩, ⟨(some 18), callq (c (.fn 95 [])) [t 17, c (.int .i64 0), c (.int .i64 999)], some (15, false)⟩, ⟨(some 19), un .not (t 18), some (15, false)⟩, ⟨(some 20), pick (t 15) (c (.bool true)) (t 19), none⟩]) (cond (t 20) (seq (reg [⟨(some 2), mv (c (.bool false)), none⟩]) (ret)) (skip))) (seq (reg [⟨(some 22), calle (c (.fn 55 [])) [] [], none⟩, ⟨(some 21), mv (t 22), none⟩, ⟨(some 23), ext (t 21) 0, none⟩, ⟨(some 24), ext (t 21) 1, none⟩, ⟨(some 3), mv (t 23), none⟩, ⟨(some 4), mv (t 24), none⟩]) (seq (reg [⟨(some 25), mv (t 4), none⟩, ⟨(some 26), fad (t 1) 0, none⟩, ⟨(some 27), ld (t 26) 1 false, none⟩, ⟨(some 28), iad 1 (t 25) (t 27), none⟩, ⟨(some 29), ld (t 28) 1 false, none⟩, ⟨(some 30), bin .gtr (t 29) (c (.int .i64 0)), none⟩, ⟨(some 31), mv (t 30), none⟩, ⟨(some 32), fad (t 1) 1, some (31, false)⟩, ⟨(some 33), ld (t 32) 1 false, some (31, false)⟩, ⟨(some 34), bin .eql (t 33) (c (.int .i64 0)), some (31, false)⟩, ⟨(some 35), pick (t 31) (c (.bool true)) (t 34), none⟩, ⟨(some 36), mv (t 35), none⟩, ⟨(some 37), mv (t 4), some (36, true)⟩, ⟨(some 38), fad (t 1) 0, some (36, true)⟩, ⟨(some 39), ld (t 38) 1 false, some (36, true)⟩, ⟨(some 40), iad 1 (t 37) (t 39), some (36, true)⟩, ⟨(some 41), ld (t 40) 1 false, some (36, true)⟩, ⟨(some 42), bin .gtr (t 41) (c (.int .i64 1)), some (36, true)⟩, ⟨(some 43), mv (t 42), some (36, true)⟩, ⟨(some 44), fad (t 1) 2, some (43, false)⟩, ⟨(some 45), ld (t 44) 1 false, some (43, false)⟩, ⟨(some 46), bin .eql (t 45) (c (.int .i64 0)), some (43, false)⟩, ⟨(some 47), pick (t 43) (c (.bool true)) (t 46), some (36, true)⟩, ⟨(some 48), pick (t 36) (t 47) (c (.bool false)), none⟩, ⟨(some 2), mv (t 48), none⟩]) (ret))))
def r_spec_l08Deed : List ARes := [.tmp 2]
theorem k_spec_l08Deed : acLin Go.Proofs.Tryd.prog 54 1 (inQ [95] [55]) [] = some (c_spec_l08Deed, r_spec_l08Deed) := by kernel_rfl
def c_impl_ValidDeed : AC := seq (reg [⟨(some 1), box 3 (t 0), none⟩, ⟨(some 2), mv (c (.bool false)), none⟩]) (seq (reg [⟨(some 6), fad (t 1) 0, none⟩, ⟨(some 7), ld (t 6) 1 false, none⟩, ⟨(some 8), callq (c (.fn 57 [])) [t 7], none⟩, ⟨(some 5), mv (t 8), none⟩, ⟨(some 9), ext (t 5) 0, none⟩, ⟨(some 10), ext (t 5) 1, none⟩, ⟨(some 3), mv (t 9), none⟩, ⟨(some 4), mv (t 10), none⟩]) (seq (reg [⟨(some 11), mv (t 3), none⟩, ⟨(some 12), bin .neq (t 11) (c (.str ⟨#[]⟩)), none⟩, ⟨(some 13), mv (t 12), none⟩, ⟨(some 14), fad (t 1) 1, some (13, true)⟩, ⟨(some 15), ld (t 14) 1 false, some (13, true)⟩, ⟨(some 16), callq (c (.fn 98 [])) [t 15, c (.int .i64 0), c (.int .i64 999)], some (13, true)⟩, ⟨(some 17), pick (t 13) (t 16) (c (.bool false)), none⟩, ⟨(some 18), mv (t 17), none⟩, ⟨(some 19), fad (t 1) 2, some (18, true)⟩, ⟨(some 20), ld (t 19) 1 false, some (18, true)⟩, ⟨(some 21), callq (c (.fn 98 [])) [t 20, c (.int .i64 0), c (.int .i64 999)], some (18, true)⟩, ⟨(some 22), pick (t 18) (t 21) (c (.bool false)), none⟩, ⟨(some 23), mv (t 22), none⟩, ⟨(some 24), mv (t 4), some (23, true)⟩, ⟨(some 25), bin .gtr (t 24) (c (.int .i64 0)), some (23, true)⟩, ⟨(some 26), mv (t 25), some (23, true)⟩, ⟨(some 27), fad (t 1) 1, some (26, false)⟩, ⟨(some 28), ld (t 27) 1 false, some (26, false)⟩, ⟨(some 29), bin .eql (t 28) (c (.int .i64 0)), some (26, false)⟩, ⟨(some 30), pick (t 26) (c (.bool true)) (t 29), some (23, true)⟩, ⟨(some 31), pick (t 23) (t 30) (c (.bool false)), none⟩, ⟨(some 32), mv (t 31), none⟩, ⟨(some 33), mv (t 4), some (32, true)⟩, ⟨(some 34), bin .gtr (t 33) (c (.int .i64 1)), some (32, true)⟩, ⟨(some 35), mv (t 34), some (32, true)⟩, ⟨(some 36), fad (t 1) 2, some (35, false)⟩, ⟨(some 37), ld (t 36) 1 false, some (35, false)⟩, ⟨(some 38), bin .eql (t 37) (c (.int .i64 0)), some (35, false)⟩, ⟨(some 39), pick (t 35) (c (.bool true)) (t 38), some (32, true)⟩, ⟨(some 40), pick (t 32) (t 39) (c (.bool false)), none⟩, ⟨(some 2), mv (t 40), none⟩]) (ret)))
def r_impl_ValidDeed : List ARes := [.tmp 2]
theorem k_impl_ValidDeed : acLin Go.Proofs.Tryd.prog 56 1 (inQ [57, 98] []) [] = some (c_impl_ValidDeed, r_impl_ValidDeed) := by kernel_rfl
def c_impl_DeedText : AC := seq (reg [⟨(some 1), box 3 (t 0), none⟩, ⟨(some 2), mv (c (.str ⟨#[]⟩)), none⟩]) (seq (seq (reg [⟨(some 7), ld (t 1) 3 true, none⟩, ⟨(some 8), callq (c (.fn 56 [])) [t 7], none⟩, ⟨(some 9), un .not (t 8), none⟩]) (cond (t 9) (seq (reg [⟨(some 2), mv (c (.str ⟨#[]⟩)), none⟩]) (ret)) (skip))) (seq (reg [⟨(some 11), fad (t 1) 0, none⟩, ⟨(some 12), ld (t 11) 1 false, none⟩, ⟨(some 13), callq (c (.fn 57 [])) [t 12], none⟩, ⟨(some 10), mv (t 13), none⟩, ⟨(some 14), ext (t 10) 0, none⟩, ⟨(some 15), ext (t 10) 1, none⟩, ⟨(some 3), mv (t 14), none⟩, ⟨(some 4), mv (t 15), none⟩]) (seq (seq (reg [⟨(some 16), fad (t 1) 1, none⟩, ⟨(some 17), ld (t 16) 1 false, none⟩, ⟨(some 18), fad (t 1) 2, none⟩, ⟨(some 19), ld (t 18) 1 false, none⟩, ⟨(some 20), bsl 1 2 [.int .i64 0] [(0, t 17), (1, t 19)], none⟩, ⟨(some 21), mv (t 4), none⟩, ⟨(some 22), sli 1 (t 20) none (some (t 21)) none, none⟩, ⟨(some 23), len (t 22), none⟩, ⟨(some 24), mv (c (.int .i64 0)), none⟩]) (block 0 (loop (seq (reg [⟨(some 25), bin .lss (t 24) (t 23), none⟩]) (seq (cond (t 25) (skip) (exit 0)) (seq (block 1 (seq (reg [⟨(some 26), iad 1 (t 22) (t 24), none⟩, ⟨(some 27), ld (t 26) 1 false, none⟩, ⟨(some 6), mv (t 27), none⟩]) (reg [⟨(some 28), mv (t 3), none⟩, ⟨(some 29), mv (t 6), none⟩, ⟨(some 30), callq (c (.fn 58 [])) [t 29], none⟩, ⟨(some 31), bin .add (c (.str ⟨#[32]⟩)) (t 30), none⟩, ⟨(some 32), bin .add (t 28) (t 31), none⟩, ⟨(some 3), mv (t 32), none⟩]))) (reg [⟨(some 33), bin .add (t 24) (c (.int .i64 1)), none⟩, ⟨(some 24), mv (t 33), none⟩]))))))) (seq (reg [⟨(some 34), mv (t 3), none⟩, ⟨(some 2), mv (t 34), none⟩]) (ret)))))
def r_impl_DeedText : List ARes := [.tmp 2]
theorem k_impl_DeedText : acLin Go.Proofs.Tryd.prog 18 1 (inQ [56, 57, 58] []) [] = some (c_impl_DeedText, r_impl_DeedText) := by kernel_rfl
def c_spec_DeedText : AC := seq (reg [⟨(some 1), box 3 (t 0), none⟩, ⟨(some 2), mv (c (.str ⟨#[]⟩)), none⟩]) (seq (seq (reg [⟨(some 6), ld (t 1) 3 true, none⟩, ⟨(some 7), callq (c (.fn 54 [])) [t 6], none⟩, ⟨(some 8), un .not (t 7), none⟩]) (cond (t 8) (seq (reg [⟨(some 2), mv (c (.str ⟨#[]⟩)), none⟩]) (ret)) (skip))) (seq (reg [⟨(some 10), calle (c (.fn 55 [])) [] [], none⟩, ⟨(some 9), mv (t 10), none⟩, ⟨(some 11), ext (t 9) 0, none⟩, ⟨(some 12), ext (t 9) 1, none⟩, ⟨(some 3), mv (t 11), none⟩, ⟨(some 4), mv (t 12), none⟩]) (seq (reg [⟨(some 13), mv (t 3), none⟩, ⟨(some 14), fad (t 1) 0, none⟩, ⟨(some 15), ld (t 14) 1 false, none⟩, ⟨(some 16), iad 1 (t 13) (t 15), none⟩, ⟨(some 17), ld (t 16) 1 false, none⟩, ⟨(some 5), mv (t 17), none⟩]) (seq (seq (reg [⟨(some 18), mv (t 4), none⟩, ⟨(some 19), fad (t 1) 0, none⟩, ⟨(some 20), ld (t 19) 1 false, none⟩, ⟨(some 21), iad 1 (t 18) (t 20), none⟩, ⟨(some 22), ld (t 21) 1 false, none⟩, ⟨(some 23), bin .gtr (t 22) (c (.int .i64 0)), none⟩]) (cond (t 23) (reg [⟨(some 24), mv (t 5), none⟩, ⟨(some 25), fad (t 1) 1, none⟩, ⟨(some 26), ld (t 25) 1 false, none⟩, ⟨(some 27), callq (c (.fn 50 [])) [t 26], none⟩, ⟨(some 28), bin .add (c (.str ⟨#[32]⟩)) (t 27), none⟩, ⟨(some 29), bin .add (t 24) (t 28), none⟩, ⟨(some 5), mv (t 29), none⟩]) (skip))) (seq (seq (reg [⟨(some 30), mv (t 4), none⟩, ⟨(some 31), fad (t 1) 0, none⟩, ⟨(some 32), ld (t 31) 1 false, none⟩, ⟨(some 33), iad 1 (t 30) (t 32), none⟩, ⟨(some 34), ld (t 33) 1 false, none⟩, ⟨(some 35), bin .gtr (t 34) (c (.int .i64 1)), none⟩]) (cond (t 35) (reg [⟨(some 36), mv (t 5), none⟩, ⟨(some 37), fad (t 1) 2, none⟩, ⟨(some 38), ld (t 37) 1 false, none⟩, ⟨(some 39), callq (c (.fn 50 [])) [t 38], none⟩, ⟨(some 40), bin .add (c (.str ⟨#[32]⟩)) (t 39), none⟩, ⟨(some 41), bin .add (t 36) (t 40), none⟩, ⟨(some 5), mv (t 41), none⟩]) (skip))) (seq (reg [⟨(some 42), mv (t 5), none⟩, ⟨(some 2), mv (t 42), none⟩]) (ret)))))))
def r_spec_DeedText : List ARes := [.tmp 2]
theorem k_spec_DeedText : acLin Go.Proofs.Tryd.prog 16 1 (inQ [50, 54] [55]) [] = some (c_spec_DeedText, r_spec_DeedText) := by kernel_rfl
def c_laws_toDeed : AC := seq (reg [⟨(some 1), box 3 (t 0), none⟩, ⟨(some 2), alloc [.int .i64 0, .int .i64 0, .int .i64 0], none⟩]) (seq (reg [⟨(some 3), alloc [.int .i64 0, .int .i64 0, .int .i64 0], none⟩]) (seq (reg [⟨(some 4), fad (t 1) 0, none⟩, ⟨(some 5), ld (t 4) 1 false, none⟩, ⟨(some 6), fad (t 3) 0, none⟩, ⟨none, st (t 6) 1 (t 5), none⟩]) (seq (reg [⟨(some 7), fad (t 1) 1, none⟩, ⟨(some 8), ld (t 7) 1 false, none⟩, ⟨(some 9), fad (t 3) 1, none⟩, ⟨none, st (t 9) 1 (t 8), none⟩]) (seq (reg [⟨(some 10), fad (t 1) 2, none⟩, ⟨(some 11), ld (t 10) 1 false, none⟩, ⟨(some 12), fad (t 3) 2, none⟩, ⟨none, st (t 12) 1 (t 11), none⟩]) (seq (reg [⟨(some 13), ld (t 3) 3 true, none⟩, ⟨none, st (t 2) 3 (t 13), none⟩]) (ret))))))
def r_laws_toDeed : List ARes := [.cell 2 3 true]
theorem k_laws_toDeed : acLin Go.Proofs.Tryd.prog 17 1 (inQ [] []) [] = some (c_laws_toDeed, r_laws_toDeed) := by kernel_rfl
def c_laws_FnExactDeedText : AC := seq (reg [⟨(some 1), box 3 (t 0), none⟩, ⟨(some 2), mv (c (.bool false)), none⟩]) (seq (reg [⟨(some 5), ld (t 1) 3 true, none⟩, ⟨(some 6), callq (c (.fn 17 [])) [t 5], none⟩, ⟨(some 7), callq (c (.fn 16 [])) [t 6], none⟩, ⟨(some 3), mv (t 7), none⟩]) (seq (reg [⟨(some 8), ld (t 1) 3 true, none⟩, ⟨(some 9), callq (c (.fn 17 [])) [t 8], none⟩, ⟨(some 10), callq (c (.fn 18 [])) [t 9], none⟩, ⟨(some 4), mv (t 10), none⟩]) (seq (seq (reg [⟨(some 11), mv (t 4), none⟩, ⟨(some 12), mv (t 3), none⟩, ⟨(some 13), bin .neq (t 11) (t 12), none⟩]) (cond (t 13) (seq (reg [⟨(some 2), mv (c (.bool false)), none⟩]) (ret)) (skip))) (seq (reg [⟨(some 2), mv (c (.bool true)), none⟩]) (ret)))))
def r_laws_FnExactDeedText : List ARes := [.tmp 2]
theorem k_laws_FnExactDeedText : acLin Go.Proofs.Tryd.prog 4 1 (inQ [16, 17, 18] []) [] = some (c_laws_FnExactDeedText, r_laws_FnExactDeedText) := by kernel_rfl
def c_impl_Graph_edges : AC := seq (reg [⟨(some 1), box 2 (t 0), none⟩, ⟨(some 2), mv (c (.sl [] true)), none⟩]) (seq (reg [⟨(some 6), bsl 2 0 [.int .i64 0, .int .i64 0] [], none⟩, ⟨(some 3), mv (t 6), none⟩]) (seq (seq (reg [⟨(some 7), fad (t 1) 0, none⟩, ⟨(some 8), ld (t 7) 1 false, none⟩, ⟨(some 9), mv (c (.int .i64 0)), none⟩]) (block 0 (loop (seq (reg [⟨(some 10), bin .lss (t 9) (t 8), none⟩]) (seq (cond (t 10) (skip) (exit 0)) (seq (block 1 (seq (reg [⟨(some 11), mv (t 9), none⟩, ⟨(some 4), mv (t 11), none⟩]) (seq (reg [⟨(some 12), mv (t 4), none⟩, ⟨(some 13), mv (c (.int .i64 0)), none⟩]) (block 2 (loop (seq (reg [⟨(some 14), bin .lss (t 13) (t 12), none⟩]) (seq (cond (t 14) (skip) (exit 2)) (seq (block 3 (seq (reg [⟨(some 15), mv (t 13), none⟩, ⟨(some 5), mv (t 15), none⟩]) (seq (reg [⟨(some 16), ld (t 1) 2 true, none⟩, ⟨(some 17), mv (t 5), none⟩, ⟨(some 18), mv (t 4), none⟩, ⟨(some 19), callq (c (.fn 136 [])) [t 16, t 17, t 18], none⟩]) (cond (t 19) (reg [⟨(some 20), mv (t 3), none⟩, ⟨(some 21), mv (t 5), none⟩, ⟨(some 22), mv (t 4), none⟩, ⟨(some 23), bld [.int .i64 0, .int .i64 0] [(0, 1, t 21), (1, 1, t 22)], none⟩, ⟨(some 24), bsl 2 1 [.int .i64 0, .int .i64 0] [(0, t 23)], none⟩, ⟨(some 25), app 2 16 (t 20) (t 24), none⟩, ⟨(some 3), mv (t 25), none⟩]) (skip))))) (reg [⟨(some 26), bin .add (t 13) (c (.int .i64 1)), none⟩, ⟨(some 13), mv (t 26), none⟩]))))))))) (reg [⟨(some 27), bin .add (t 9) (c (.int .i64 1)), none⟩, ⟨(some 9), mv (t 27), none⟩]))))))) (seq (reg [⟨(some 28), mv (t 3), none⟩, ⟨(some 2), mv (t 28), none⟩]) (ret))))
def r_impl_Graph_edges : List ARes := [.tmp 2]
theorem k_impl_Graph_edges : acLin Go.Proofs.Tryd.prog 103 1 (inQ [136] []) [] = some (c_impl_Graph_edges, r_impl_Graph_edges) := by kernel_rfl
def c_spec_l01Pairs : AC := seq (reg [⟨(some 1), box 2 (t 0), none⟩, ⟨(some 2), mv (c (.sl [] true)), none⟩]) (seq (reg [⟨(some 6), bsl 2 0 [.int .i64 0, .int .i64 0] [], none⟩, ⟨(some 3), mv (t 6), none⟩]) (seq (seq (reg [⟨(some 4), mv (c (.int .i64 1)), none⟩]) (block 0 (loop (seq (seq (reg [⟨(some 7), mv (t 4), none⟩, ⟨(some 8), fad (t 1) 0, none⟩, ⟨(some 9), ld (t 8) 1 false, none⟩, ⟨(some 10), bin .lss (t 7) (t 9), none⟩]) (cond (t 10) (skip) (exit 0))) (seq (block 1 (seq (reg [⟨(some 5), mv (c (.int .i64 0)), none⟩]) (block 2 (loop (seq (seq (reg [⟨(some 13), mv (t 5), none⟩, ⟨(some 14), mv (t 4), none⟩, ⟨(some 15), bin .lss (t 13) (t 14), none⟩]) (cond (t 15) (skip) (exit 2))) (seq (block 3 (seq (reg [⟨(some 18), ld (t 1) 2 true, none⟩, ⟨(some 19), mv (t 5), none⟩, ⟨(some 20), mv (t 4), none⟩, ⟨(some 21), callq (c (.fn 101 [])) [t 18, t 19, t 20], none⟩]) (cond (t 21) (reg [⟨(some 22), mv (t 3), none⟩, ⟨(some 23), mv (t 5), none⟩, ⟨(some 24), mv (t 4), none⟩, ⟨(some 25), bld [.int .i64 0, .int .i64 0] [(0, 1, t 23), (1, 1, t 24)], none⟩, ⟨(some 26), bsl 2 1 [.int .i64 0, .int .i64 0] [(0, t 25)], none⟩, ⟨(some 27), app 2 16 (t 22) (t 26), none⟩, ⟨(some 3), mv (t 27), none⟩]) (skip)))) (reg [⟨(some 16), mv (t 5), none⟩, ⟨(some 17), bin .add (t 16) (c (.int .i64 1)), none⟩, ⟨(some 5), mv (t 17), none⟩]))))))) (reg [⟨(some 11), mv (t 4), none⟩, ⟨(some 12), bin .add (t 11) (c (.int .i64 1)), none⟩, ⟨(some 4), mv (t 12), none⟩])))))) (seq (reg [⟨(some 28), mv (t 3), none⟩, ⟨(some 2), mv (t 28), none⟩]) (ret))))
def r_spec_l01Pairs : List ARes := [.tmp 2]
theorem k_spec_l01Pairs : acLin Go.Proofs.Tryd.prog 60 1 (inQ [101] []) [] = some (c_spec_l01Pairs, r_spec_l01Pairs) := by kernel_rfl
def c_impl_Graph_text : AC := seq (reg [⟨(some 1), box 2 (t 0), none⟩, ⟨(some 2), mv (c (.str ⟨#[]⟩)), none⟩]) (seq (reg [⟨(some 6), fad (t 1) 0, none⟩, ⟨(some 7), ld (t 6) 1 false, none⟩, ⟨(some 8), callq (c (.fn 58 [])) [t 7], none⟩, ⟨(some 9), bin .add (c (.str ⟨#[103, 114, 97, 112, 104, 32]⟩)) (t 8), none⟩, ⟨(some 3), mv (t 9), none⟩]) (seq (seq (reg [⟨(some 10), ld (t 1) 2 true, none⟩, ⟨(some 11), calle (c (.fn 103 [])) [t 10] [], none⟩, ⟨(some 12), len (t 11), none⟩, ⟨(some 13), mv (c (.int .i64 0)), none⟩]) (block 0 (loop (seq (reg [⟨(some 14), bin .lss (t 13) (t 12), none⟩]) (seq (cond (t 14) (skip) (exit 0)) (seq (block 1 (seq (reg [⟨(some 15), iad 2 (t 11) (t 13), none⟩, ⟨(some 16), ld (t 15) 2 true, none⟩, ⟨(some 5), alloc [.int .i64 0, .int .i64 0], none⟩, ⟨none, st (t 5) 2 (t 16), none⟩]) (reg [⟨(some 17), mv (t 3), none⟩, ⟨(some 18), fad (t 5) 0, none⟩, ⟨(some 19), ld (t 18) 1 false, none⟩, ⟨(some 20), callq (c (.fn 58 [])) [t 19], none⟩, ⟨(some 21), bin .add (c (.str ⟨#[32]⟩)) (t 20), none⟩, ⟨(some 22), bin .add (t 21) (c (.str ⟨#[45]⟩)), none⟩, ⟨(some 23), fad (t 5) 1, none⟩, ⟨(some 24), ld (t 23) 1 false, none⟩, ⟨(some 25), callq (c (.fn 58 [])) [t 24], none⟩, ⟨(some 26), bin .add (t 22) (t 25), none⟩, ⟨(some 27), bin .add (t 17) (t 26), none⟩, ⟨(some 3), mv (t 27), none⟩]))) (reg [⟨(some 28), bin .add (t 13) (c (.int .i64 1)), none⟩, ⟨(some 13), mv (t 28), none⟩]))))))) (seq (reg [⟨(some 29), mv (t 3), none⟩, ⟨(some 2), mv (t 29), none⟩]) (ret))))
def r_impl_Graph_text : List ARes := [.tmp 2]
theorem k_impl_Graph_text : acLin Go.Proofs.Tryd.prog 62 1 (inQ [58] [103]) [⟨false, none, [], [], none⟩, ⟨false, none, [], [], none⟩, ⟨false, none, [], [], none⟩, ⟨false, none, [], [], none⟩, ⟨false, none, [], [], none⟩, ⟨false, none, [], [], none⟩, ⟨false, some [0, 1, 2, 3, 4, 5, 6, 7, 8, 9, 10, 11], [], [], none⟩] = some (c_impl_Graph_text, r_impl_Graph_text) := by kernel_rfl
def c_impl_GraphText : AC := seq (reg [⟨(some 1), box 2 (t 0), none⟩, ⟨(some 2), mv (c (.str ⟨#[]⟩)), none⟩]) (seq (seq (reg [⟨(some 3), ld (t 1) 2 true, none⟩, ⟨(some 4), callq (c (.fn 61 [])) [t 3], none⟩, ⟨(some 5), un .not (t 4), none⟩]) (cond (t 5) (seq (reg [⟨(some 2), mv (c (.str ⟨#[]⟩)), none⟩]) (ret)) (skip))) (seq (reg [⟨(some 6), ld (t 1) 2 true, none⟩, ⟨(some 7), callq (c (.fn 62 [])) [t 6], none⟩, ⟨(some 2), mv (t 7), none⟩]) (ret)))
def r_impl_GraphText : List ARes := [.tmp 2]
theorem k_impl_GraphText : acLin Go.Proofs.Tryd.prog 21 1 (inQ [61, 62] []) [] = some (c_impl_GraphText, r_impl_GraphText) := by kernel_rfl
def c_spec_GraphText : AC := seq (reg [⟨(some 1), box 2 (t 0), none⟩, ⟨(some 2), mv (c (.str ⟨#[]⟩)), none⟩]) (seq (seq (reg [⟨(some 6), ld (t 1) 2 true, none⟩, ⟨(some 7), callq (c (.fn 59 [])) [t 6], none⟩, ⟨(some 8), un .not (t 7), none⟩]) (cond (t 8) (seq (reg [⟨(some 2), mv (c (.str ⟨#[]⟩)), none⟩]) (ret)) (skip))) (seq (reg [⟨(some 9), fad (t 1) 0, none⟩, ⟨(some 10), ld (t 9) 1 false, none⟩, ⟨(some 11), callq (c (.fn 50 [])) [t 10], none⟩, ⟨(some 12), bin .add (c (.str ⟨#[103, 114, 97, 112, 104, 32]⟩)) (t 11), none⟩, ⟨(some 3), mv (t 12), none⟩]) (seq (reg [⟨(some 13), ld (t 1) 2 true, none⟩, ⟨(some 14), calle (c (.fn 60 [])) [t 13] [], none⟩, ⟨(some 4), mv (t 14), none⟩]) (seq (seq (reg [⟨(some 5), mv (c (.int .i64 0)), none⟩]) (block 0 (loop (seq (seq (reg [⟨(some 15), mv (t 5), none⟩, ⟨(some 16), mv (t 4), none⟩, ⟨(some 17), len (t 16), none⟩, ⟨(some 18), bin .lss (t 15) (t 17), none⟩]) (cond (t 18) (skip) (exit 0))) (seq (block 1 (reg [⟨(some 21), mv (t 3), none⟩, ⟨(some 22), mv (t 4), none⟩, ⟨(some 23), mv (t 5), none⟩, ⟨(some 24), iad 2 (t 22) (t 23), none⟩, ⟨(some 25), fad (t 24) 0, none⟩, ⟨(some 26), ld (t 25) 1 false, none⟩, ⟨(some 27), callq (c (.fn 50 [])) [t 26], none⟩, ⟨(some 28), bin .add (c (.str ⟨#[32]⟩)) (t 27), none⟩, ⟨(some 29), bin .add (t 28) (c (.str ⟨#[45]⟩)), none⟩, ⟨(some 30), mv (t 4), none⟩, ⟨(some 31), mv (t 5), none⟩, ⟨(some 32), iad 2 (t 30) (t 31), none⟩, ⟨(some 33), fad (t 32) 1, none⟩, ⟨(some 34), ld (t 33) 1 false, none⟩, ⟨(some 35), callq (c (.fn 50 [])) [t 34], none⟩, ⟨(some 36), bin .add (t 29) (t 35), none⟩, ⟨(some 37), bin .add (t 21) (t 36), none⟩, ⟨(some 3), mv (t 37), none⟩])) (reg [⟨(some 19), mv (t 5), none⟩, ⟨(some 20), bin .add (t 19) (c (.int .i64 1)), none⟩, ⟨(some 5), mv (t 20), none⟩])))))) (seq (reg [⟨(some 38), mv (t 3), none⟩, ⟨(some 2), mv (t 38), none⟩]) (ret))))))
def r_spec_GraphText : List ARes := [.tmp 2]
theorem k_spec_GraphText : acLin Go.Proofs.Tryd.prog 19 1 (inQ [50, 59] [60]) [⟨false, none, [], [], none⟩, ⟨false, none, [], [], none⟩, ⟨false, none, [], [], none⟩, ⟨false, none, [], [], none⟩, ⟨false, none, [], [], none⟩, ⟨false, none, [], [], none⟩, ⟨false, none, [], [], none⟩, ⟨false, none, [], [], none⟩, ⟨false, none, [], [], none⟩, ⟨false, some [0, 1, 2, 3, 4, 5, 6, 7, 8, 9, 10, 11, 12, 13, 14, 15, 16, 17], [], [], none⟩] = some (c_spec_GraphText, r_spec_GraphText) := by kernel_rfl
def c_laws_FnExactGraphText : AC := seq (reg [⟨(some 1), box 2 (t 0), none⟩, ⟨(some 2), mv (c (.bool false)), none⟩]) (seq (reg [⟨(some 5), ld (t 1) 2 true, none⟩, ⟨(some 6), callq (c (.fn 20 [])) [t 5], none⟩, ⟨(some 7), callq (c (.fn 19 [])) [t 6], none⟩, ⟨(some 3), mv (t 7), none⟩]) (seq (reg [⟨(some 8), ld (t 1) 2 true, none⟩, ⟨(some 9), callq (c (.fn 20 [])) [t 8], none⟩, ⟨(some 10), callq (c (.fn 21 [])) [t 9], none⟩, ⟨(some 4), mv (t 10), none⟩]) (seq (seq (reg [⟨(some 11), mv (t 4), none⟩, ⟨(some 12), mv (t 3), none⟩, ⟨(some 13), bin .neq (t 11) (t 12), none⟩]) (cond (t 13) (seq (reg [⟨(some 2), mv (c (.bool false)), none⟩]) (ret)) (skip))) (seq (reg [⟨(some 2), mv (c (.bool true)), none⟩]) (ret)))))
def r_laws_FnExactGraphText : List ARes := [.tmp 2]
theorem k_laws_FnExactGraphText : acLin Go.Proofs.Tryd.prog 5 1 (inQ [19, 20, 21] []) [] = some (c_laws_FnExactGraphText, r_laws_FnExactGraphText) := by kernel_rfl
def c_spec_l03Ok : AC := seq (reg [⟨(some 1), box 3 (t 0), none⟩, ⟨(some 2), mv (c (.bool false)), none⟩]) (seq (reg [⟨(some 3), fad (t 1) 1, none⟩, ⟨(some 4), ld (t 3) 2 true, none⟩, ⟨(some 5), callq (c (.fn 59 [])) [t 4], none⟩, ⟨(some 6), mv (t 5), none⟩, ⟨(some 7), fad (t 1) 0, some (6, true)⟩, ⟨(some 8), ld (t 7) 1 false, some (6, true)⟩, ⟨(some 9), callq (c (.fn 95 [])) [t 8, c (.int .i64 0), c (.int .i64 3)], some (6, true)⟩, ⟨(some 10), pick (t 6) (t 9) (c (.bool false)), none⟩, ⟨(some 11), mv (t 10), none⟩, ⟨(some 12), fad (t 1) 0, some (11, true)⟩, ⟨(some 13), ld (t 12) 1 false, some (11, true)⟩, ⟨(some 14), fad (t 1) 1, some (11, true)⟩, ⟨(some 15), fad (t 14) 0, some (11, true)⟩, ⟨(some 16), ld (t 15) 1 false, some (11, true)⟩, ⟨(some 17), bin .leq (t 13) (t 16), some (11, true)⟩, ⟨(some 18), pick (t 11) (t 17) (c (.bool false)), none⟩, ⟨(some 2), mv (t 18), none⟩]) (ret))
def r_spec_l03Ok : List ARes := [.tmp 2]
theorem k_spec_l03Ok : acLin Go.Proofs.Tryd.prog 63 1 (inQ [59, 95] []) [] = some (c_spec_l03Ok, r_spec_l03Ok) := by kernel_rfl
def c_impl_ValidFlag : AC := seq (reg [⟨(some 1), box 3 (t 0), none⟩, ⟨(some 2), mv (c (.bool false)), none⟩]) (seq (reg [⟨(some 3), fad (t 1) 1, none⟩, ⟨(some 4), ld (t 3) 2 true, none⟩, ⟨(some 5), callq (c (.fn 61 [])) [t 4], none⟩, ⟨(some 6), mv (t 5), none⟩, ⟨(some 7), fad (t 1) 0, some (6, true)⟩, ⟨(some 8), ld (t 7) 1 false, some (6, true)⟩, ⟨(some 9), callq (c (.fn 98 [])) [t 8, c (.int .i64 0), c (.int .i64 3)], some (6, true)⟩, ⟨(some 10), pick (t 6) (t 9) (c (.bool false)), none⟩, ⟨(some 11), mv (t 10), none⟩, ⟨(some 12), fad (t 1) 0, some (11, true)⟩, ⟨(some 13), ld (t 12) 1 false, some (11, true)⟩, ⟨(some 14), fad (t 1) 1, some (11, true)⟩, ⟨(some 15), fad (t 14) 0, some (11, true)⟩, ⟨(some 16), ld (t 15) 1 false, some (11, true)⟩, ⟨(some 17), bin .leq (t 13) (t 16), some (11, true)⟩, ⟨(some 18), pick (t 11) (t 17) (c (.bool false)), none⟩, ⟨(some 2), mv (t 18), none⟩]) (ret))
def r_impl_ValidFlag : List ARes := [.tmp 2]
theorem k_impl_ValidFlag : acLin Go.Proofs.Tryd.prog 64 1 (inQ [61, 98] []) [] = some (c_impl_ValidFlag, r_impl_ValidFlag) := by kernel_rfl
def c_impl_Flag_text : AC := seq (reg [⟨(some 1), box 3 (t 0), none⟩, ⟨(some 2), mv (c (.str ⟨#[]⟩)), none⟩]) (seq (reg [⟨(some 3), fad (t 1) 0, none⟩, ⟨(some 4), ld (t 3) 1 false, none⟩, ⟨(some 5), callq (c (.fn 58 [])) [t 4], none⟩, ⟨(some 6), bin .add (c (.str ⟨#[102, 108, 97, 103, 32]⟩)) (t 5), none⟩, ⟨(some 7), bin .add (t 6) (c (.str ⟨#[32]⟩)), none⟩, ⟨(some 8), fad (t 1) 1, none⟩, ⟨(some 9), ld (t 8) 2 true, none⟩, ⟨(some 10), callq (c (.fn 62 [])) [t 9], none⟩, ⟨(some 11), bin .add (t 7) (t 10), none⟩, ⟨(some 2), mv (t 11), none⟩]) (ret))
def r_impl_Flag_text : List ARes := [.tmp 2]
theorem k_impl_Flag_text : acLin Go.Proofs.Tryd.prog 65 1 (inQ [58, 62] []) [⟨false, none, [], [], none⟩, ⟨false, some [0, 1, 2, 3, 4, 5, 6, 7, 8, 9], [], [], none⟩] = some (c_impl_Flag_text, r_impl_Flag_text) := by kernel_rfl
def c_impl_FlagText : AC := seq (reg [⟨(some 1), box 3 (t 0), none⟩, ⟨(some 2), mv (c (.str ⟨#[]⟩)), none⟩]) (seq (seq (reg [⟨(some 3), ld (t 1) 3 true, none⟩, ⟨(some 4), callq (c (.fn 64 [])) [t 3], none⟩, ⟨(some 5), un .not (t 4), none⟩]) (cond (t 5) (seq (reg [⟨(some 2), mv (c (.str ⟨#[]⟩)), none⟩]) (ret)) (skip))) (seq (reg [⟨(some 6), ld (t 1) 3 true, none⟩, ⟨(some 7), callq (c (.fn 65 [])) [t 6], none⟩, ⟨(some 2), mv (t 7), none⟩]) (ret)))
def r_impl_FlagText : List ARes := [.tmp 2]
theorem k_impl_FlagText : acLin Go.Proofs.Tryd.prog 24 1 (inQ [64, 65] []) [] = some (c_impl_FlagText, r_impl_FlagText) := by kernel_rfl
def c_spec_FlagText : AC := seq (reg [⟨(some 1), box 3 (t 0), none⟩, ⟨(some 2), mv (c (.str ⟨#[]⟩)), none⟩]) (seq (seq (reg [⟨(some 3), ld (t 1) 3 true, none⟩, ⟨(some 4), callq (c (.fn 63 [])) [t 3], none⟩, ⟨(some 5), un .not (t 4), none⟩]) (cond (t 5) (seq (reg [⟨(some 2), mv (c (.str ⟨#[]⟩)), none⟩]) (ret)) (skip))) (seq (reg [⟨(some 6), fad (t 1) 0, none⟩, ⟨(some 7), ld (t 6) 1 false, none⟩, ⟨(some 8), callq (c (.fn 50 [])) [t 7], none⟩, ⟨(some 9), bin .add (c (.str ⟨#[102, 108, 97, 103, 32]⟩)) (t 8), none⟩, ⟨(some 10), bin .add (t 9) (c (.str ⟨#[32]⟩)), none⟩, ⟨(some 11), fad (t 1) 1, none⟩, ⟨(some 12), ld (t 11) 2 true, none⟩, ⟨(some 13), callq (c (.fn 19 [])) [t 12], none⟩, ⟨(some 14), bin .add (t 10) (t 13), none⟩, ⟨(some 2), mv (t 14), none⟩]) (ret)))
def r_spec_FlagText : List ARes := [.tmp 2]
theorem k_spec_FlagText : acLin Go.Proofs.Tryd.prog 22 1 (inQ [19, 50, 63] []) [⟨false, none, [], [], none⟩, ⟨false, none, [], [], none⟩, ⟨false, none, [], [], none⟩, ⟨false, none, [], [], none⟩, ⟨false, some [0, 1, 2, 3, 4, 5, 6, 7, 8, 9], [], [], none⟩] = some (c_spec_FlagText, r_spec_FlagText) := by kernel_rfl
def c_laws_toFlag : AC := seq (reg [⟨(some 1), box 3 (t 0), none⟩, ⟨(some 2), alloc [.int .i64 0, .int .i64 0, .int .u32 0], none⟩]) (seq (reg [⟨(some 3), alloc [.int .i64 0, .int .i64 0, .int .u32 0], none⟩]) (seq (reg [⟨(some 4), fad (t 1) 0, none⟩, ⟨(some 5), ld (t 4) 1 false, none⟩, ⟨(some 6), fad (t 3) 0, none⟩, ⟨none, st (t 6) 1 (t 5), none⟩]) (seq (reg [⟨(some 7), fad (t 1) 1, none⟩, ⟨(some 8), ld (t 7) 2 true, none⟩, ⟨(some 9), callq (c (.fn 20 [])) [t 8], none⟩, ⟨(some 10), fad (t 3) 1, none⟩, ⟨none, st (t 10) 2 (t 9), none⟩]) (seq (reg [⟨(some 11), ld (t 3) 3 true, none⟩, ⟨none, st (t 2) 3 (t 11), none⟩]) (ret)))))
def r_laws_toFlag : List ARes := [.cell 2 3 true]
theorem k_laws_toFlag : acLin Go.Proofs.Tryd.prog 23 1 (inQ [20] []) [] = some (c_laws_toFlag, r_laws_toFlag) := by kernel_rfl
def c_laws_FnExactFlagText : AC := seq (reg [⟨(some 1), box 3 (t 0), none⟩, ⟨(some 2), mv (c (.bool false)), none⟩]) (seq (reg [⟨(some 5), ld (t 1) 3 true, none⟩, ⟨(some 6), callq (c (.fn 23 [])) [t 5], none⟩, ⟨(some 7), callq (c (.fn 22 [])) [t 6], none⟩, ⟨(some 3), mv (t 7), none⟩]) (seq (reg [⟨(some 8), ld (t 1) 3 true, none⟩, ⟨(some 9), callq (c (.fn 23 [])) [t 8], none⟩, ⟨(some 10), callq (c (.fn 24 [])) [t 9], none⟩, ⟨(some 4), mv (t 10), none⟩]) (seq (seq (reg [⟨(some 11), mv (t 4), none⟩, ⟨(some 12), mv (t 3), none⟩, ⟨(some 13), bin .neq (t 11) (t 12), none⟩]) (cond (t 13) (seq (reg [⟨(some 2), mv (c (.bool false)), none⟩]) (ret)) (skip))) (seq (reg [⟨(some 2), mv (c (.bool true)), none⟩]) (ret)))))
def r_laws_FnExactFlagText : List ARes := [.tmp 2]
theorem k_laws_FnExactFlagText : acLin Go.Proofs.Tryd.prog 6 1 (inQ [22, 23, 24] []) [] = some (c_laws_FnExactFlagText, r_laws_FnExactFlagText) := by kernel_rfl
end Go.Proofs.YtjfoenibffdoeaaDoorAi
end

section
/- Contracts: numerals, texts of fractions. -/
namespace Go.Proofs.YtjfoenibffdoeaaDoorAi
open Go Go.RowKit
set_option linter.unusedVariables false
set_option linter.unusedSimpArgs false
set_option maxRecDepth 20000

@[simp] theorem ba_size (a : Array UInt8) : (ByteArray.mk a).size = a.size := rfl
/-- The numeral of a number. -/
def decB (n : Int) : ByteArray := ⟨(Go.Lib.itoa n).toArray⟩
theorem decB_small {n : Int} (h0 : 0 ≤ n) (h1 : n < 10) : decB n = ⟨[UInt8.ofNat (48 + n.toNat)].toArray⟩ := by
  unfold decB Go.Lib.itoa
  rw [if_neg (by omega), Go.Lib.decDigits, dif_pos (by omega)]
theorem decB_step {n : Int} (h : 10 ≤ n) : decB n = decB (n.tdiv 10) ++ ⟨[UInt8.ofNat (48 + (n.tmod 10).toNat)].toArray⟩ := by
  have e1 : (n.tdiv 10).toNat = n.toNat / 10 := by
    rw [Int.tdiv_eq_ediv_of_nonneg (by omega)]; omega
  have e2 : (n.tmod 10).toNat = n.toNat % 10 := by
    rw [Int.tmod_eq_emod_of_nonneg (by omega)]; omega
  unfold decB Go.Lib.itoa
  rw [if_neg (by omega), if_neg (by rw [Int.tdiv_eq_ediv_of_nonneg (by omega)]; omega), e1, e2, Go.Lib.decDigits, dif_neg (by omega)]
  apply ByteArray.ext
  simp
theorem decB_neg {n : Int} (h : n < 0) : decB n = ⟨[45].toArray⟩ ++ decB (n.natAbs : Int) := by
  unfold decB Go.Lib.itoa
  rw [if_pos h, if_neg (by omega)]
  apply ByteArray.ext
  simp
theorem nDig_le : ∀ (k u : Nat), u < 10 ^ (k + 1) → Go.Lib.nDigits u ≤ k + 1
  | 0, u, h => by rw [Go.Lib.nDigits_small (by simpa using h)]; omega
  | k + 1, u, h => by
    by_cases hu : u < 10
    · rw [Go.Lib.nDigits_small hu]; omega
    · rw [Go.Lib.nDigits_big hu]
      have := nDig_le k (u / 10) (by rw [Nat.pow_succ] at h; omega)
      omega
theorem decB_size (n : Int) (h0 : -9223372036854775808 ≤ n) (h1 : n ≤ 9223372036854775807) : (decB n).size ≤ 21 := by
  have hl : (Go.Lib.itoa n).length ≤ 21 := by
    unfold Go.Lib.itoa
    split
    · have := nDig_le 19 n.natAbs (by omega)
      rw [List.length_cons, Go.Lib.decDigits_length]; omega
    · have := nDig_le 19 n.toNat (by omega)
      rw [Go.Lib.decDigits_length]; omega
  unfold decB
  simpa [ByteArray.size] using hl

noncomputable def sp_decK (k : Nat) : List AV → Option AV := pf (ι := Int) (α := AV) (fun n => 0 ≤ n ∧ n < 10 ^ k ∧ n ≤ 9223372036854775807) (fun n => [.int .i64 n]) (fun n => .str (decB n))
theorem sp_decK_eq (k : Nat) (n : Int) (h : 0 ≤ n ∧ n < 10 ^ k ∧ n ≤ 9223372036854775807) : sp_decK k [.int .i64 n] = some (.str (decB n)) := by
  unfold sp_decK
  exact pf_eq (ι := Int) (α := AV) n h (by rintro n' _ e; simp_all)
theorem wrap_dig {d : Int} (h0 : 0 ≤ d) (h1 : d < 10) : IntKind.wrap .u8 (48 + d) = 48 + d := by
  simp [IntKind.wrap, IntKind.signed, IntKind.bits]; omega
theorem wrap_dig' {d : Int} (h0 : 0 ≤ d) (h1 : d < 10) : IntKind.wrap .i64 (48 + d) = 48 + d := by
  simp [IntKind.wrap, IntKind.signed, IntKind.bits]; omega
theorem q_decK : ∀ k, QP PP 50 (sp_decK k) := by
  intro k
  induction k with
  | zero =>
    refine QP_pf (fun n h => ?_) fun n h => ?_
    · exact ⟨by first | rfl | simp, by first | rfl | simp⟩
    replace h : 0 ≤ n ∧ n < 10 ^ 0 ∧ n ≤ 9223372036854775807 := h
    obtain rfl : n = 0 := by omega
    refine P_code Quiet.nil hmix k_spec_Decimal rfl ?_ ?_
    · first | rfl | simp
    show wpc 0 PP _ c_spec_Decimal (initSt [.int .i64 0] .nil) (endP r_spec_Decimal (.str (decB 0)))
    have w : IntKind.wrap .u8 48 = 48 := rfl
    have w' : IntKind.wrap .i64 48 = 48 := rfl
    rw [decB_small (by decide) (by decide)]
    simp -dsimp -implicitDefEqProofs [c_spec_Decimal, r_spec_Decimal, w, w']
  | succ k ih =>
    refine QP_pf (fun n h => ?_) fun n h => ?_
    · exact ⟨by first | rfl | simp, by first | rfl | simp⟩
    replace h : 0 ≤ n ∧ n < 10 ^ (k + 1) ∧ n ≤ 9223372036854775807 := h
    refine P_code (Quiet.q1 ih Quiet.nil) hmix k_spec_Decimal rfl ?_ ?_
    · first | rfl | simp
    show wpc 0 PP _ c_spec_Decimal (initSt [.int .i64 n] .nil) (endP r_spec_Decimal (.str (decB n)))
    by_cases hn : 10 ≤ n
    · have hb : decide (10 ≤ n) = true := decide_eq_true hn
      have em : 0 ≤ n.tmod 10 ∧ n.tmod 10 < 10 := by rw [Int.tmod_eq_emod_of_nonneg (by omega)]; omega
      have ed : 0 ≤ n.tdiv 10 ∧ n.tdiv 10 < 10 ^ k ∧ n.tdiv 10 ≤ 9223372036854775807 := by
        rw [Int.tdiv_eq_ediv_of_nonneg (by omega)]
        have : (10 : Int) ^ (k + 1) = 10 ^ k * 10 := Int.pow_succ ..
        omega
      have w := wrap_dig em.1 em.2
      have w' := wrap_dig' em.1 em.2
      have b1 : 0 ≤ 48 + n.tmod 10 := by omega
      have b2 : 48 + n.tmod 10 < 256 := by omega
      have b3 : (48 + n.tmod 10).toNat = 48 + (n.tmod 10).toNat := by omega
      have hc := sp_decK_eq k _ ed
      have hs := decB_size (n.tdiv 10) (by omega) (by omega)
      have wd : IntKind.wrap .i64 (n.tdiv 10) = n.tdiv 10 := by simp [IntKind.wrap, IntKind.signed, IntKind.bits]; omega
      have wm : IntKind.wrap .i64 (n.tmod 10) = n.tmod 10 := by simp [IntKind.wrap, IntKind.signed, IntKind.bits]; omega
      have hz : (decB (n.tdiv 10)).size + 1 ≤ 9223372036854775807 := by omega
      rw [decB_step hn]
      simp -dsimp -implicitDefEqProofs [c_spec_Decimal, r_spec_Decimal, hb, w, w', b1, b2, b3, hc, wd, wm, hz]
    · have hb : decide (10 ≤ n) = false := decide_eq_false hn
      have w := wrap_dig (d := n) (by omega) (by omega)
      have w' := wrap_dig' (d := n) (by omega) (by omega)
      have b1 : 0 ≤ 48 + n := by omega
      have b2 : 48 + n < 256 := by omega
      have b3 : (48 + n).toNat = 48 + n.toNat := by omega
      rw [decB_small (by omega) (by omega)]
      simp -dsimp -implicitDefEqProofs [c_spec_Decimal, r_spec_Decimal, hb, w, w', b1, b2, b3]
noncomputable def sp_decS : List AV → Option (AV) := pf (ι := (Int)) (α := AV) (fun n => 0 ≤ n ∧ n ≤ 9223372036854775807) (fun n => [.int .i64 n]) (fun n => .str (decB n))
theorem sp_decS_eq (n : Int) (h : 0 ≤ n ∧ n ≤ 9223372036854775807) : sp_decS [.int .i64 n] = some (.str (decB n)) := by
  unfold sp_decS
  exact pf_eq (ι := (Int)) (α := AV) n h (by rintro n' _ e; simp_all [Int.natCast_inj])
theorem q_spec_Decimal : QP PP 50 sp_decS := by
  intro args r e
  obtain ⟨n, h, rfl, rfl⟩ : ∃ n : Int, (0 ≤ n ∧ n ≤ 9223372036854775807) ∧ args = [.int .i64 n] ∧ r = .str (decB n) := by
    unfold sp_decS pf at e
    split at e
    · rename_i hx
      injection e with e
      refine ⟨Classical.choose hx, (Classical.choose_spec hx).1, ?_, e.symm⟩
      first | exact (Classical.choose_spec hx).2 | exact (Classical.choose_spec hx).2.symm
    · cases e
  exact q_decK 19 _ _ (sp_decK_eq 19 n ⟨h.1, by omega, h.2⟩)
end Go.Proofs.YtjfoenibffdoeaaDoorAi
end

section
/- Contracts: the numeral of the program, texts of fractions. -/
namespace Go.Proofs.YtjfoenibffdoeaaDoorAi
open Go Go.RowKit
set_option linter.unusedVariables false
set_option linter.unusedSimpArgs false
set_option maxRecDepth 20000

noncomputable def sp_formatI : List AV → Option (AV) := pf (ι := (Int)) (α := AV) (fun n => -9223372036854775808 ≤ n ∧ n ≤ 9223372036854775807) (fun n => [.int .i64 n, .int .i64 10]) (fun n => .str (decB n))
theorem sp_formatI_eq (n : Int) (h : -9223372036854775808 ≤ n ∧ n ≤ 9223372036854775807) : sp_formatI [.int .i64 n, .int .i64 10] = some (.str (decB n)) := by
  unfold sp_formatI
  exact pf_eq (ι := (Int)) (α := AV) n h (by rintro n' _ e; simp_all [Int.natCast_inj])
theorem below_grown' (w : World) (k : Nat) (os : Array Obj) : Below w.heap.size w (Go.Sort.grow (w.drewN k) os) :=
  ⟨rfl, rfl, rfl, by show w.heap.size ≤ (w.heap ++ os).size; rw [Array.size_append]; omega, fun j hj => by show (w.heap ++ os)[j]? = _; rw [Array.getElem?_append_left hj]⟩
theorem q_internal_strconv_FormatInt : QP PP 135 sp_formatI := by
  refine QP_pf (fun n h => ?_) fun n h => ?_
  · exact ⟨by first | rfl | simp, by first | rfl | simp⟩
  replace h : -9223372036854775808 ≤ n ∧ n ≤ 9223372036854775807 := h
  refine T.lib ⟨_, Tryd.func135, by kernel_rfl, by kernel_rfl⟩ (fun σ w vs hr hG => ?_) .nil
  obtain ⟨v1, us, rfl, h1, h2⟩ := hr.head
  obtain ⟨v2, us2, rfl, h3, h4⟩ := h2.head
  obtain rfl : us2 = [] := List.eq_nil_of_length_eq_zero h4.1.symm
  cases h1; cases h3
  refine (Tryd.internal_strconv_FormatInt_10 n h.1 h.2 w (hG.tab (by kernel_rfl))).mono ?_
  rintro e w' ⟨rfl, k, os, rfl⟩
  exact ⟨_, rfl, below_grown' w k os, .str _⟩
theorem q_strconv_FormatInt : QP PP 99 sp_formatI := by
  refine QP_pf (fun n h => ?_) fun n h => ?_
  · exact ⟨by first | rfl | simp, by first | rfl | simp⟩
  replace h : -9223372036854775808 ≤ n ∧ n ≤ 9223372036854775807 := h
  refine P_code (Quiet.q1 q_internal_strconv_FormatInt Quiet.nil) hmix k_strconv_FormatInt rfl ?_ ?_
  · first | rfl | simp
  show wpc 0 PP _ c_strconv_FormatInt (initSt [.int .i64 n, .int .i64 10] .nil) (endP r_strconv_FormatInt (.str (decB n)))
  simp -dsimp -implicitDefEqProofs [c_strconv_FormatInt, r_strconv_FormatInt, sp_formatI_eq n h]
noncomputable def sp_decimal : List AV → Option (AV) := pf (ι := (Int)) (α := AV) (fun n => -9223372036854775808 ≤ n ∧ n ≤ 9223372036854775807) (fun n => [.int .i64 n]) (fun n => .str (decB n))
theorem sp_decimal_eq (n : Int) (h : -9223372036854775808 ≤ n ∧ n ≤ 9223372036854775807) : sp_decimal [.int .i64 n] = some (.str (decB n)) := by
  unfold sp_decimal
  exact pf_eq (ι := (Int)) (α := AV) n h (by rintro n' _ e; simp_all [Int.natCast_inj])
theorem q_impl_decimal : QP PP 58 sp_decimal := by
  refine QP_pf (fun n h => ?_) fun n h => ?_
  · exact ⟨by first | rfl | simp, by first | rfl | simp⟩
  replace h : -9223372036854775808 ≤ n ∧ n ≤ 9223372036854775807 := h
  refine P_code (Quiet.q1 q_strconv_FormatInt Quiet.nil) hmix k_impl_decimal rfl ?_ ?_
  · first | rfl | simp
  show wpc 0 PP _ c_impl_decimal (initSt [.int .i64 n] .nil) (endP r_impl_decimal (.str (decB n)))
  simp -dsimp -implicitDefEqProofs [c_impl_decimal, r_impl_decimal, sp_formatI_eq n h]

def slashB : ByteArray := ⟨#[47]⟩
def minusB : ByteArray := ⟨#[45]⟩
def noB : ByteArray := ⟨#[]⟩
def frT (p q : Int) : ByteArray := if q = 1 then decB p else decB p ++ slashB ++ decB q
noncomputable def sp_frText : List AV → Option (AV) := pf (ι := (Int) × (Int)) (α := AV) (fun ⟨p, q⟩ => (-9223372036854775808 ≤ p ∧ p ≤ 9223372036854775807) ∧ (-9223372036854775808 ≤ q ∧ q ≤ 9223372036854775807)) (fun ⟨p, q⟩ => [.agg [.int .i64 p, .int .i64 q]]) (fun ⟨p, q⟩ => .str (frT p q))
theorem sp_frText_eq (p q : Int) (h : (-9223372036854775808 ≤ p ∧ p ≤ 9223372036854775807) ∧ (-9223372036854775808 ≤ q ∧ q ≤ 9223372036854775807)) : sp_frText [.agg [.int .i64 p, .int .i64 q]] = some (.str (frT p q)) := by
  unfold sp_frText
  exact pf_eq (ι := (Int) × (Int)) (α := AV) (p, q) h (by rintro ⟨p', q'⟩ _ e; simp_all [Int.natCast_inj])
theorem q_impl_Fraction_text : QP PP 53 sp_frText := by
  refine QP_pf (fun i h => ?_) fun i h => ?_
  · obtain ⟨p, q⟩ := i; exact ⟨by first | rfl | simp, by first | rfl | simp⟩
  obtain ⟨p, q⟩ := i
  replace h : (-9223372036854775808 ≤ p ∧ p ≤ 9223372036854775807) ∧ (-9223372036854775808 ≤ q ∧ q ≤ 9223372036854775807) := h
  refine P_code (Quiet.q1 q_impl_decimal Quiet.nil) hmix k_impl_Fraction_text rfl ?_ ?_
  · first | rfl | simp
  show wpc 0 PP _ c_impl_Fraction_text (initSt [.agg [.int .i64 p, .int .i64 q]] .nil) (endP r_impl_Fraction_text (.str (frT p q)))
  have hp := sp_decimal_eq p h.1
  have hq := sp_decimal_eq q h.2
  have sp := decB_size p h.1.1 h.1.2
  have sq := decB_size q h.2.1 h.2.2
  by_cases hone : q = 1
  · subst hone
    simp -dsimp -implicitDefEqProofs [c_impl_Fraction_text, r_impl_Fraction_text, hp, frT]
  · have hb : (q == 1) = false := by simpa using hone
    have s1 : (decB p).size + 1 ≤ 9223372036854775807 := by omega
    have s2 : (decB p).size + 1 + (decB q).size ≤ 9223372036854775807 := by omega
    simp -dsimp -implicitDefEqProofs [c_impl_Fraction_text, r_impl_Fraction_text, hp, hq, hb, s1, s2, frT, hone, slashB]
end Go.Proofs.YtjfoenibffdoeaaDoorAi
end

section
/- MADE BY PROGRAM (wip/tools/gen.py): the abstract code of functions. -/
namespace Go.Proofs.YtjfoenibffdoeaaDoorAi
open Go AC AOp Opd
set_option linter.unusedVariables false
set_option maxRecDepth 100000
def c_impl_lowest : AC := seq (reg [⟨(some 4), alloc [.int .i64 0, .int .i64 0], none⟩]) (seq (reg [⟨(some 6), mv (t 0), none⟩, ⟨(some 7), mv (t 1), none⟩, ⟨(some 8), callq (c (.fn 97 [])) [t 6, t 7], none⟩, ⟨(some 5), mv (t 8), none⟩]) (seq (seq (reg [⟨(some 9), mv (t 1), none⟩, ⟨(some 10), bin .lss (t 9) (c (.int .i64 0)), none⟩]) (cond (t 10) (reg [⟨(some 11), mv (t 5), none⟩, ⟨(some 12), un .neg (t 11), none⟩, ⟨(some 5), mv (t 12), none⟩]) (skip))) (seq (reg [⟨(some 13), mv (t 0), none⟩, ⟨(some 14), mv (t 5), none⟩, ⟨(some 15), bin .quo (t 13) (t 14), none⟩, ⟨(some 16), mv (t 1), none⟩, ⟨(some 17), mv (t 5), none⟩, ⟨(some 18), bin .quo (t 16) (t 17), none⟩, ⟨(some 19), bld [.int .i64 0, .int .i64 0] [(0, 1, t 15), (1, 1, t 18)], none⟩, ⟨none, st (t 4) 2 (t 19), none⟩]) (ret))))
def r_impl_lowest : List ARes := [.cell 4 2 true]
theorem k_impl_lowest : acLin Go.Proofs.Tryd.prog 143 2 (inQ [97] []) [⟨false, none, [], [], none⟩, ⟨false, none, [], [], none⟩, ⟨false, none, [], [], none⟩, ⟨false, none, [], [], none⟩, ⟨false, some [0, 1, 2, 3, 4, 5, 6, 7], [], [], none⟩] = some (c_impl_lowest, r_impl_lowest) := by kernel_rfl
def c_spec_l02Lowest : AC := seq (reg [⟨(some 4), alloc [.int .i64 0, .int .i64 0], none⟩, ⟨(some 5), mv (c (.int .i64 0)), none⟩]) (seq (seq (reg [⟨(some 8), mv (t 1), none⟩, ⟨(some 9), bin .lss (t 8) (c (.int .i64 0)), none⟩]) (cond (t 9) (seq (reg [⟨(some 10), mv (t 0), none⟩, ⟨(some 11), un .neg (t 10), none⟩, ⟨(some 0), mv (t 11), none⟩]) (reg [⟨(some 12), mv (t 1), none⟩, ⟨(some 13), un .neg (t 12), none⟩, ⟨(some 1), mv (t 13), none⟩])) (skip))) (seq (reg [⟨(some 14), mv (t 0), none⟩, ⟨(some 15), callq (c (.fn 51 [])) [t 14], none⟩, ⟨(some 16), mv (t 1), none⟩, ⟨(some 17), callq (c (.fn 96 [])) [t 15, t 16], none⟩, ⟨(some 6), mv (t 17), none⟩]) (seq (reg [⟨(some 18), mv (t 0), none⟩, ⟨(some 19), mv (t 6), none⟩, ⟨(some 20), bin .quo (t 18) (t 19), none⟩, ⟨(some 21), mv (t 1), none⟩, ⟨(some 22), mv (t 6), none⟩, ⟨(some 23), bin .quo (t 21) (t 22), none⟩, ⟨(some 24), bld [.int .i64 0, .int .i64 0] [(0, 1, t 20), (1, 1, t 23)], none⟩, ⟨(some 7), alloc [.int .i64 0, .int .i64 0], none⟩, ⟨none, st (t 7) 2 (t 24), none⟩]) (seq (seq (reg [⟨(some 25), fad (t 7) 0, none⟩, ⟨(some 26), ld (t 25) 1 false, none⟩, ⟨(some 27), callq (c (.fn 51 [])) [t 26], none⟩, ⟨(some 28), bin .gtr (t 27) (c (.int .i64 1000000000)), none⟩, ⟨(some 29), mv (t 28), none⟩, ⟨(some 30), fad (t 7) 1, some (29, false)⟩, ⟨(some 31), ld (t 30) 1 false, some (29, false)⟩, ⟨(some 32), bin .gtr (t 31) (c (.int .i64 1000000000)), some (29, false)⟩, ⟨(some 33), pick (t 29) (c (.bool true)) (t 32), none⟩]) (cond (t 33) (seq (reg [⟨(some 34), bld [.int .i64 0, .int .i64 0] [], none⟩, ⟨none, st (t 4) 2 (t 34), none⟩, ⟨(some 5), mv (c (.int .i64 3)), none⟩]) (ret)) (skip))) (seq (reg [⟨(some 35), ld (t 7) 2 true, none⟩, ⟨none, st (t 4) 2 (t 35), none⟩, ⟨(some 5), mv (c (.int .i64 0)), none⟩]) (ret))))))
def r_spec_l02Lowest : List ARes := [.cell 4 2 true, .tmp 5]
theorem k_spec_l02Lowest : acLin Go.Proofs.Tryd.prog 166 2 (inQ [51, 96] []) [⟨false, none, [], [], none⟩, ⟨false, none, [], [], none⟩, ⟨false, none, [], [], none⟩, ⟨false, none, [], [], none⟩, ⟨false, none, [], [], none⟩, ⟨false, some [0, 1, 2, 3, 4, 5, 6, 7, 8], [], [], none⟩] = some (c_spec_l02Lowest, r_spec_l02Lowest) := by kernel_rfl
def c_impl_Fraction_small : AC := seq (reg [⟨(some 1), box 2 (t 0), none⟩, ⟨(some 2), mv (c (.bool false)), none⟩]) (seq (reg [⟨(some 3), fad (t 1) 0, none⟩, ⟨(some 4), ld (t 3) 1 false, none⟩, ⟨(some 5), callq (c (.fn 134 [])) [t 4], none⟩, ⟨(some 6), bin .leq (t 5) (c (.int .i64 1000000000)), none⟩, ⟨(some 7), mv (t 6), none⟩, ⟨(some 8), fad (t 1) 1, some (7, true)⟩, ⟨(some 9), ld (t 8) 1 false, some (7, true)⟩, ⟨(some 10), bin .leq (t 9) (c (.int .i64 1000000000)), some (7, true)⟩, ⟨(some 11), pick (t 7) (t 10) (c (.bool false)), none⟩, ⟨(some 2), mv (t 11), none⟩]) (ret))
def r_impl_Fraction_small : List ARes := [.tmp 2]
theorem k_impl_Fraction_small : acLin Go.Proofs.Tryd.prog 167 1 (inQ [134] []) [] = some (c_impl_Fraction_small, r_impl_Fraction_small) := by kernel_rfl
def c_impl_sums_kept : AC := seq (reg [⟨(some 3), box 2 (t 1), none⟩, ⟨(some 4), alloc [.int .i64 0, .int .i64 0], none⟩]) (seq (seq (reg [⟨(some 5), ld (t 3) 2 true, none⟩, ⟨(some 6), callq (c (.fn 167 [])) [t 5], none⟩, ⟨(some 7), un .not (t 6), none⟩]) (cond (t 7) (seq (reg [⟨(some 8), mv (t 0), none⟩, ⟨(some 9), nilc (t 8), none⟩, ⟨(some 10), fad (t 9) 0, none⟩, ⟨none, st (t 10) 1 (c (.bool true)), none⟩]) (seq (reg [⟨(some 11), callq (c (.fn 113 [])) [], none⟩, ⟨none, st (t 4) 2 (t 11), none⟩]) (ret))) (skip))) (seq (reg [⟨(some 12), ld (t 3) 2 true, none⟩, ⟨none, st (t 4) 2 (t 12), none⟩]) (ret)))
def r_impl_sums_kept : List ARes := [.cell 4 2 true]
theorem k_impl_sums_kept : acLin Go.Proofs.Tryd.prog 142 2 (inQ [113, 167] []) [] = some (c_impl_sums_kept, r_impl_sums_kept) := by kernel_rfl
def c_impl_sums_add : AC := seq (reg [⟨(some 4), box 2 (t 1), none⟩, ⟨(some 5), box 2 (t 2), none⟩, ⟨(some 6), alloc [.int .i64 0, .int .i64 0], none⟩]) (seq (reg [⟨(some 7), mv (t 0), none⟩, ⟨(some 8), fad (t 4) 0, none⟩, ⟨(some 9), ld (t 8) 1 false, none⟩, ⟨(some 10), fad (t 5) 1, none⟩, ⟨(some 11), ld (t 10) 1 false, none⟩, ⟨(some 12), bin .mul (t 9) (t 11), none⟩, ⟨(some 13), fad (t 5) 0, none⟩, ⟨(some 14), ld (t 13) 1 false, none⟩, ⟨(some 15), fad (t 4) 1, none⟩, ⟨(some 16), ld (t 15) 1 false, none⟩, ⟨(some 17), bin .mul (t 14) (t 16), none⟩, ⟨(some 18), bin .add (t 12) (t 17), none⟩, ⟨(some 19), fad (t 4) 1, none⟩, ⟨(some 20), ld (t 19) 1 false, none⟩, ⟨(some 21), fad (t 5) 1, none⟩, ⟨(some 22), ld (t 21) 1 false, none⟩, ⟨(some 23), bin .mul (t 20) (t 22), none⟩, ⟨(some 24), callq (c (.fn 143 [])) [t 18, t 23], none⟩, ⟨(some 25), calle (c (.fn 142 [])) [t 7, t 24] [], none⟩, ⟨none, st (t 6) 2 (t 25), none⟩]) (ret))
def r_impl_sums_add : List ARes := [.cell 6 2 true]
theorem k_impl_sums_add : acLin Go.Proofs.Tryd.prog 115 3 (inQ [143] [142]) [] = some (c_impl_sums_add, r_impl_sums_add) := by kernel_rfl
def c_spec_l02Add : AC := seq (reg [⟨(some 2), box 2 (t 0), none⟩, ⟨(some 3), box 2 (t 1), none⟩, ⟨(some 4), alloc [.int .i64 0, .int .i64 0], none⟩, ⟨(some 5), mv (c (.int .i64 0)), none⟩]) (seq (reg [⟨(some 6), fad (t 2) 0, none⟩, ⟨(some 7), ld (t 6) 1 false, none⟩, ⟨(some 8), fad (t 3) 1, none⟩, ⟨(some 9), ld (t 8) 1 false, none⟩, ⟨(some 10), bin .mul (t 7) (t 9), none⟩, ⟨(some 11), fad (t 3) 0, none⟩, ⟨(some 12), ld (t 11) 1 false, none⟩, ⟨(some 13), fad (t 2) 1, none⟩, ⟨(some 14), ld (t 13) 1 false, none⟩, ⟨(some 15), bin .mul (t 12) (t 14), none⟩, ⟨(some 16), bin .add (t 10) (t 15), none⟩, ⟨(some 17), fad (t 2) 1, none⟩, ⟨(some 18), ld (t 17) 1 false, none⟩, ⟨(some 19), fad (t 3) 1, none⟩, ⟨(some 20), ld (t 19) 1 false, none⟩, ⟨(some 21), bin .mul (t 18) (t 20), none⟩, ⟨(some 22), callq (c (.fn 166 [])) [t 16, t 21], none⟩, ⟨(some 23), ext (t 22) 0, none⟩, ⟨(some 24), ext (t 22) 1, none⟩, ⟨none, st (t 4) 2 (t 23), none⟩, ⟨(some 5), mv (t 24), none⟩]) (ret))
def r_spec_l02Add : List ARes := [.cell 4 2 true, .tmp 5]
theorem k_spec_l02Add : acLin Go.Proofs.Tryd.prog 141 2 (inQ [166] []) [] = some (c_spec_l02Add, r_spec_l02Add) := by kernel_rfl
end Go.Proofs.YtjfoenibffdoeaaDoorAi
end

section
/- Contracts: fractions in lowest terms, sums, products. -/
namespace Go.Proofs.YtjfoenibffdoeaaDoorAi
open Go Go.RowKit
set_option linter.unusedVariables false
set_option linter.unusedSimpArgs false

/-- A quotient in lowest terms. -/
def lowP (p q : Int) : Int := (if q < 0 then -p else p).tdiv (Int.gcd p q)
def lowQ (p q : Int) : Int := (if q < 0 then -q else q).tdiv (Int.gcd p q)
theorem gcd_pos {p q : Int} (h : q ≠ 0) : (Int.gcd p q : Int) ≠ 0 := by
  have : 0 < Int.gcd p q := Int.gcd_pos_of_ne_zero_right _ h
  omega
theorem tdiv_small (a b : Int) : (a.tdiv b).natAbs ≤ a.natAbs := by
  rw [Int.natAbs_tdiv]
  exact Nat.div_le_self ..
theorem lowP_in {p q : Int} (h : in62 p) : in62 (lowP p q) := by
  unfold in62 lowP at *
  have := tdiv_small (if q < 0 then -p else p) (Int.gcd p q)
  split at this <;> rename_i hq <;> simp only [hq, if_true, if_false] <;> omega
theorem lowQ_in {p q : Int} (h : in62 q) : in62 (lowQ p q) := by
  unfold in62 lowQ at *
  have := tdiv_small (if q < 0 then -q else q) (Int.gcd p q)
  split at this <;> rename_i hq <;> simp only [hq, if_true, if_false] <;> omega
theorem wrap62 {n : Int} (h : in62 n) : IntKind.i64.wrap n = n := wrapI64 (by unfold in62 at h; omega) (by unfold in62 at h; omega)
theorem tdiv_low (p g : Int) : p.tdiv (-g) = (-p).tdiv g := by rw [Int.tdiv_neg, Int.neg_tdiv]

noncomputable def sp_lowest : List AV → Option (AV) := pf (ι := (Int) × (Int)) (α := AV) (fun ⟨p, q⟩ => in62 p ∧ in62 q ∧ q ≠ 0) (fun ⟨p, q⟩ => [.int .i64 p, .int .i64 q]) (fun ⟨p, q⟩ => .agg [.int .i64 (lowP p q), .int .i64 (lowQ p q)])
theorem sp_lowest_eq (p q : Int) (h : in62 p ∧ in62 q ∧ q ≠ 0) : sp_lowest [.int .i64 p, .int .i64 q] = some (.agg [.int .i64 (lowP p q), .int .i64 (lowQ p q)]) := by
  unfold sp_lowest
  exact pf_eq (ι := (Int) × (Int)) (α := AV) (p, q) h (by rintro ⟨p', q'⟩ _ e; simp_all [Int.natCast_inj])
theorem q_impl_lowest : QP PP 143 sp_lowest := by
  refine QP_pf (fun i h => ?_) fun i h => ?_
  · obtain ⟨p, q⟩ := i; exact ⟨by first | rfl | simp, by first | rfl | simp⟩
  obtain ⟨p, q⟩ := i
  replace h : in62 p ∧ in62 q ∧ q ≠ 0 := h
  refine P_code (Quiet.q1 q_impl_gcd Quiet.nil) hmix k_impl_lowest rfl ?_ ?_
  · first | rfl | simp
  show wpc 0 PP _ c_impl_lowest (initSt [.int .i64 p, .int .i64 q] .nil) (endP r_impl_lowest (.agg [.int .i64 (lowP p q), .int .i64 (lowQ p q)]))
  obtain ⟨hp, hq, h0⟩ := h
  have g0 := gcd_pos (p := p) h0
  have w1 := wrap62 (lowP_in (q := q) hp)
  have w2 := wrap62 (lowQ_in (p := p) hq)
  simp -dsimp -implicitDefEqProofs [c_impl_lowest, r_impl_lowest, sp_gcd_eq p q ⟨hp, hq⟩]
  by_cases hn : q < 0
  · have hg : in62 (Int.gcd p q) := by
      have := Int.gcd_le_natAbs_right (a := p) h0
      unfold in62 at *
      omega
    have w3 : IntKind.i64.wrap (-(Int.gcd p q : Int)) = -(Int.gcd p q : Int) := wrapI64 (by unfold in62 at hg; omega) (by unfold in62 at hg; omega)
    have g0' : ¬ (-(Int.gcd p q : Int)) = 0 := by omega
    have r1 : -(p.tdiv (Int.gcd p q)) = lowP p q := by unfold lowP; rw [if_pos hn, Int.neg_tdiv]
    have r2 : -(q.tdiv (Int.gcd p q)) = lowQ p q := by unfold lowQ; rw [if_pos hn, Int.neg_tdiv]
    simp -dsimp -implicitDefEqProofs [hn, w3, g0', r1, r2, w1, w2, h0]
  · have r1 : p.tdiv (Int.gcd p q) = lowP p q := by unfold lowP; rw [if_neg hn]
    have r2 : q.tdiv (Int.gcd p q) = lowQ p q := by unfold lowQ; rw [if_neg hn]
    simp -dsimp -implicitDefEqProofs [hn, r1, r2, w1, w2, h0]

def smallB (p q : Int) : Bool := decide (p.natAbs ≤ 1000000000) && decide (q ≤ 1000000000)
def lowO (p q : Int) : Option Fr := if smallB (lowP p q) (lowQ p q) = true then some ⟨lowP p q, lowQ p q⟩ else none
/-- A fraction with a code. -/
def frO : Option Fr → AV
  | some x => .tup [frA x, .int .i64 0]
  | none => .tup [.agg [.int .i64 0, .int .i64 0], .int .i64 3]
theorem frO_lt (x : Option Fr) (n : Nat) : (frO x).lt n = true := by cases x <;> rfl
@[simp] theorem frO_ren (x : Option Fr) (f : Nat → Nat) : (frO x).ren f = frO x := by cases x <;> rfl
@[simp] theorem frO_lt' (x : Option Fr) (n : Nat) : (frO x).lt n = true := frO_lt x n
noncomputable def sp_lowO : List AV → Option (AV) := pf (ι := (Int) × (Int)) (α := AV) (fun ⟨p, q⟩ => in62 p ∧ in62 q ∧ q ≠ 0) (fun ⟨p, q⟩ => [.int .i64 p, .int .i64 q]) (fun ⟨p, q⟩ => frO (lowO p q))
theorem sp_lowO_eq (p q : Int) (h : in62 p ∧ in62 q ∧ q ≠ 0) : sp_lowO [.int .i64 p, .int .i64 q] = some (frO (lowO p q)) := by
  unfold sp_lowO
  exact pf_eq (ι := (Int) × (Int)) (α := AV) (p, q) h (by rintro ⟨p', q'⟩ _ e; simp_all [Int.natCast_inj])
theorem q_spec_l02Lowest : QP PP 166 sp_lowO := by
  refine QP_pf (fun i h => ?_) fun i h => ?_
  · obtain ⟨p, q⟩ := i; exact ⟨by first | rfl | simp, by first | rfl | simp⟩
  obtain ⟨p, q⟩ := i
  replace h : in62 p ∧ in62 q ∧ q ≠ 0 := h
  refine P_code (Quiet.q1 q_spec_l02Abs (Quiet.q1 q_spec_l02Common Quiet.nil)) hmix k_spec_l02Lowest rfl ?_ ?_
  · first | rfl | simp
  show wpc 0 PP _ c_spec_l02Lowest (initSt [.int .i64 p, .int .i64 q] .nil) (endP r_spec_l02Lowest (frO (lowO p q)))
  obtain ⟨hp, hq, h0⟩ := h
  have g0 := gcd_pos (p := p) h0
  have b1 := lowP_in (q := q) hp
  have b2 := lowQ_in (p := p) hq
  have w1 := wrap62 b1
  have w2 := wrap62 b2
  by_cases hn : q < 0
  · have n1 : in62 (-p) := by unfold in62 at *; omega
    have n2 : in62 (-q) := by unfold in62 at *; omega
    have d1 := sp_size_eq (-p) n1
    rw [Int.natAbs_neg] at d1
    have d2 := sp_common_eq (p.natAbs : Int) (-q) (by unfold in62 at *; omega)
    rw [gcd_abs, Int.gcd_neg] at d2
    have r1 : -(p.tdiv (Int.gcd p q)) = lowP p q := by unfold lowP; rw [if_pos hn, Int.neg_tdiv]
    have r2 : -(q.tdiv (Int.gcd p q)) = lowQ p q := by unfold lowQ; rw [if_pos hn, Int.neg_tdiv]
    simp -dsimp -implicitDefEqProofs [c_spec_l02Lowest, r_spec_l02Lowest, hn, h0, wrap62 n1, wrap62 n2, d1, d2, g0, r1, r2, w1, w2, sp_size_eq _ b1]
    by_cases c1 : (lowP p q).natAbs ≤ 1000000000
    · have c1' : ¬ (1000000000 : Int) < (lowP p q).natAbs := by omega
      by_cases c : lowQ p q ≤ 1000000000
      · have c' : ¬ 1000000000 < lowQ p q := by omega
        simp -dsimp -implicitDefEqProofs [c1', c', frO, lowO, smallB, c1, c]
      · have c' : 1000000000 < lowQ p q := by omega
        simp -dsimp -implicitDefEqProofs [c1', c', frO, lowO, smallB, c1, c]
    · have c1' : (1000000000 : Int) < (lowP p q).natAbs := by omega
      simp -dsimp -implicitDefEqProofs [c1', frO, lowO, smallB, c1]
  · have d1 := sp_size_eq p hp
    have d2 := sp_common_eq (p.natAbs : Int) q (by unfold in62 at *; omega)
    rw [gcd_abs] at d2
    have r1 : p.tdiv (Int.gcd p q) = lowP p q := by unfold lowP; rw [if_neg hn]
    have r2 : q.tdiv (Int.gcd p q) = lowQ p q := by unfold lowQ; rw [if_neg hn]
    simp -dsimp -implicitDefEqProofs [c_spec_l02Lowest, r_spec_l02Lowest, hn, d1, d2, g0, r1, r2, w1, w2, sp_size_eq _ b1, h0]
    by_cases c1 : (lowP p q).natAbs ≤ 1000000000
    · have c1' : ¬ (1000000000 : Int) < (lowP p q).natAbs := by omega
      by_cases c : lowQ p q ≤ 1000000000
      · have c' : ¬ 1000000000 < lowQ p q := by omega
        simp -dsimp -implicitDefEqProofs [c1', c', frO, lowO, smallB, c1, c]
      · have c' : 1000000000 < lowQ p q := by omega
        simp -dsimp -implicitDefEqProofs [c1', c', frO, lowO, smallB, c1, c]
    · have c1' : (1000000000 : Int) < (lowP p q).natAbs := by omega
      simp -dsimp -implicitDefEqProofs [c1', frO, lowO, smallB, c1]

end Go.Proofs.YtjfoenibffdoeaaDoorAi
end

section
/- Contracts: sums and products of fractions. -/
namespace Go.Proofs.YtjfoenibffdoeaaDoorAi
open Go Go.RowKit
set_option linter.unusedVariables false
set_option linter.unusedSimpArgs false

def frIn (p q : Int) : Prop := (-1000000000 ≤ p ∧ p ≤ 1000000000) ∧ (1 ≤ q ∧ q ≤ 1000000000)
theorem mul_small {a b : Int} (ha : a.natAbs ≤ 1000000000) (hb : b.natAbs ≤ 1000000000) : -1000000000000000000 ≤ a * b ∧ a * b ≤ 1000000000000000000 := by
  have h : (a * b).natAbs ≤ 1000000000 * 1000000000 := by rw [Int.natAbs_mul]; exact Nat.mul_le_mul ha hb
  omega
theorem mul_62 {a b : Int} (ha : a.natAbs ≤ 1000000000) (hb : b.natAbs ≤ 1000000000) : in62 (a * b) ∧ IntKind.i64.wrap (a * b) = a * b := by
  have h := mul_small ha hb
  have : in62 (a * b) := by unfold in62; omega
  exact ⟨this, wrap62 this⟩
def valO (o : Option Fr) : Fr := o.getD ⟨0, 1⟩
def addO (p q p' q' : Int) : Option Fr := lowO (p * q' + p' * q) (q * q')
def mulO (p q p' q' : Int) : Option Fr := lowO (p * p') (q * q')
def divO (p q p' q' : Int) : Option Fr := lowO (p * q') (q * p')

theorem lowQ_pos {p q : Int} (h : q ≠ 0) : 1 ≤ lowQ p q := by
  have hd : (Int.gcd p q : Int) ∣ q := Int.gcd_dvd_right ..
  have hg : 0 < Int.gcd p q := Int.gcd_pos_of_ne_zero_right _ h
  have h2 : (Int.gcd p q : Int) ∣ (if q < 0 then -q else q) := by
    split
    · exact (Int.dvd_neg).2 hd
    · exact hd
  obtain ⟨k, hk⟩ := h2
  have hpos : 0 < (if q < 0 then -q else q) := by split <;> omega
  have hkp : 0 < k := by
    rw [hk] at hpos
    rcases Int.lt_trichotomy k 0 with h0 | h0 | h0
    · have := Int.mul_neg_of_pos_of_neg (a := (Int.gcd p q : Int)) (b := k) (by omega) h0; omega
    · rw [h0] at hpos; simp at hpos
    · exact h0
  unfold lowQ
  rw [hk, Int.mul_comm, Int.mul_tdiv_cancel _ (by omega)]
  omega
theorem lowO_in {p q : Int} (h : q ≠ 0) {x : Fr} (e : lowO p q = some x) : frIn x.p x.q := by
  unfold lowO smallB at e
  split at e
  · rename_i hs
    obtain rfl := Option.some.inj e
    simp at hs
    have := lowQ_pos (p := p) h
    unfold frIn
    simp only
    omega
  · cases e
theorem valO_in {p q : Int} (h : q ≠ 0) : frIn (valO (lowO p q)).p (valO (lowO p q)).q := by
  cases e : lowO p q with
  | none => unfold frIn valO; decide
  | some x => exact lowO_in h e
theorem add_pre {p q p' q' : Int} (h : frIn p q) (h' : frIn p' q') : in62 (p * q' + p' * q) ∧ in62 (q * q') ∧ q * q' ≠ 0 ∧ IntKind.i64.wrap (p * q') = p * q' ∧ IntKind.i64.wrap (p' * q) = p' * q ∧ IntKind.i64.wrap (p * q' + p' * q) = p * q' + p' * q ∧ IntKind.i64.wrap (q * q') = q * q' := by
  unfold frIn at *
  have a1 := mul_small (a := p) (b := q') (by omega) (by omega)
  have a2 := mul_small (a := p') (b := q) (by omega) (by omega)
  have a3 := mul_small (a := q) (b := q') (by omega) (by omega)
  have a4 : 0 < q * q' := Int.mul_pos (by omega) (by omega)
  exact ⟨by unfold in62; omega, by unfold in62; omega, by omega, wrapI64 (by omega) (by omega), wrapI64 (by omega) (by omega), wrapI64 (by omega) (by omega), wrapI64 (by omega) (by omega)⟩
theorem mul_pre {p q p' q' : Int} (h : frIn p q) (h' : frIn p' q') : in62 (p * p') ∧ in62 (q * q') ∧ q * q' ≠ 0 ∧ IntKind.i64.wrap (p * p') = p * p' ∧ IntKind.i64.wrap (q * q') = q * q' := by
  unfold frIn at *
  have a1 := mul_small (a := p) (b := p') (by omega) (by omega)
  have a3 := mul_small (a := q) (b := q') (by omega) (by omega)
  have a4 : 0 < q * q' := Int.mul_pos (by omega) (by omega)
  exact ⟨by unfold in62; omega, by unfold in62; omega, by omega, wrapI64 (by omega) (by omega), wrapI64 (by omega) (by omega)⟩
theorem div_pre {p q p' q' : Int} (h : frIn p q) (h' : frIn p' q') (h0 : p' ≠ 0) : in62 (p * q') ∧ in62 (q * p') ∧ q * p' ≠ 0 ∧ IntKind.i64.wrap (p * q') = p * q' ∧ IntKind.i64.wrap (q * p') = q * p' := by
  unfold frIn at *
  have a1 := mul_small (a := p) (b := q') (by omega) (by omega)
  have a3 := mul_small (a := q) (b := p') (by omega) (by omega)
  have a4 : q * p' ≠ 0 := Int.mul_ne_zero (by omega) h0
  exact ⟨by unfold in62; omega, by unfold in62; omega, a4, wrapI64 (by omega) (by omega), wrapI64 (by omega) (by omega)⟩

noncomputable def sp_small : List AV → Option (AV) := pf (ι := (Int) × (Int)) (α := AV) (fun ⟨p, q⟩ => in62 p) (fun ⟨p, q⟩ => [.agg [.int .i64 p, .int .i64 q]]) (fun ⟨p, q⟩ => .bool (smallB p q))
theorem sp_small_eq (p q : Int) (h : in62 p) : sp_small [.agg [.int .i64 p, .int .i64 q]] = some (.bool (smallB p q)) := by
  unfold sp_small
  exact pf_eq (ι := (Int) × (Int)) (α := AV) (p, q) h (by rintro ⟨p', q'⟩ _ e; simp_all [Int.natCast_inj])
theorem q_impl_Fraction_small : QP PP 167 sp_small := by
  refine QP_pf (fun i h => ?_) fun i h => ?_
  · obtain ⟨p, q⟩ := i; exact ⟨by first | rfl | simp, by first | rfl | simp⟩
  obtain ⟨p, q⟩ := i
  replace h : in62 p := h
  refine P_code (Quiet.q1 q_impl_size Quiet.nil) hmix k_impl_Fraction_small rfl ?_ ?_
  · first | rfl | simp
  show wpc 0 PP _ c_impl_Fraction_small (initSt [.agg [.int .i64 p, .int .i64 q]] .nil) (endP r_impl_Fraction_small (.bool (smallB p q)))
  simp -dsimp -implicitDefEqProofs [c_impl_Fraction_small, r_impl_Fraction_small, sp_size_eq p h]
  by_cases e1 : p.natAbs ≤ 1000000000
  · have e1' : (p.natAbs : Int) ≤ 1000000000 := by omega
    simp -dsimp -implicitDefEqProofs [e1', smallB, e1]
  · have e1' : ¬ (p.natAbs : Int) ≤ 1000000000 := by omega
    simp -dsimp -implicitDefEqProofs [e1', smallB, e1]
def keepF (p q : Int) : Fr := if smallB p q = true then ⟨p, q⟩ else ⟨0, 1⟩
noncomputable def sp_kept : List AV → List AV → Option (AV × List AV) := pm (pf (ι := (Bool) × (Int) × (Int)) (α := AV × List AV) (fun ⟨g, p, q⟩ => in62 p) (fun i => .agg ((fun ⟨g, p, q⟩ => [.bool g] : (Bool) × (Int) × (Int) → List AV) i) :: (fun ⟨g, p, q⟩ => [.agg [.int .i64 p, .int .i64 q]] : (Bool) × (Int) × (Int) → List AV) i) (fun ⟨g, p, q⟩ => (frA (keepF p q), [.bool (g || !smallB p q)])))
theorem sp_kept_eq (g : Bool) (p q : Int) (h : in62 p) : sp_kept [.bool g] [.agg [.int .i64 p, .int .i64 q]] = some (frA (keepF p q), [.bool (g || !smallB p q)]) := by
  unfold sp_kept pm
  exact pf_eq (ι := (Bool) × (Int) × (Int)) (α := AV × List AV) (g, p, q) h (by rintro ⟨g', p', q'⟩ _ e; simp_all [Int.natCast_inj])
theorem m_impl_sums_kept : QM PP 142 sp_kept := by
  refine QM_pf (fun i h => ?_) fun i h => ?_
  · obtain ⟨g, p, q⟩ := i; exact ⟨⟨by first | rfl | simp, by first | rfl | simp⟩, by first | rfl | simp, by first | rfl | simp⟩
  obtain ⟨g, p, q⟩ := i
  replace h : in62 p := h
  refine H_code (Quiet.q1 q_impl_Fraction_small (Quiet.q1 q_impl_zero Quiet.nil)) hmix k_impl_sums_kept rfl (fun b => b) (Nat.le_refl _) (fun _ _ => rfl) rfl (by first | rfl | simp) ?_
  show wpc 1 PP _ c_impl_sums_kept (initSt [.ptr 0 0, .agg [.int .i64 p, .int .i64 q]] ⟨[some [.bool g]]⟩) (endH (fun b => b) r_impl_sums_kept (frA (keepF p q)) [some [.bool (g || !smallB p q)]])
  simp -dsimp -implicitDefEqProofs [c_impl_sums_kept, r_impl_sums_kept, sp_small_eq p q h]
  cases e : smallB p q <;> simp -dsimp -implicitDefEqProofs [keepF, e, hsub]
theorem keepF_low (p q : Int) : keepF (lowP p q) (lowQ p q) = valO (lowO p q) := by unfold keepF valO lowO; split <;> rfl
theorem small_low (p q : Int) : (!smallB (lowP p q) (lowQ p q)) = (lowO p q).isNone := by unfold lowO; split <;> simp_all

noncomputable def sp_add : List AV → List AV → Option (AV × List AV) := pm (pf (ι := (Bool) × (Int) × (Int) × (Int) × (Int)) (α := AV × List AV) (fun ⟨g, p, q, p', q'⟩ => frIn p q ∧ frIn p' q') (fun i => .agg ((fun ⟨g, p, q, p', q'⟩ => [.bool g] : (Bool) × (Int) × (Int) × (Int) × (Int) → List AV) i) :: (fun ⟨g, p, q, p', q'⟩ => [.agg [.int .i64 p, .int .i64 q], .agg [.int .i64 p', .int .i64 q']] : (Bool) × (Int) × (Int) × (Int) × (Int) → List AV) i) (fun ⟨g, p, q, p', q'⟩ => (frA (valO (addO p q p' q')), [.bool (g || (addO p q p' q').isNone)])))
theorem sp_add_eq (g : Bool) (p q p' q' : Int) (h : frIn p q ∧ frIn p' q') : sp_add [.bool g] [.agg [.int .i64 p, .int .i64 q], .agg [.int .i64 p', .int .i64 q']] = some (frA (valO (addO p q p' q')), [.bool (g || (addO p q p' q').isNone)]) := by
  unfold sp_add pm
  exact pf_eq (ι := (Bool) × (Int) × (Int) × (Int) × (Int)) (α := AV × List AV) (g, p, q, p', q') h (by rintro ⟨g', p', q', p'', q''⟩ _ e; simp_all [Int.natCast_inj])
theorem m_impl_sums_add : QM PP 115 sp_add := by
  refine QM_pf (fun i h => ?_) fun i h => ?_
  · obtain ⟨g, p, q, p', q'⟩ := i; exact ⟨⟨by first | rfl | simp, by first | rfl | simp⟩, by first | rfl | simp, by first | rfl | simp⟩
  obtain ⟨g, p, q, p', q'⟩ := i
  replace h : frIn p q ∧ frIn p' q' := h
  refine H_code (Quiet.q1 q_impl_lowest (Quiet.e1 m_impl_sums_kept.toE Quiet.nil)) hmix k_impl_sums_add rfl (fun b => b) (Nat.le_refl _) (fun _ _ => rfl) rfl (by first | rfl | simp) ?_
  show wpc 1 PP _ c_impl_sums_add (initSt [.ptr 0 0, .agg [.int .i64 p, .int .i64 q], .agg [.int .i64 p', .int .i64 q']] ⟨[some [.bool g]]⟩) (endH (fun b => b) r_impl_sums_add (frA (valO (addO p q p' q'))) [some [.bool (g || (addO p q p' q').isNone)]])
  obtain ⟨d1, d2, d3, w1, w2, w3, w4⟩ := add_pre h.1 h.2
  simp -dsimp -implicitDefEqProofs [c_impl_sums_add, r_impl_sums_add, w1, w2, w3, w4, sp_lowest_eq _ _ ⟨d1, d2, d3⟩, sp_kept_eq _ _ _ (lowP_in d1), hsub, keepF_low, small_low, addO]
noncomputable def sp_mul : List AV → List AV → Option (AV × List AV) := pm (pf (ι := (Bool) × (Int) × (Int) × (Int) × (Int)) (α := AV × List AV) (fun ⟨g, p, q, p', q'⟩ => frIn p q ∧ frIn p' q') (fun i => .agg ((fun ⟨g, p, q, p', q'⟩ => [.bool g] : (Bool) × (Int) × (Int) × (Int) × (Int) → List AV) i) :: (fun ⟨g, p, q, p', q'⟩ => [.agg [.int .i64 p, .int .i64 q], .agg [.int .i64 p', .int .i64 q']] : (Bool) × (Int) × (Int) × (Int) × (Int) → List AV) i) (fun ⟨g, p, q, p', q'⟩ => (frA (valO (mulO p q p' q')), [.bool (g || (mulO p q p' q').isNone)])))
theorem sp_mul_eq (g : Bool) (p q p' q' : Int) (h : frIn p q ∧ frIn p' q') : sp_mul [.bool g] [.agg [.int .i64 p, .int .i64 q], .agg [.int .i64 p', .int .i64 q']] = some (frA (valO (mulO p q p' q')), [.bool (g || (mulO p q p' q').isNone)]) := by
  unfold sp_mul pm
  exact pf_eq (ι := (Bool) × (Int) × (Int) × (Int) × (Int)) (α := AV × List AV) (g, p, q, p', q') h (by rintro ⟨g', p', q', p'', q''⟩ _ e; simp_all [Int.natCast_inj])
noncomputable def sp_div : List AV → List AV → Option (AV × List AV) := pm (pf (ι := (Bool) × (Int) × (Int) × (Int) × (Int)) (α := AV × List AV) (fun ⟨g, p, q, p', q'⟩ => frIn p q ∧ frIn p' q' ∧ p' ≠ 0) (fun i => .agg ((fun ⟨g, p, q, p', q'⟩ => [.bool g] : (Bool) × (Int) × (Int) × (Int) × (Int) → List AV) i) :: (fun ⟨g, p, q, p', q'⟩ => [.agg [.int .i64 p, .int .i64 q], .agg [.int .i64 p', .int .i64 q']] : (Bool) × (Int) × (Int) × (Int) × (Int) → List AV) i) (fun ⟨g, p, q, p', q'⟩ => (frA (valO (divO p q p' q')), [.bool (g || (divO p q p' q').isNone)])))
theorem sp_div_eq (g : Bool) (p q p' q' : Int) (h : frIn p q ∧ frIn p' q' ∧ p' ≠ 0) : sp_div [.bool g] [.agg [.int .i64 p, .int .i64 q], .agg [.int .i64 p', .int .i64 q']] = some (frA (valO (divO p q p' q')), [.bool (g || (divO p q p' q').isNone)]) := by
  unfold sp_div pm
  exact pf_eq (ι := (Bool) × (Int) × (Int) × (Int) × (Int)) (α := AV × List AV) (g, p, q, p', q') h (by rintro ⟨g', p', q', p'', q''⟩ _ e; simp_all [Int.natCast_inj])
def subO (p q p' q' : Int) : Option Fr := addO p q (-p') q'
theorem frIn_neg {p q : Int} (h : frIn p q) : frIn (-p) q ∧ IntKind.i64.wrap (-p) = -p := by
  unfold frIn at *
  exact ⟨by omega, wrapI64 (by omega) (by omega)⟩
noncomputable def sp_sub : List AV → List AV → Option (AV × List AV) := pm (pf (ι := (Bool) × (Int) × (Int) × (Int) × (Int)) (α := AV × List AV) (fun ⟨g, p, q, p', q'⟩ => frIn p q ∧ frIn p' q') (fun i => .agg ((fun ⟨g, p, q, p', q'⟩ => [.bool g] : (Bool) × (Int) × (Int) × (Int) × (Int) → List AV) i) :: (fun ⟨g, p, q, p', q'⟩ => [.agg [.int .i64 p, .int .i64 q], .agg [.int .i64 p', .int .i64 q']] : (Bool) × (Int) × (Int) × (Int) × (Int) → List AV) i) (fun ⟨g, p, q, p', q'⟩ => (frA (valO (subO p q p' q')), [.bool (g || (subO p q p' q').isNone)])))
theorem sp_sub_eq (g : Bool) (p q p' q' : Int) (h : frIn p q ∧ frIn p' q') : sp_sub [.bool g] [.agg [.int .i64 p, .int .i64 q], .agg [.int .i64 p', .int .i64 q']] = some (frA (valO (subO p q p' q')), [.bool (g || (subO p q p' q').isNone)]) := by
  unfold sp_sub pm
  exact pf_eq (ι := (Bool) × (Int) × (Int) × (Int) × (Int)) (α := AV × List AV) (g, p, q, p', q') h (by rintro ⟨g', p', q', p'', q''⟩ _ e; simp_all [Int.natCast_inj])
def toldA (g : Bool) (p q : Int) : AV := if g = true then .tup [.agg [.int .i64 0, .int .i64 0], .int .i64 3] else .tup [.agg [.int .i64 p, .int .i64 q], .int .i64 0]
@[simp] theorem toldA_ren (g : Bool) (p q : Int) (f : Nat → Nat) : (toldA g p q).ren f = toldA g p q := by cases g <;> rfl
@[simp] theorem toldA_lt (g : Bool) (p q : Int) (n : Nat) : (toldA g p q).lt n = true := by cases g <;> rfl
noncomputable def sp_told : List AV → List AV → Option (AV × List AV) := pm (pf (ι := (Bool) × (Int) × (Int)) (α := AV × List AV) (fun ⟨g, p, q⟩ => True) (fun i => .agg ((fun ⟨g, p, q⟩ => [.bool g] : (Bool) × (Int) × (Int) → List AV) i) :: (fun ⟨g, p, q⟩ => [.agg [.int .i64 p, .int .i64 q]] : (Bool) × (Int) × (Int) → List AV) i) (fun ⟨g, p, q⟩ => (toldA g p q, [.bool g])))
theorem sp_told_eq (g : Bool) (p q : Int) : sp_told [.bool g] [.agg [.int .i64 p, .int .i64 q]] = some (toldA g p q, [.bool g]) := by
  unfold sp_told pm
  exact pf_eq (ι := (Bool) × (Int) × (Int)) (α := AV × List AV) (g, p, q) trivial (by rintro ⟨g', p', q'⟩ _ e; simp_all [Int.natCast_inj])
attribute [simp] sp_told_eq
noncomputable def sp_l02Add : List AV → Option (AV) := pf (ι := (Int) × (Int) × (Int) × (Int)) (α := AV) (fun ⟨p, q, p', q'⟩ => frIn p q ∧ frIn p' q') (fun ⟨p, q, p', q'⟩ => [.agg [.int .i64 p, .int .i64 q], .agg [.int .i64 p', .int .i64 q']]) (fun ⟨p, q, p', q'⟩ => frO (addO p q p' q'))
theorem sp_l02Add_eq (p q p' q' : Int) (h : frIn p q ∧ frIn p' q') : sp_l02Add [.agg [.int .i64 p, .int .i64 q], .agg [.int .i64 p', .int .i64 q']] = some (frO (addO p q p' q')) := by
  unfold sp_l02Add
  exact pf_eq (ι := (Int) × (Int) × (Int) × (Int)) (α := AV) (p, q, p', q') h (by rintro ⟨p', q', p'', q''⟩ _ e; simp_all [Int.natCast_inj])
theorem q_spec_l02Add : QP PP 141 sp_l02Add := by
  refine QP_pf (fun i h => ?_) fun i h => ?_
  · obtain ⟨p, q, p', q'⟩ := i; exact ⟨by first | rfl | simp, by first | rfl | simp⟩
  obtain ⟨p, q, p', q'⟩ := i
  replace h : frIn p q ∧ frIn p' q' := h
  refine P_code (Quiet.q1 q_spec_l02Lowest Quiet.nil) hmix k_spec_l02Add rfl ?_ ?_
  · first | rfl | simp
  show wpc 0 PP _ c_spec_l02Add (initSt [.agg [.int .i64 p, .int .i64 q], .agg [.int .i64 p', .int .i64 q']] .nil) (endP r_spec_l02Add (frO (addO p q p' q')))
  obtain ⟨d1, d2, d3, w1, w2, w3, w4⟩ := add_pre h.1 h.2
  simp -dsimp -implicitDefEqProofs [c_spec_l02Add, r_spec_l02Add, w1, w2, w3, w4, sp_lowO_eq _ _ ⟨d1, d2, d3⟩, addO]
  cases lowO (p * q' + p' * q) (q * q') <;> simp -dsimp -implicitDefEqProofs [frO]
noncomputable def sp_l02Mul : List AV → Option (AV) := pf (ι := (Int) × (Int) × (Int) × (Int)) (α := AV) (fun ⟨p, q, p', q'⟩ => frIn p q ∧ frIn p' q') (fun ⟨p, q, p', q'⟩ => [.agg [.int .i64 p, .int .i64 q], .agg [.int .i64 p', .int .i64 q']]) (fun ⟨p, q, p', q'⟩ => frO (mulO p q p' q'))
theorem sp_l02Mul_eq (p q p' q' : Int) (h : frIn p q ∧ frIn p' q') : sp_l02Mul [.agg [.int .i64 p, .int .i64 q], .agg [.int .i64 p', .int .i64 q']] = some (frO (mulO p q p' q')) := by
  unfold sp_l02Mul
  exact pf_eq (ι := (Int) × (Int) × (Int) × (Int)) (α := AV) (p, q, p', q') h (by rintro ⟨p', q', p'', q''⟩ _ e; simp_all [Int.natCast_inj])
noncomputable def sp_l02Div : List AV → Option (AV) := pf (ι := (Int) × (Int) × (Int) × (Int)) (α := AV) (fun ⟨p, q, p', q'⟩ => frIn p q ∧ frIn p' q' ∧ p' ≠ 0) (fun ⟨p, q, p', q'⟩ => [.agg [.int .i64 p, .int .i64 q], .agg [.int .i64 p', .int .i64 q']]) (fun ⟨p, q, p', q'⟩ => frO (divO p q p' q'))
theorem sp_l02Div_eq (p q p' q' : Int) (h : frIn p q ∧ frIn p' q' ∧ p' ≠ 0) : sp_l02Div [.agg [.int .i64 p, .int .i64 q], .agg [.int .i64 p', .int .i64 q']] = some (frO (divO p q p' q')) := by
  unfold sp_l02Div
  exact pf_eq (ι := (Int) × (Int) × (Int) × (Int)) (α := AV) (p, q, p', q') h (by rintro ⟨p', q', p'', q''⟩ _ e; simp_all [Int.natCast_inj])
noncomputable def sp_opposite : List AV → Option (AV) := pf (ι := (Int) × (Int)) (α := AV) (fun ⟨p, q⟩ => frIn p q) (fun ⟨p, q⟩ => [.agg [.int .i64 p, .int .i64 q]]) (fun ⟨p, q⟩ => .agg [.int .i64 (-p), .int .i64 q])
theorem sp_opposite_eq (p q : Int) (h : frIn p q) : sp_opposite [.agg [.int .i64 p, .int .i64 q]] = some (.agg [.int .i64 (-p), .int .i64 q]) := by
  unfold sp_opposite
  exact pf_eq (ι := (Int) × (Int)) (α := AV) (p, q) h (by rintro ⟨p', q'⟩ _ e; simp_all [Int.natCast_inj])
noncomputable def sp_l02Sub : List AV → Option (AV) := pf (ι := (Int) × (Int) × (Int) × (Int)) (α := AV) (fun ⟨p, q, p', q'⟩ => frIn p q ∧ frIn p' q') (fun ⟨p, q, p', q'⟩ => [.agg [.int .i64 p, .int .i64 q], .agg [.int .i64 p', .int .i64 q']]) (fun ⟨p, q, p', q'⟩ => frO (subO p q p' q'))
theorem sp_l02Sub_eq (p q p' q' : Int) (h : frIn p q ∧ frIn p' q') : sp_l02Sub [.agg [.int .i64 p, .int .i64 q], .agg [.int .i64 p', .int .i64 q']] = some (frO (subO p q p' q')) := by
  unfold sp_l02Sub
  exact pf_eq (ι := (Int) × (Int) × (Int) × (Int)) (α := AV) (p, q, p', q') h (by rintro ⟨p', q', p'', q''⟩ _ e; simp_all [Int.natCast_inj])
end Go.Proofs.YtjfoenibffdoeaaDoorAi
end

section
/- Contracts: products of lists, sums of lists. -/
namespace Go.Proofs.YtjfoenibffdoeaaDoorAi
open Go Go.RowKit
set_option linter.unusedVariables false
set_option linter.unusedSimpArgs false

def allIn (l : List Fr) : Prop := ∀ x ∈ l, frIn x.p x.q
theorem allIn.get {l : List Fr} (h : allIn l) {i : Nat} (hi : i < l.length) : frIn l[i].p l[i].q := h _ (List.getElem_mem hi)
theorem drop_cons {α : Type} {l : List α} {i : Nat} (h : i < l.length) : l.drop i = l[i] :: l.drop (i + 1) := by simp
theorem drop_end {α : Type} {l : List α} {i : Nat} (h : ¬ i < l.length) : l.drop i = [] := List.drop_eq_nil_of_le (by omega)
def add2 (x y : Fr) : Option Fr := addO x.p x.q y.p y.q
def mul2 (x y : Fr) : Option Fr := mulO x.p x.q y.p y.q
theorem add2_in {x y : Fr} (h1 : frIn x.p x.q) (h2 : frIn y.p y.q) : frIn (valO (add2 x y)).p (valO (add2 x y)).q := valO_in (add_pre h1 h2).2.2.1
theorem mul2_in {x y : Fr} (h1 : frIn x.p x.q) (h2 : frIn y.p y.q) : frIn (valO (mul2 x y)).p (valO (mul2 x y)).q := valO_in (mul_pre h1 h2).2.2.1
theorem add2_some {x y z : Fr} (h1 : frIn x.p x.q) (h2 : frIn y.p y.q) (e : add2 x y = some z) : frIn z.p z.q := lowO_in (add_pre h1 h2).2.2.1 e
theorem mul2_some {x y z : Fr} (h1 : frIn x.p x.q) (h2 : frIn y.p y.q) (e : mul2 x y = some z) : frIn z.p z.q := lowO_in (mul_pre h1 h2).2.2.1 e
theorem zero_in : frIn 0 1 := by unfold frIn; decide

/-- The sum of products; whether one was too large. -/
def dotG : Fr → Bool → List Fr → List Fr → Fr × Bool
  | a, g, x :: xs, y :: ys => dotG (valO (add2 a (valO (mul2 x y)))) ((g || (mul2 x y).isNone) || (add2 a (valO (mul2 x y))).isNone) xs ys
  | a, g, [], _ => (a, g)
  | a, g, _ :: _, [] => (a, g)
theorem dotG_in : ∀ (xs ys : List Fr) (a : Fr) (g : Bool), frIn a.p a.q → allIn xs → allIn ys → frIn (dotG a g xs ys).1.p (dotG a g xs ys).1.q
  | [], ys, a, g, h, _, _ => by simpa [dotG] using h
  | x :: xs, [], a, g, h, _, _ => by simpa [dotG] using h
  | x :: xs, y :: ys, a, g, h, h1, h2 => by
    rw [dotG]
    exact dotG_in xs ys _ _ (add2_in h (mul2_in (h1 x (List.mem_cons_self ..)) (h2 y (List.mem_cons_self ..)))) (fun z hz => h1 z (List.mem_cons_of_mem _ hz)) (fun z hz => h2 z (List.mem_cons_of_mem _ hz))

noncomputable def sp_dot : List AV → List AV → Option (AV × List AV) := pm (pf (ι := (Bool) × (List Fr) × (List Fr)) (α := AV × List AV) (fun ⟨g, xs, ys⟩ => (allIn xs ∧ allIn ys) ∧ xs.length ≤ ys.length ∧ xs.length ≤ 1000000) (fun i => .agg ((fun ⟨g, xs, ys⟩ => [.bool g] : (Bool) × (List Fr) × (List Fr) → List AV) i) :: (fun ⟨g, xs, ys⟩ => [.sl (frsA xs) false, .sl (frsA ys) false] : (Bool) × (List Fr) × (List Fr) → List AV) i) (fun ⟨g, xs, ys⟩ => (frA (dotG ⟨0, 1⟩ g xs ys).1, [.bool (dotG ⟨0, 1⟩ g xs ys).2])))
theorem sp_dot_eq (g : Bool) (xs ys : List Fr) (h : (allIn xs ∧ allIn ys) ∧ xs.length ≤ ys.length ∧ xs.length ≤ 1000000) : sp_dot [.bool g] [.sl (frsA xs) false, .sl (frsA ys) false] = some (frA (dotG ⟨0, 1⟩ g xs ys).1, [.bool (dotG ⟨0, 1⟩ g xs ys).2]) := by
  unfold sp_dot pm
  exact pf_eq (ι := (Bool) × (List Fr) × (List Fr)) (α := AV × List AV) (g, xs, ys) h (by rintro ⟨g', xs', ys'⟩ _ e; simp_all [Int.natCast_inj])
/-- The sum of products, if none was too large. -/
def dotO : Fr → List Fr → List Fr → Option Fr
  | a, x :: xs, y :: ys => (mul2 x y).bind fun m => (add2 a m).bind fun s => dotO s xs ys
  | a, [], _ => some a
  | a, _ :: _, [] => some a
theorem dotO_G : ∀ (xs ys : List Fr) (a : Fr) (g : Bool), (∀ v, dotO a xs ys = some v → dotG a g xs ys = (v, g)) ∧ (dotO a xs ys = none → (dotG a g xs ys).2 = true)
  | [], ys, a, g => by simp [dotO, dotG]
  | x :: xs, [], a, g => by simp [dotO, dotG]
  | x :: xs, y :: ys, a, g => by
    have hg : ∀ (xs ys : List Fr) (a : Fr), (dotG a true xs ys).2 = true := by
      intro xs
      induction xs with
      | nil => intro ys a; rfl
      | cons x xs ih =>
        intro ys a
        cases ys with
        | nil => rfl
        | cons y ys => rw [dotG]; simpa using ih ys _
    rw [dotO, dotG]
    cases hm : mul2 x y with
    | none => simp [hg]
    | some m =>
      cases ha : add2 a m with
      | none => simp [valO, ha, hg]
      | some s => simpa [valO, ha] using dotO_G xs ys s g

noncomputable def sp_l02Dot : List AV → Option (AV) := pf (ι := (List Fr) × (List Fr)) (α := AV) (fun ⟨xs, ys⟩ => (allIn xs ∧ allIn ys) ∧ xs.length ≤ ys.length ∧ xs.length ≤ 1000000) (fun ⟨xs, ys⟩ => [.sl (frsA xs) false, .sl (frsA ys) false]) (fun ⟨xs, ys⟩ => frO (dotO ⟨0, 1⟩ xs ys))
theorem sp_l02Dot_eq (xs ys : List Fr) (h : (allIn xs ∧ allIn ys) ∧ xs.length ≤ ys.length ∧ xs.length ≤ 1000000) : sp_l02Dot [.sl (frsA xs) false, .sl (frsA ys) false] = some (frO (dotO ⟨0, 1⟩ xs ys)) := by
  unfold sp_l02Dot
  exact pf_eq (ι := (List Fr) × (List Fr)) (α := AV) (xs, ys) h (by rintro ⟨xs', ys'⟩ _ e; simp_all [Int.natCast_inj])
def allOk (l : List Fr) : Bool := l.all fun x => frOk x.p x.q
theorem frOk_in {p q : Int} (h : frOk p q = true) : frIn p q := by
  have := of_decide_eq_true h
  unfold frIn
  exact ⟨this.1, this.2.1⟩
theorem allOk_in {l : List Fr} (h : allOk l = true) : allIn l := fun x hx => frOk_in (List.all_eq_true.1 h x hx)
theorem allOk_false {l : List Fr} {i : Nat} (h : i < l.length) (hf : frOk l[i].p l[i].q = false) : allOk l = false := by
  unfold allOk
  rw [List.all_eq_false]
  exact ⟨l[i], List.getElem_mem h, by simp [hf]⟩
theorem allOk_step {l : List Fr} {i : Nat} (h : i < l.length) (h1 : allOk (l.take i) = true) (h2 : frOk l[i].p l[i].q = true) : allOk (l.take (i + 1)) = true := by
  rw [take_snoc l i h]
  unfold allOk at *
  rw [List.all_append, h1]
  simp [h2]

end Go.Proofs.YtjfoenibffdoeaaDoorAi
end

section
/- MADE BY PROGRAM (wip/tools/gen.py): the abstract code of functions. -/
namespace Go.Proofs.YtjfoenibffdoeaaDoorAi
open Go AC AOp Opd
set_option linter.unusedVariables false
set_option maxRecDepth 100000
def c_spec_l02List : AC := seq (reg [⟨(some 2), mv (c (.bool false)), none⟩]) (seq (seq (reg [⟨(some 3), mv (c (.int .i64 0)), none⟩]) (block 0 (loop (seq (seq (reg [⟨(some 4), mv (t 3), none⟩, ⟨(some 5), mv (t 0), none⟩, ⟨(some 6), len (t 5), none⟩, ⟨(some 7), bin .lss (t 4) (t 6), none⟩]) (cond (t 7) (skip) (exit 0))) (seq (block 1 (seq (reg [⟨(some 10), mv (t 0), none⟩, ⟨(some 11), mv (t 3), none⟩, ⟨(some 12), iad 2 (t 10) (t 11), none⟩, ⟨(some 13), ld (t 12) 2 true, none⟩, ⟨(some 14), callq (c (.fn 49 [])) [t 13], none⟩, ⟨(some 15), un .not (t 14), none⟩]) (cond (t 15) (seq (reg [⟨(some 2), mv (c (.bool false)), none⟩]) (ret)) (skip)))) (reg [⟨(some 8), mv (t 3), none⟩, ⟨(some 9), bin .add (t 8) (c (.int .i64 1)), none⟩, ⟨(some 3), mv (t 9), none⟩])))))) (seq (reg [⟨(some 16), mv (t 0), none⟩, ⟨(some 17), len (t 16), none⟩, ⟨(some 18), bin .leq (t 17) (c (.int .i64 256)), none⟩, ⟨(some 2), mv (t 18), none⟩]) (ret)))
def r_spec_l02List : List ARes := [.tmp 2]
theorem k_spec_l02List : acLin Go.Proofs.Tryd.prog 109 1 (inQ [49] []) [] = some (c_spec_l02List, r_spec_l02List) := by kernel_rfl
def c_spec_SumOfFractions : AC := seq (reg [⟨(some 2), alloc [.int .i64 0, .int .i64 0], none⟩, ⟨(some 3), mv (c (.int .i64 0)), none⟩]) (seq (seq (reg [⟨(some 8), mv (t 0), none⟩, ⟨(some 9), callq (c (.fn 109 [])) [t 8], none⟩, ⟨(some 10), un .not (t 9), none⟩]) (cond (t 10) (seq (reg [⟨(some 11), bld [.int .i64 0, .int .i64 0] [], none⟩, ⟨none, st (t 2) 2 (t 11), none⟩, ⟨(some 3), mv (c (.int .i64 1)), none⟩]) (ret)) (skip))) (seq (reg [⟨(some 12), callq (c (.fn 140 [])) [], none⟩, ⟨(some 4), alloc [.int .i64 0, .int .i64 0], none⟩, ⟨none, st (t 4) 2 (t 12), none⟩]) (seq (seq (reg [⟨(some 5), mv (c (.int .i64 0)), none⟩]) (block 0 (loop (seq (seq (reg [⟨(some 13), mv (t 5), none⟩, ⟨(some 14), mv (t 0), none⟩, ⟨(some 15), len (t 14), none⟩, ⟨(some 16), bin .lss (t 13) (t 15), none⟩]) (cond (t 16) (skip) (exit 0))) (seq (block 1 (seq (reg [⟨(some 20), ld (t 4) 2 true, none⟩, ⟨(some 21), mv (t 0), none⟩, ⟨(some 22), mv (t 5), none⟩, ⟨(some 23), iad 2 (t 21) (t 22), none⟩, ⟨(some 24), ld (t 23) 2 true, none⟩, ⟨(some 25), callq (c (.fn 141 [])) [t 20, t 24], none⟩, ⟨(some 19), mv (t 25), none⟩, ⟨(some 26), ext (t 19) 0, none⟩, ⟨(some 27), ext (t 19) 1, none⟩, ⟨(some 6), alloc [.int .i64 0, .int .i64 0], none⟩, ⟨none, st (t 6) 2 (t 26), none⟩, ⟨(some 7), mv (t 27), none⟩]) (seq (seq (reg [⟨(some 28), mv (t 7), none⟩, ⟨(some 29), bin .neq (t 28) (c (.int .i64 0)), none⟩]) (cond (t 29) (seq (reg [⟨(some 30), bld [.int .i64 0, .int .i64 0] [], none⟩, ⟨(some 31), mv (t 7), none⟩, ⟨none, st (t 2) 2 (t 30), none⟩, ⟨(some 3), mv (t 31), none⟩]) (ret)) (skip))) (reg [⟨(some 32), ld (t 6) 2 true, none⟩, ⟨none, st (t 4) 2 (t 32), none⟩])))) (reg [⟨(some 17), mv (t 5), none⟩, ⟨(some 18), bin .add (t 17) (c (.int .i64 1)), none⟩, ⟨(some 5), mv (t 18), none⟩])))))) (seq (reg [⟨(some 33), ld (t 4) 2 true, none⟩, ⟨none, st (t 2) 2 (t 33), none⟩, ⟨(some 3), mv (c (.int .i64 0)), none⟩]) (ret)))))
def r_spec_SumOfFractions : List ARes := [.cell 2 2 true, .tmp 3]
theorem k_spec_SumOfFractions : acLin Go.Proofs.Tryd.prog 110 1 (inQ [109, 140, 141] []) [⟨false, none, [], [], none⟩, ⟨false, none, [], [], none⟩, ⟨false, none, [], [], none⟩, ⟨false, none, [], [], none⟩, ⟨false, none, [], [], none⟩, ⟨false, none, [], [], none⟩, ⟨false, none, [], [], none⟩, ⟨false, none, [], [], none⟩, ⟨false, some [0, 1, 2, 3, 4, 5, 6, 7, 8, 9, 10, 11], [], [], none⟩] = some (c_spec_SumOfFractions, r_spec_SumOfFractions) := by kernel_rfl
def c_impl_shapeOk : AC := seq (reg [⟨(some 2), box 2 (t 0), none⟩, ⟨(some 4), mv (c (.bool false)), none⟩]) (seq (reg [⟨(some 5), ld (t 2) 2 true, none⟩, ⟨(some 6), callq (c (.fn 61 [])) [t 5], none⟩, ⟨(some 7), mv (t 6), none⟩, ⟨(some 8), fad (t 2) 0, some (7, true)⟩, ⟨(some 9), ld (t 8) 1 false, some (7, true)⟩, ⟨(some 10), callq (c (.fn 98 [])) [t 9, c (.int .i64 1), c (.int .i64 4)], some (7, true)⟩, ⟨(some 11), pick (t 7) (t 10) (c (.bool false)), none⟩, ⟨(some 12), mv (t 11), none⟩, ⟨(some 13), mv (t 1), some (12, true)⟩, ⟨(some 14), fad (t 2) 0, some (12, true)⟩, ⟨(some 15), ld (t 14) 1 false, some (12, true)⟩, ⟨(some 16), bin .shr (t 13) (t 15), some (12, true)⟩, ⟨(some 17), bin .eql (t 16) (c (.int .u32 0)), some (12, true)⟩, ⟨(some 18), pick (t 12) (t 17) (c (.bool false)), none⟩, ⟨(some 4), mv (t 18), none⟩]) (ret))
def r_impl_shapeOk : List ARes := [.tmp 4]
theorem k_impl_shapeOk : acLin Go.Proofs.Tryd.prog 112 2 (inQ [61, 98] []) [] = some (c_impl_shapeOk, r_impl_shapeOk) := by kernel_rfl
def c_spec_l07Form : AC := seq (reg [⟨(some 2), box 2 (t 0), none⟩, ⟨(some 4), mv (c (.bool false)), none⟩]) (seq (reg [⟨(some 5), fad (t 2) 0, none⟩, ⟨(some 6), ld (t 5) 1 false, none⟩, ⟨(some 7), callq (c (.fn 95 [])) [t 6, c (.int .i64 1), c (.int .i64 4)], none⟩, ⟨(some 8), mv (t 7), none⟩, ⟨(some 9), mv (t 1), some (8, true)⟩, ⟨(some 10), conv .i64 (t 9), some (8, true)⟩, ⟨(some 11), fad (t 2) 0, some (8, true)⟩, ⟨(some 12), ld (t 11) 1 false, some (8, true)⟩, ⟨(some 13), conv .u64 (t 12), some (8, true)⟩, ⟨(some 14), bin .shl (c (.int .i64 1)) (t 13), some (8, true)⟩, ⟨(some 15), bin .lss (t 10) (t 14), some (8, true)⟩, ⟨(some 16), pick (t 8) (t 15) (c (.bool false)), none⟩, ⟨(some 4), mv (t 16), none⟩]) (ret))
def r_spec_l07Form : List ARes := [.tmp 4]
theorem k_spec_l07Form : acLin Go.Proofs.Tryd.prog 108 2 (inQ [95] []) [] = some (c_spec_l07Form, r_spec_l07Form) := by kernel_rfl
def c_spec_l07Ok : AC := seq (reg [⟨(some 2), mv (c (.bool false)), none⟩]) (seq (seq (reg [⟨(some 6), mv (t 0), none⟩, ⟨(some 7), nilc (t 6), none⟩, ⟨(some 8), fad (t 7) 0, none⟩, ⟨(some 9), ld (t 8) 2 true, none⟩, ⟨(some 10), callq (c (.fn 59 [])) [t 9], none⟩, ⟨(some 11), un .not (t 10), none⟩, ⟨(some 12), mv (t 11), none⟩, ⟨(some 13), mv (t 0), some (12, false)⟩, ⟨(some 14), nilc (t 13), some (12, false)⟩, ⟨(some 15), fad (t 14) 0, some (12, false)⟩, ⟨(some 16), ld (t 15) 2 true, some (12, false)⟩, ⟨(some 17), mv (t 0), some (12, false)⟩, ⟨(some 18), nilc (t 17), some (12, false)⟩, ⟨(some 19), fad (t 18) 2, some (12, false)⟩, ⟨(some 20), ld (t 19) 1 false, some (12, false)⟩, ⟨(some 21), callq (c (.fn 108 [])) [t 16, t 20], some (12, false)⟩, ⟨(some 22), un .not (t 21), some (12, false)⟩, ⟨(some 23), pick (t 12) (c (.bool true)) (t 22), none⟩, ⟨(some 24), mv (t 23), none⟩, ⟨(some 25), mv (t 0), some (24, false)⟩, ⟨(some 26), nilc (t 25), some (24, false)⟩, ⟨(some 27), fad (t 26) 3, some (24, false)⟩, ⟨(some 28), ld (t 27) 1 false, some (24, false)⟩, ⟨(some 29), len (t 28), some (24, false)⟩, ⟨(some 30), mv (t 0), some (24, false)⟩, ⟨(some 31), nilc (t 30), some (24, false)⟩, ⟨(some 32), fad (t 31) 0, some (24, false)⟩, ⟨(some 33), fad (t 32) 0, some (24, false)⟩, ⟨(some 34), ld (t 33) 1 false, some (24, false)⟩, ⟨(some 35), bin .neq (t 29) (t 34), some (24, false)⟩, ⟨(some 36), pick (t 24) (c (.bool true)) (t 35), none⟩, ⟨(some 37), mv (t 36), none⟩, ⟨(some 38), mv (t 0), some (37, false)⟩, ⟨(some 39), nilc (t 38), some (37, false)⟩, ⟨(some 40), fad (t 39) 3, some (37, false)⟩, ⟨(some 41), ld (t 40) 1 false, some (37, false)⟩, ⟨(some 42), callq (c (.fn 109 [])) [t 41], some (37, false)⟩, ⟨(some 43), un .not (t 42), some (37, false)⟩, ⟨(some 44), pick (t 37) (c (.bool true)) (t 43), none⟩]) (cond (t 44) (seq (reg [⟨(some 2), mv (c (.bool false)), none⟩]) (ret)) (skip))) (seq (seq (reg [⟨(some 3), mv (c (.int .i64 0)), none⟩]) (block 0 (loop (seq (seq (reg [⟨(some 45), mv (t 3), none⟩, ⟨(some 46), mv (t 0), none⟩, ⟨(some 47), nilc (t 46), none⟩, ⟨(some 48), fad (t 47) 3, none⟩, ⟨(some 49), ld (t 48) 1 false, none⟩, ⟨(some 50), len (t 49), none⟩, ⟨(some 51), bin .lss (t 45) (t 50), none⟩]) (cond (t 51) (skip) (exit 0))) (seq (block 1 (seq (reg [⟨(some 54), mv (t 0), none⟩, ⟨(some 55), nilc (t 54), none⟩, ⟨(some 56), fad (t 55) 3, none⟩, ⟨(some 57), ld (t 56) 1 false, none⟩, ⟨(some 58), mv (t 3), none⟩, ⟨(some 59), iad 2 (t 57) (t 58), none⟩, ⟨(some 60), fad (t 59) 0, none⟩, ⟨(some 61), ld (t 60) 1 false, none⟩, ⟨(some 62), bin .lss (t 61) (c (.int .i64 0)), none⟩]) (cond (t 62) (seq (reg [⟨(some 2), mv (c (.bool false)), none⟩]) (ret)) (skip)))) (reg [⟨(some 52), mv (t 3), none⟩, ⟨(some 53), bin .add (t 52) (c (.int .i64 1)), none⟩, ⟨(some 3), mv (t 53), none⟩])))))) (seq (reg [⟨(some 64), mv (t 0), none⟩, ⟨(some 65), nilc (t 64), none⟩, ⟨(some 66), fad (t 65) 3, none⟩, ⟨(some 67), ld (t 66) 1 false, none⟩, ⟨(some 68), callq (c (.fn 110 [])) [t 67], none⟩, ⟨(some 63), mv (t 68), none⟩, ⟨(some 69), ext (t 63) 0, none⟩, ⟨(some 70), ext (t 63) 1, none⟩, ⟨(some 4), alloc [.int .i64 0, .int .i64 0], none⟩, ⟨none, st (t 4) 2 (t 69), none⟩, ⟨(some 5), mv (t 70), none⟩]) (seq (reg [⟨(some 71), mv (t 5), none⟩, ⟨(some 72), bin .eql (t 71) (c (.int .i64 0)), none⟩, ⟨(some 73), mv (t 72), none⟩, ⟨(some 74), ld (t 4) 2 true, some (73, true)⟩, ⟨(some 75), callq (c (.fn 111 [])) [c (.int .i64 1)], some (73, true)⟩, ⟨(some 76), eqs false [.i .i64, .i .i64] (t 74) (t 75), some (73, true)⟩, ⟨(some 77), pick (t 73) (t 76) (c (.bool false)), none⟩, ⟨(some 2), mv (t 77), none⟩]) (ret)))))
def r_spec_l07Ok : List ARes := [.tmp 2]
theorem k_spec_l07Ok : acLin Go.Proofs.Tryd.prog 72 1 (inQ [59, 108, 109, 110, 111] []) [⟨false, none, [], [], none⟩, ⟨false, some [0, 1, 2, 3, 4, 5, 6, 7, 8, 9, 10, 11, 12, 13, 14, 15, 16, 17, 18, 19, 20, 21, 22, 23, 24, 25, 26, 27, 28, 29, 30, 31, 32, 33, 34, 35, 36, 37, 38], [], [], none⟩, ⟨false, none, [], [], none⟩, ⟨false, none, [], [], none⟩, ⟨false, none, [], [], none⟩, ⟨false, none, [], [], none⟩, ⟨false, none, [], [], none⟩, ⟨false, none, [], [], none⟩, ⟨false, none, [], [], none⟩, ⟨false, none, [], [], none⟩, ⟨false, none, [], [], none⟩, ⟨false, none, [], [], none⟩, ⟨false, some [0, 1, 2, 3, 4, 5, 6, 7], [], [], none⟩] = some (c_spec_l07Ok, r_spec_l07Ok) := by kernel_rfl
def c_impl_ValidPattern : AC := seq (reg [⟨(some 1), box 4 (t 0), none⟩, ⟨(some 2), mv (c (.bool false)), none⟩]) (seq (seq (reg [⟨(some 7), fad (t 1) 0, none⟩, ⟨(some 8), ld (t 7) 2 true, none⟩, ⟨(some 9), fad (t 1) 2, none⟩, ⟨(some 10), ld (t 9) 1 false, none⟩, ⟨(some 11), callq (c (.fn 112 [])) [t 8, t 10], none⟩, ⟨(some 12), un .not (t 11), none⟩, ⟨(some 13), mv (t 12), none⟩, ⟨(some 14), fad (t 1) 3, some (13, false)⟩, ⟨(some 15), ld (t 14) 1 false, some (13, false)⟩, ⟨(some 16), len (t 15), some (13, false)⟩, ⟨(some 17), fad (t 1) 0, some (13, false)⟩, ⟨(some 18), fad (t 17) 0, some (13, false)⟩, ⟨(some 19), ld (t 18) 1 false, some (13, false)⟩, ⟨(some 20), bin .neq (t 16) (t 19), some (13, false)⟩, ⟨(some 21), pick (t 13) (c (.bool true)) (t 20), none⟩]) (cond (t 21) (seq (reg [⟨(some 2), mv (c (.bool false)), none⟩]) (ret)) (skip))) (seq (reg [⟨(some 22), bld [.bool false] [], none⟩, ⟨(some 23), callq (c (.fn 113 [])) [], none⟩, ⟨(some 3), alloc [.bool false], none⟩, ⟨(some 4), alloc [.int .i64 0, .int .i64 0], none⟩, ⟨none, st (t 3) 1 (t 22), none⟩, ⟨none, st (t 4) 2 (t 23), none⟩]) (seq (seq (reg [⟨(some 24), fad (t 1) 3, none⟩, ⟨(some 25), ld (t 24) 1 false, none⟩, ⟨(some 26), len (t 25), none⟩, ⟨(some 27), mv (c (.int .i64 0)), none⟩]) (block 0 (loop (seq (reg [⟨(some 28), bin .lss (t 27) (t 26), none⟩]) (seq (cond (t 28) (skip) (exit 0)) (seq (block 1 (seq (reg [⟨(some 29), iad 2 (t 25) (t 27), none⟩, ⟨(some 30), ld (t 29) 2 true, none⟩, ⟨(some 6), alloc [.int .i64 0, .int .i64 0], none⟩, ⟨none, st (t 6) 2 (t 30), none⟩]) (seq (seq (reg [⟨(some 31), ld (t 6) 2 true, none⟩, ⟨(some 32), callq (c (.fn 114 [])) [t 31], none⟩, ⟨(some 33), mv (t 32), none⟩, ⟨(some 34), fad (t 6) 0, some (33, false)⟩, ⟨(some 35), ld (t 34) 1 false, some (33, false)⟩, ⟨(some 36), bin .lss (t 35) (c (.int .i64 0)), some (33, false)⟩, ⟨(some 37), pick (t 33) (c (.bool true)) (t 36), none⟩]) (cond (t 37) (seq (reg [⟨(some 2), mv (c (.bool false)), none⟩]) (ret)) (skip))) (reg [⟨(some 38), ld (t 4) 2 true, none⟩, ⟨(some 39), ld (t 6) 2 true, none⟩, ⟨(some 40), calle (c (.fn 115 [])) [t 3, t 38, t 39] [], none⟩, ⟨none, st (t 4) 2 (t 40), none⟩])))) (reg [⟨(some 41), bin .add (t 27) (c (.int .i64 1)), none⟩, ⟨(some 27), mv (t 41), none⟩]))))))) (seq (reg [⟨(some 42), fad (t 3) 0, none⟩, ⟨(some 43), ld (t 42) 1 false, none⟩, ⟨(some 44), un .not (t 43), none⟩, ⟨(some 45), mv (t 44), none⟩, ⟨(some 46), ld (t 4) 2 true, some (45, true)⟩, ⟨(some 47), callq (c (.fn 116 [])) [], some (45, true)⟩, ⟨(some 48), eqs false [.i .i64, .i .i64] (t 46) (t 47), some (45, true)⟩, ⟨(some 49), pick (t 45) (t 48) (c (.bool false)), none⟩, ⟨(some 2), mv (t 49), none⟩]) (ret)))))
def r_impl_ValidPattern : List ARes := [.tmp 2]
theorem k_impl_ValidPattern : acLin Go.Proofs.Tryd.prog 74 1 (inQ [112, 113, 114, 116] [115]) [⟨false, none, [], [], none⟩, ⟨false, none, [], [], none⟩, ⟨false, none, [], [], none⟩, ⟨false, none, [], [], none⟩, ⟨false, none, [], [], none⟩, ⟨false, none, [], [], none⟩, ⟨false, none, [], [], none⟩, ⟨false, none, [], [], none⟩, ⟨false, none, [], [], none⟩, ⟨false, none, [], [], none⟩, ⟨false, none, [], [], none⟩, ⟨false, none, [], [], none⟩, ⟨false, none, [], [], none⟩, ⟨false, none, [], [], none⟩, ⟨false, some [0, 1, 2, 3, 4, 5, 6, 7, 8], [], [], none⟩] = some (c_impl_ValidPattern, r_impl_ValidPattern) := by kernel_rfl
def c_laws_szFractionS : AC := seq (reg [⟨(some 4), mv (c (.int .i64 0)), none⟩]) (seq (reg [⟨(some 5), mv (t 1), none⟩, ⟨(some 6), mv (t 0), none⟩, ⟨(some 7), len (t 6), none⟩, ⟨(some 8), bin .sub (t 5) (t 7), none⟩, ⟨(some 1), mv (t 8), none⟩]) (seq (seq (reg [⟨(some 9), mv (t 1), none⟩, ⟨(some 10), bin .lss (t 9) (c (.int .i64 0)), none⟩]) (cond (t 10) (seq (reg [⟨(some 4), mv (c (.int .i64 (-1))), none⟩]) (ret)) (skip))) (seq (reg [⟨(some 11), mv (t 1), none⟩, ⟨(some 4), mv (t 11), none⟩]) (ret))))
def r_laws_szFractionS : List ARes := [.tmp 4]
theorem k_laws_szFractionS : acLin Go.Proofs.Tryd.prog 66 2 (inQ [] []) [] = some (c_laws_szFractionS, r_laws_szFractionS) := by kernel_rfl
def c_laws_szPattern : AC := seq (reg [⟨(some 2), box 4 (t 0), none⟩, ⟨(some 4), mv (c (.int .i64 0)), none⟩]) (seq (reg [⟨(some 5), fad (t 2) 3, none⟩, ⟨(some 6), ld (t 5) 1 false, none⟩, ⟨(some 7), mv (t 1), none⟩, ⟨(some 8), callq (c (.fn 66 [])) [t 6, t 7], none⟩, ⟨(some 1), mv (t 8), none⟩]) (seq (seq (reg [⟨(some 9), mv (t 1), none⟩, ⟨(some 10), bin .lss (t 9) (c (.int .i64 0)), none⟩]) (cond (t 10) (seq (reg [⟨(some 4), mv (c (.int .i64 (-1))), none⟩]) (ret)) (skip))) (seq (reg [⟨(some 11), mv (t 1), none⟩, ⟨(some 4), mv (t 11), none⟩]) (ret))))
def r_laws_szPattern : List ARes := [.tmp 4]
theorem k_laws_szPattern : acLin Go.Proofs.Tryd.prog 30 2 (inQ [66] []) [] = some (c_laws_szPattern, r_laws_szPattern) := by kernel_rfl
def c_laws_toFraction : AC := seq (reg [⟨(some 1), box 2 (t 0), none⟩, ⟨(some 2), alloc [.int .i64 0, .int .i64 0], none⟩]) (seq (reg [⟨(some 3), alloc [.int .i64 0, .int .i64 0], none⟩]) (seq (reg [⟨(some 4), fad (t 1) 0, none⟩, ⟨(some 5), ld (t 4) 1 false, none⟩, ⟨(some 6), fad (t 3) 0, none⟩, ⟨none, st (t 6) 1 (t 5), none⟩]) (seq (reg [⟨(some 7), fad (t 1) 1, none⟩, ⟨(some 8), ld (t 7) 1 false, none⟩, ⟨(some 9), fad (t 3) 1, none⟩, ⟨none, st (t 9) 1 (t 8), none⟩]) (seq (reg [⟨(some 10), ld (t 3) 2 true, none⟩, ⟨none, st (t 2) 2 (t 10), none⟩]) (ret)))))
def r_laws_toFraction : List ARes := [.cell 2 2 true]
theorem k_laws_toFraction : acLin Go.Proofs.Tryd.prog 14 1 (inQ [] []) [] = some (c_laws_toFraction, r_laws_toFraction) := by kernel_rfl
def c_laws_toFractionS : AC := seq (reg [⟨(some 2), mv (c (.sl [] true)), none⟩]) (seq (reg [⟨(some 5), mv (t 0), none⟩, ⟨(some 6), len (t 5), none⟩, ⟨(some 7), mks 2 16 [.int .i64 0, .int .i64 0] (t 6) (t 6), none⟩, ⟨(some 3), mv (t 7), none⟩]) (seq (seq (reg [⟨(some 4), mv (c (.int .i64 0)), none⟩]) (block 0 (loop (seq (seq (reg [⟨(some 8), mv (t 4), none⟩, ⟨(some 9), mv (t 0), none⟩, ⟨(some 10), len (t 9), none⟩, ⟨(some 11), bin .lss (t 8) (t 10), none⟩]) (cond (t 11) (skip) (exit 0))) (seq (block 1 (reg [⟨(some 14), mv (t 3), none⟩, ⟨(some 15), mv (t 4), none⟩, ⟨(some 16), mv (t 0), none⟩, ⟨(some 17), mv (t 4), none⟩, ⟨(some 18), iad 2 (t 16) (t 17), none⟩, ⟨(some 19), ld (t 18) 2 true, none⟩, ⟨(some 20), callq (c (.fn 14 [])) [t 19], none⟩, ⟨(some 21), iad 2 (t 14) (t 15), none⟩, ⟨none, st (t 21) 2 (t 20), none⟩])) (reg [⟨(some 12), mv (t 4), none⟩, ⟨(some 13), bin .add (t 12) (c (.int .i64 1)), none⟩, ⟨(some 4), mv (t 13), none⟩])))))) (seq (reg [⟨(some 22), mv (t 3), none⟩, ⟨(some 2), mv (t 22), none⟩]) (seq shift (ret)))))
def r_laws_toFractionS : List ARes := [.tmp 2]
theorem k_laws_toFractionS : acLin Go.Proofs.Tryd.prog 68 1 (inQ [14] []) [⟨false, none, [], [], none⟩, ⟨false, none, [], [], none⟩, ⟨false, none, [], [], none⟩, ⟨false, none, [], [], none⟩, ⟨false, none, [], [], none⟩, ⟨false, none, [], [], none⟩, ⟨false, none, [], [], none⟩, ⟨false, none, [], [], none⟩, ⟨true, none, [], [], none⟩] = some (c_laws_toFractionS, r_laws_toFractionS) := by kernel_rfl
def c_laws_toGraph : AC := seq (reg [⟨(some 1), box 2 (t 0), none⟩, ⟨(some 2), alloc [.int .i64 0, .int .u32 0], none⟩]) (seq (reg [⟨(some 3), alloc [.int .i64 0, .int .u32 0], none⟩]) (seq (reg [⟨(some 4), fad (t 1) 0, none⟩, ⟨(some 5), ld (t 4) 1 false, none⟩, ⟨(some 6), fad (t 3) 0, none⟩, ⟨none, st (t 6) 1 (t 5), none⟩]) (seq (reg [⟨(some 7), fad (t 1) 1, none⟩, ⟨(some 8), ld (t 7) 1 false, none⟩, ⟨(some 9), fad (t 3) 1, none⟩, ⟨none, st (t 9) 1 (t 8), none⟩]) (seq (reg [⟨(some 10), ld (t 3) 2 true, none⟩, ⟨none, st (t 2) 2 (t 10), none⟩]) (ret)))))
def r_laws_toGraph : List ARes := [.cell 2 2 true]
theorem k_laws_toGraph : acLin Go.Proofs.Tryd.prog 20 1 (inQ [] []) [] = some (c_laws_toGraph, r_laws_toGraph) := by kernel_rfl
def c_laws_toPattern : AC := seq (reg [⟨(some 1), box 4 (t 0), none⟩, ⟨(some 2), alloc [.int .i64 0, .int .u32 0, .int .u32 0, .sl [] true], none⟩]) (seq (reg [⟨(some 3), alloc [.int .i64 0, .int .u32 0, .int .u32 0, .sl [] true], none⟩]) (seq (reg [⟨(some 4), fad (t 1) 0, none⟩, ⟨(some 5), ld (t 4) 2 true, none⟩, ⟨(some 6), callq (c (.fn 20 [])) [t 5], none⟩, ⟨(some 7), fad (t 3) 0, none⟩, ⟨none, st (t 7) 2 (t 6), none⟩]) (seq (reg [⟨(some 8), fad (t 1) 2, none⟩, ⟨(some 9), ld (t 8) 1 false, none⟩, ⟨(some 10), fad (t 3) 2, none⟩, ⟨none, st (t 10) 1 (t 9), none⟩]) (seq (reg [⟨(some 11), fad (t 1) 3, none⟩, ⟨(some 12), ld (t 11) 1 false, none⟩, ⟨(some 13), callq (c (.fn 68 [])) [t 12], none⟩, ⟨(some 14), fad (t 3) 3, none⟩, ⟨none, st (t 14) 1 (t 13), none⟩]) (seq (reg [⟨(some 15), ld (t 3) 4 true, none⟩, ⟨none, st (t 2) 4 (t 15), none⟩]) (ret))))))
def r_laws_toPattern : List ARes := [.cell 2 4 true]
theorem k_laws_toPattern : acLin Go.Proofs.Tryd.prog 32 1 (inQ [20, 68] []) [] = some (c_laws_toPattern, r_laws_toPattern) := by kernel_rfl
def c_laws_eqFraction : AC := seq (reg [⟨(some 2), box 2 (t 0), none⟩, ⟨(some 3), box 2 (t 1), none⟩, ⟨(some 4), mv (c (.bool false)), none⟩]) (seq (seq (reg [⟨(some 5), fad (t 2) 0, none⟩, ⟨(some 6), ld (t 5) 1 false, none⟩, ⟨(some 7), fad (t 3) 0, none⟩, ⟨(some 8), ld (t 7) 1 false, none⟩, ⟨(some 9), bin .neq (t 6) (t 8), none⟩]) (cond (t 9) (seq (reg [⟨(some 4), mv (c (.bool false)), none⟩]) (ret)) (skip))) (seq (seq (reg [⟨(some 10), fad (t 2) 1, none⟩, ⟨(some 11), ld (t 10) 1 false, none⟩, ⟨(some 12), fad (t 3) 1, none⟩, ⟨(some 13), ld (t 12) 1 false, none⟩, ⟨(some 14), bin .neq (t 11) (t 13), none⟩]) (cond (t 14) (seq (reg [⟨(some 4), mv (c (.bool false)), none⟩]) (ret)) (skip))) (seq (reg [⟨(some 4), mv (c (.bool true)), none⟩]) (ret))))
def r_laws_eqFraction : List ARes := [.tmp 4]
theorem k_laws_eqFraction : acLin Go.Proofs.Tryd.prog 42 2 (inQ [] []) [] = some (c_laws_eqFraction, r_laws_eqFraction) := by kernel_rfl
def c_laws_eqFractionS : AC := seq (reg [⟨(some 4), mv (c (.bool false)), none⟩]) (seq (seq (reg [⟨(some 6), mv (t 0), none⟩, ⟨(some 7), len (t 6), none⟩, ⟨(some 8), mv (t 1), none⟩, ⟨(some 9), len (t 8), none⟩, ⟨(some 10), bin .neq (t 7) (t 9), none⟩]) (cond (t 10) (seq (reg [⟨(some 4), mv (c (.bool false)), none⟩]) (ret)) (skip))) (seq (seq (reg [⟨(some 5), mv (c (.int .i64 0)), none⟩]) (block 0 (loop (seq (seq (reg [⟨(some 11), mv (t 5), none⟩, ⟨(some 12), mv (t 0), none⟩, ⟨(some 13), len (t 12), none⟩, ⟨(some 14), bin .lss (t 11) (t 13), none⟩]) (cond (t 14) (skip) (exit 0))) (seq (block 1 (seq (reg [⟨(some 17), mv (t 0), none⟩, ⟨(some 18), mv (t 5), none⟩, ⟨(some 19), iad 2 (t 17) (t 18), none⟩, ⟨(some 20), ld (t 19) 2 true, none⟩, ⟨(some 21), mv (t 1), none⟩, ⟨(some 22), mv (t 5), none⟩, ⟨(some 23), iad 2 (t 21) (t 22), none⟩, ⟨(some 24), ld (t 23) 2 true, none⟩, ⟨(some 25), callq (c (.fn 42 [])) [t 20, t 24], none⟩, ⟨(some 26), un .not (t 25), none⟩]) (cond (t 26) (seq (reg [⟨(some 4), mv (c (.bool false)), none⟩]) (ret)) (skip)))) (reg [⟨(some 15), mv (t 5), none⟩, ⟨(some 16), bin .add (t 15) (c (.int .i64 1)), none⟩, ⟨(some 5), mv (t 16), none⟩])))))) (seq (reg [⟨(some 4), mv (c (.bool true)), none⟩]) (ret))))
def r_laws_eqFractionS : List ARes := [.tmp 4]
theorem k_laws_eqFractionS : acLin Go.Proofs.Tryd.prog 71 2 (inQ [42] []) [⟨false, none, [], [], none⟩, ⟨false, none, [], [], none⟩, ⟨false, none, [], [], none⟩, ⟨false, none, [], [], none⟩, ⟨false, none, [], [], none⟩, ⟨false, none, [], [], none⟩, ⟨false, none, [], [], none⟩, ⟨false, some [0, 1, 2, 3, 4, 5, 6, 7, 8, 9], [], [], none⟩] = some (c_laws_eqFractionS, r_laws_eqFractionS) := by kernel_rfl
def c_laws_eqGraph : AC := seq (reg [⟨(some 2), box 2 (t 0), none⟩, ⟨(some 3), box 2 (t 1), none⟩, ⟨(some 4), mv (c (.bool false)), none⟩]) (seq (seq (reg [⟨(some 5), fad (t 2) 0, none⟩, ⟨(some 6), ld (t 5) 1 false, none⟩, ⟨(some 7), fad (t 3) 0, none⟩, ⟨(some 8), ld (t 7) 1 false, none⟩, ⟨(some 9), bin .neq (t 6) (t 8), none⟩]) (cond (t 9) (seq (reg [⟨(some 4), mv (c (.bool false)), none⟩]) (ret)) (skip))) (seq (seq (reg [⟨(some 10), fad (t 2) 1, none⟩, ⟨(some 11), ld (t 10) 1 false, none⟩, ⟨(some 12), fad (t 3) 1, none⟩, ⟨(some 13), ld (t 12) 1 false, none⟩, ⟨(some 14), bin .neq (t 11) (t 13), none⟩]) (cond (t 14) (seq (reg [⟨(some 4), mv (c (.bool false)), none⟩]) (ret)) (skip))) (seq (reg [⟨(some 4), mv (c (.bool true)), none⟩]) (ret))))
def r_laws_eqGraph : List ARes := [.tmp 4]
theorem k_laws_eqGraph : acLin Go.Proofs.Tryd.prog 45 2 (inQ [] []) [] = some (c_laws_eqGraph, r_laws_eqGraph) := by kernel_rfl
def c_laws_eqPattern : AC := seq (reg [⟨(some 2), box 4 (t 0), none⟩, ⟨(some 3), box 4 (t 1), none⟩, ⟨(some 4), mv (c (.bool false)), none⟩]) (seq (seq (reg [⟨(some 5), fad (t 2) 0, none⟩, ⟨(some 6), ld (t 5) 2 true, none⟩, ⟨(some 7), fad (t 3) 0, none⟩, ⟨(some 8), ld (t 7) 2 true, none⟩, ⟨(some 9), callq (c (.fn 45 [])) [t 6, t 8], none⟩, ⟨(some 10), un .not (t 9), none⟩]) (cond (t 10) (seq (reg [⟨(some 4), mv (c (.bool false)), none⟩]) (ret)) (skip))) (seq (seq (reg [⟨(some 11), fad (t 2) 2, none⟩, ⟨(some 12), ld (t 11) 1 false, none⟩, ⟨(some 13), fad (t 3) 2, none⟩, ⟨(some 14), ld (t 13) 1 false, none⟩, ⟨(some 15), bin .neq (t 12) (t 14), none⟩]) (cond (t 15) (seq (reg [⟨(some 4), mv (c (.bool false)), none⟩]) (ret)) (skip))) (seq (seq (reg [⟨(some 16), fad (t 2) 3, none⟩, ⟨(some 17), ld (t 16) 1 false, none⟩, ⟨(some 18), fad (t 3) 3, none⟩, ⟨(some 19), ld (t 18) 1 false, none⟩, ⟨(some 20), callq (c (.fn 71 [])) [t 17, t 19], none⟩, ⟨(some 21), un .not (t 20), none⟩]) (cond (t 21) (seq (reg [⟨(some 4), mv (c (.bool false)), none⟩]) (ret)) (skip))) (seq (reg [⟨(some 4), mv (c (.bool true)), none⟩]) (ret)))))
def r_laws_eqPattern : List ARes := [.tmp 4]
theorem k_laws_eqPattern : acLin Go.Proofs.Tryd.prog 34 2 (inQ [45, 71] []) [] = some (c_laws_eqPattern, r_laws_eqPattern) := by kernel_rfl
end Go.Proofs.YtjfoenibffdoeaaDoorAi
end

section
/- Contracts: validity of patterns. -/
namespace Go.Proofs.YtjfoenibffdoeaaDoorAi
open Go Go.RowKit
set_option linter.unusedVariables false
set_option linter.unusedSimpArgs false

noncomputable def sp_l02List : List AV → Option (AV) := pf (ι := (List Fr)) (α := AV) (fun l => l.length ≤ maxLen) (fun l => [.sl (frsA l) false]) (fun l => .bool (allOk l && decide (l.length ≤ 256)))
theorem sp_l02List_eq (l : List Fr) (h : l.length ≤ maxLen) : sp_l02List [.sl (frsA l) false] = some (.bool (allOk l && decide (l.length ≤ 256))) := by
  unfold sp_l02List
  exact pf_eq (ι := (List Fr)) (α := AV) l h (by rintro l' _ e; simp_all [Int.natCast_inj])
theorem q_spec_l02List : QP PP 109 sp_l02List := by
  refine QP_pf (fun l h => ?_) fun l h => ?_
  · exact ⟨by first | rfl | simp, by first | rfl | simp⟩
  replace h : l.length ≤ maxLen := h
  refine P_code (Quiet.q1 q_spec_l02Ok Quiet.nil) hmix k_spec_l02List rfl ?_ ?_
  · first | rfl | simp
  show wpc 0 PP _ c_spec_l02List (initSt [.sl (frsA l) false] .nil) (endP r_spec_l02List (.bool (allOk l && decide (l.length ≤ 256))))
  simp only [maxLen] at h
  simp -dsimp -implicitDefEqProofs [c_spec_l02List, r_spec_l02List]
  refine wpLoop_st (fun (i : Nat) => ⟨tl [(0, .sl (frsA l) false), (3, .int .i64 i)], ⟨[]⟩⟩) (fun i => i ≤ l.length ∧ allOk (l.take i) = true) (fun i => l.length - i) 0 ⟨Nat.zero_le _, rfl⟩ (Sub.keep (by simp) (by simp [hsub]) (by simp)) ?_
  rintro i ⟨h1, h2⟩
  simp -dsimp -implicitDefEqProofs
  refine brW_of (fun h => ?_) (fun h => ?_) <;> simp only [decide_eq_true_eq, decide_eq_false_iff_not] at h
  · have hi : i < l.length := by omega
    have hw := wrapNat (i := i) (by omega)
    cases hv : frOk l[i].p l[i].q with
    | false => simp -dsimp -implicitDefEqProofs [hi, hw, hv, allOk_false hi hv]
    | true =>
      simp -dsimp -implicitDefEqProofs [hi, hw, hv]
      exact .mk (i + 1) ⟨by omega, allOk_step hi h2 hv⟩ (by omega) (Sub.keep (by simp) (by simp [hsub]) (by simp))
  · have hi' : i = l.length := by omega
    rw [hi', List.take_length] at h2
    simp -dsimp -implicitDefEqProofs [h2]
    omega

def sumO : Fr → List Fr → Option Fr
  | a, [] => some a
  | a, x :: xs => (add2 a x).bind fun s => sumO s xs
def sumA (l : List Fr) : AV := if allOk l = true ∧ l.length ≤ 256 then frO (sumO ⟨0, 1⟩ l) else .tup [.agg [.int .i64 0, .int .i64 0], .int .i64 1]
@[simp] theorem sumA_lt (l : List Fr) (n : Nat) : (sumA l).lt n = true := by unfold sumA; split <;> first | simp | rfl
noncomputable def sp_Sum : List AV → Option (AV) := pf (ι := (List Fr)) (α := AV) (fun l => l.length ≤ maxLen) (fun l => [.sl (frsA l) false]) (fun l => sumA l)
theorem sp_Sum_eq (l : List Fr) (h : l.length ≤ maxLen) : sp_Sum [.sl (frsA l) false] = some (sumA l) := by
  unfold sp_Sum
  exact pf_eq (ι := (List Fr)) (α := AV) l h (by rintro l' _ e; simp_all [Int.natCast_inj])
theorem q_spec_SumOfFractions : QP PP 110 sp_Sum := by
  refine QP_pf (fun l h => ?_) fun l h => ?_
  · exact ⟨by first | rfl | simp, by first | rfl | simp⟩
  replace h : l.length ≤ maxLen := h
  refine P_code (Quiet.q1 q_spec_l02List (Quiet.q1 q_spec_l02Zero (Quiet.q1 q_spec_l02Add Quiet.nil))) hmix k_spec_SumOfFractions rfl ?_ ?_
  · first | rfl | simp
  show wpc 0 PP _ c_spec_SumOfFractions (initSt [.sl (frsA l) false] .nil) (endP r_spec_SumOfFractions (sumA l))
  simp -dsimp -implicitDefEqProofs [c_spec_SumOfFractions, r_spec_SumOfFractions, sp_l02List_eq l h]
  by_cases hv : allOk l = true ∧ l.length ≤ 256
  · have hs : sumA l = frO (sumO ⟨0, 1⟩ l) := if_pos hv
    simp -dsimp -implicitDefEqProofs [hv.1, hv.2]
    refine wpLoop_st (fun (i : Nat × Fr) => ⟨tl [(0, .sl (frsA l) false), (2, .ptr 0 0), (4, .ptr 1 0), (5, .int .i64 i.1)], ⟨[some [.int .i64 0, .int .i64 0], some [.int .i64 i.2.p, .int .i64 i.2.q]]⟩⟩) (fun i => i.1 ≤ l.length ∧ frIn i.2.p i.2.q ∧ sumO i.2 (l.drop i.1) = sumO ⟨0, 1⟩ l) (fun i => l.length - i.1) (0, ⟨0, 1⟩) ⟨Nat.zero_le _, zero_in, rfl⟩ (Sub.keep (by simp) (by simp [hsub]) (by simp)) ?_
    rintro ⟨i, a⟩ ⟨h1, h2, h3⟩
    simp -dsimp -implicitDefEqProofs
    refine brW_of (fun h => ?_) (fun h => ?_) <;> simp only [decide_eq_true_eq, decide_eq_false_iff_not] at h
    · have hi : i < l.length := by omega
      have hw := wrapNat (i := i) (by omega)
      have hx := (allOk_in hv.1).get hi
      have e1 := sp_l02Add_eq a.p a.q l[i].p l[i].q ⟨h2, hx⟩
      rw [drop_cons hi, sumO, add2] at h3
      cases ha : addO a.p a.q l[i].p l[i].q with
      | none =>
        rw [ha] at e1 h3
        simp -dsimp -implicitDefEqProofs [hi, hw, e1, frO, hs, ← h3]
      | some s =>
        rw [ha] at e1 h3
        simp -dsimp -implicitDefEqProofs [hi, hw, e1, frO]
        exact .mk (i + 1, s) ⟨by simp only; omega, add2_some h2 hx ha, h3⟩ (by simp only; omega) (Sub.keep (by simp) (by simp [hsub]) (by simp [hw]))
    · have hi : ¬ i < l.length := by omega
      rw [drop_end hi, sumO] at h3
      simp -dsimp -implicitDefEqProofs [hs, ← h3, frO]
  · have hv' : (!allOk l || !decide (l.length ≤ 256)) = true := by cases e : allOk l <;> simp_all
    have hs : sumA l = .tup [.agg [.int .i64 0, .int .i64 0], .int .i64 1] := if_neg hv
    simp -dsimp -implicitDefEqProofs [hv', hs]

def loopsOk (n l : Int) : Bool := decide ((1 ≤ n ∧ n ≤ 4) ∧ l < 2 ^ n.toNat)
noncomputable def sp_form : List AV → Option (AV) := pf (ι := (Int) × (Int) × (Int)) (α := AV) (fun ⟨n, e, l⟩ => 0 ≤ l ∧ l ≤ 4294967295) (fun ⟨n, e, l⟩ => [.agg [.int .i64 n, .int .u32 e], .int .u32 l]) (fun ⟨n, e, l⟩ => .bool (loopsOk n l))
theorem sp_form_eq (n e l : Int) (h : 0 ≤ l ∧ l ≤ 4294967295) : sp_form [.agg [.int .i64 n, .int .u32 e], .int .u32 l] = some (.bool (loopsOk n l)) := by
  unfold sp_form
  exact pf_eq (ι := (Int) × (Int) × (Int)) (α := AV) (n, e, l) h (by rintro ⟨n', e', l'⟩ _ e; simp_all [Int.natCast_inj])
theorem q_spec_l07Form : QP PP 108 sp_form := by
  refine QP_pf (fun i h => ?_) fun i h => ?_
  · obtain ⟨n, e, l⟩ := i; exact ⟨by first | rfl | simp, by first | rfl | simp⟩
  obtain ⟨n, e, l⟩ := i
  replace h : 0 ≤ l ∧ l ≤ 4294967295 := h
  refine P_code (Quiet.q1 q_spec_l00In Quiet.nil) hmix k_spec_l07Form rfl ?_ ?_
  · first | rfl | simp
  show wpc 0 PP _ c_spec_l07Form (initSt [.agg [.int .i64 n, .int .u32 e], .int .u32 l] .nil) (endP r_spec_l07Form (.bool (loopsOk n l)))
  have em : l % 18446744073709551616 = l := by omega
  simp -dsimp -implicitDefEqProofs [c_spec_l07Form, r_spec_l07Form]
  by_cases hn : 1 ≤ n ∧ n ≤ 4
  · have h5 : n = 1 ∨ n = 2 ∨ n = 3 ∨ n = 4 := by omega
    rcases h5 with rfl | rfl | rfl | rfl <;> simp -dsimp -implicitDefEqProofs [IntKind.bits, IntKind.wrap, IntKind.signed]
    all_goals (rw [em, if_neg (by omega), Bool.eq_iff_iff]; simp [loopsOk] <;> omega)
  · have hv : loopsOk n l = false := decide_eq_false fun h => hn h.1
    have hv' : (decide (1 ≤ n) && decide (n ≤ 4)) = false := by simpa using hn
    simp -dsimp -implicitDefEqProofs [hv, hv']
noncomputable def sp_shapeOk : List AV → Option (AV) := pf (ι := (Int) × (Int) × (Int)) (α := AV) (fun ⟨n, e, l⟩ => (0 ≤ e ∧ e ≤ 4294967295) ∧ (0 ≤ l ∧ l ≤ 4294967295)) (fun ⟨n, e, l⟩ => [.agg [.int .i64 n, .int .u32 e], .int .u32 l]) (fun ⟨n, e, l⟩ => .bool (graphOk n e && loopsOk n l))
theorem sp_shapeOk_eq (n e l : Int) (h : (0 ≤ e ∧ e ≤ 4294967295) ∧ (0 ≤ l ∧ l ≤ 4294967295)) : sp_shapeOk [.agg [.int .i64 n, .int .u32 e], .int .u32 l] = some (.bool (graphOk n e && loopsOk n l)) := by
  unfold sp_shapeOk
  exact pf_eq (ι := (Int) × (Int) × (Int)) (α := AV) (n, e, l) h (by rintro ⟨n', e', l'⟩ _ e; simp_all [Int.natCast_inj])
theorem q_impl_shapeOk : QP PP 112 sp_shapeOk := by
  refine QP_pf (fun i h => ?_) fun i h => ?_
  · obtain ⟨n, e, l⟩ := i; exact ⟨by first | rfl | simp, by first | rfl | simp⟩
  obtain ⟨n, e, l⟩ := i
  replace h : (0 ≤ e ∧ e ≤ 4294967295) ∧ (0 ≤ l ∧ l ≤ 4294967295) := h
  refine P_code (Quiet.q1 q_impl_ValidGraph (Quiet.q1 q_impl_in Quiet.nil)) hmix k_impl_shapeOk rfl ?_ ?_
  · first | rfl | simp
  show wpc 0 PP _ c_impl_shapeOk (initSt [.agg [.int .i64 n, .int .u32 e], .int .u32 l] .nil) (endP r_impl_shapeOk (.bool (graphOk n e && loopsOk n l)))
  simp -dsimp -implicitDefEqProofs [c_impl_shapeOk, r_impl_shapeOk, sp_graphOk_eq n e h.1]
  cases hg : graphOk n e with
  | false => simp -dsimp -implicitDefEqProofs
  | true =>
    by_cases hn : 1 ≤ n ∧ n ≤ 4
    · have h5 : n = 1 ∨ n = 2 ∨ n = 3 ∨ n = 4 := by omega
      rcases h5 with rfl | rfl | rfl | rfl <;> simp -dsimp -implicitDefEqProofs [IntKind.bits]
      all_goals (rw [fdiv_zero (by decide) h.2.1, Bool.eq_iff_iff]; simp [loopsOk] <;> omega)
    · have hv : loopsOk n l = false := decide_eq_false fun h => hn h.1
      have hv' : (decide (1 ≤ n) && decide (n ≤ 4)) = false := by simpa using hn
      simp -dsimp -implicitDefEqProofs [hv, hv']

def nnAll (ps : List Fr) : Bool := ps.all fun x => decide (0 ≤ x.p)
def patOk (n e l : Int) (ps : List Fr) : Bool := graphOk n e && loopsOk n l && decide ((ps.length : Int) = n) && allOk ps && nnAll ps && decide (sumO ⟨0, 1⟩ ps = some ⟨1, 1⟩)
theorem nnAll_false {ps : List Fr} {i : Nat} (h : i < ps.length) (hf : ps[i].p < 0) : nnAll ps = false := by
  unfold nnAll
  rw [List.all_eq_false]
  exact ⟨ps[i], List.getElem_mem h, by simp; omega⟩
theorem nnAll_step {ps : List Fr} {i : Nat} (h : i < ps.length) (h1 : nnAll (ps.take i) = true) (hf : ¬ ps[i].p < 0) : nnAll (ps.take (i + 1)) = true := by
  rw [take_snoc ps i h]
  unfold nnAll at *
  rw [List.all_append, h1]
  simp
  omega

noncomputable def sp_l07Ok : List AV → List AV → Option (AV × List AV) := pm (pf (ι := (Int) × (Int) × (Int) × (List Fr)) (α := AV × List AV) (fun ⟨n, e, l, ps⟩ => (0 ≤ e ∧ e ≤ 4294967295) ∧ (0 ≤ l ∧ l ≤ 4294967295) ∧ ps.length ≤ maxLen) (fun i => .agg ((fun ⟨n, e, l, ps⟩ => [.int .i64 n, .int .u32 e, .int .u32 l, .sl (frsA ps) false] : (Int) × (Int) × (Int) × (List Fr) → List AV) i) :: (fun ⟨n, e, l, ps⟩ => [] : (Int) × (Int) × (Int) × (List Fr) → List AV) i) (fun ⟨n, e, l, ps⟩ => (.bool (patOk n e l ps), [.int .i64 n, .int .u32 e, .int .u32 l, .sl (frsA ps) false])))
theorem sp_l07Ok_eq (n e l : Int) (ps : List Fr) (h : (0 ≤ e ∧ e ≤ 4294967295) ∧ (0 ≤ l ∧ l ≤ 4294967295) ∧ ps.length ≤ maxLen) : sp_l07Ok [.int .i64 n, .int .u32 e, .int .u32 l, .sl (frsA ps) false] [] = some (.bool (patOk n e l ps), [.int .i64 n, .int .u32 e, .int .u32 l, .sl (frsA ps) false]) := by
  unfold sp_l07Ok pm
  exact pf_eq (ι := (Int) × (Int) × (Int) × (List Fr)) (α := AV × List AV) (n, e, l, ps) h (by rintro ⟨n', e', l', ps'⟩ _ e; simp_all [Int.natCast_inj])
theorem m_spec_l07Ok : QM PP 72 sp_l07Ok := by
  refine QM_pf (fun i h => ?_) fun i h => ?_
  · obtain ⟨n, e, l, ps⟩ := i; exact ⟨⟨by first | rfl | simp, by first | rfl | simp⟩, by first | rfl | simp, by first | rfl | simp⟩
  obtain ⟨n, e, l, ps⟩ := i
  replace h : (0 ≤ e ∧ e ≤ 4294967295) ∧ (0 ≤ l ∧ l ≤ 4294967295) ∧ ps.length ≤ maxLen := h
  refine H_code (Quiet.q1 q_spec_l01Ok (Quiet.q1 q_spec_l07Form (Quiet.q1 q_spec_l02List (Quiet.q1 q_spec_SumOfFractions (Quiet.q1 q_spec_l02One Quiet.nil))))) hmix k_spec_l07Ok rfl (fun b => b) (Nat.le_refl _) (fun _ _ => rfl) rfl (by first | rfl | simp) ?_
  show wpc 1 PP _ c_spec_l07Ok (initSt [.ptr 0 0] ⟨[some [.int .i64 n, .int .u32 e, .int .u32 l, .sl (frsA ps) false]]⟩) (endH (fun b => b) r_spec_l07Ok (.bool (patOk n e l ps)) [some [.int .i64 n, .int .u32 e, .int .u32 l, .sl (frsA ps) false]])
  obtain ⟨he, hl, hp⟩ := h
  have hlen4 : loopsOk n l = true → n ≤ 4 := fun h => (of_decide_eq_true h).1.2
  simp -dsimp -implicitDefEqProofs [c_spec_l07Ok, r_spec_l07Ok, sp_graphOk_eq n e he]
  cases hg : graphOk n e with
  | false => simp -dsimp -implicitDefEqProofs [patOk, hg, hsub]
  | true =>
    cases hf : loopsOk n l with
    | false => simp -dsimp -implicitDefEqProofs [sp_form_eq n e l hl, hf, patOk, hsub]
    | true =>
      by_cases hn : (ps.length : Int) = n
      · have hn4 := hlen4 hf
        have h256 : ps.length ≤ 256 := by omega
        cases ha : allOk ps with
        | false => simp -dsimp -implicitDefEqProofs [sp_form_eq n e l hl, hf, hn, sp_l02List_eq ps hp, ha, patOk, hsub]
        | true =>
          simp -dsimp -implicitDefEqProofs [sp_form_eq n e l hl, hf, hn, sp_l02List_eq ps hp, ha, h256]
          refine wpLoop_st (fun (i : Nat) => ⟨tl [(0, .ptr 0 0), (3, .int .i64 i)], ⟨[some [.int .i64 n, .int .u32 e, .int .u32 l, .sl (frsA ps) false]]⟩⟩) (fun i => i ≤ ps.length ∧ nnAll (ps.take i) = true) (fun i => ps.length - i) 0 ⟨Nat.zero_le _, rfl⟩ (Sub.keep (by simp) (by simp [hsub]) (by simp)) ?_
          rintro i ⟨h1, h2⟩
          simp -dsimp -implicitDefEqProofs
          refine brW_of (fun h => ?_) (fun h => ?_) <;> simp only [decide_eq_true_eq, decide_eq_false_iff_not] at h
          · have hi : i < ps.length := by omega
            have hw := wrapNat (i := i) (by omega)
            by_cases hneg : ps[i].p < 0
            · simp -dsimp -implicitDefEqProofs [hi, hw, hneg, patOk, nnAll_false hi hneg, hsub]
            · simp -dsimp -implicitDefEqProofs [hi, hw, hneg]
              exact .mk (i + 1) ⟨by omega, nnAll_step hi h2 hneg⟩ (by omega) (Sub.keep (by simp) (by simp [hsub]) (by simp))
          · have hi : i = ps.length := by omega
            rw [hi, List.take_length] at h2
            have hs : sumA ps = frO (sumO ⟨0, 1⟩ ps) := if_pos ⟨ha, h256⟩
            cases hsum : sumO ⟨0, 1⟩ ps with
            | none => simp -dsimp -implicitDefEqProofs [sp_Sum_eq ps hp, hs, hsum, frO, patOk, hsub]
            | some s =>
              simp -dsimp -implicitDefEqProofs [sp_Sum_eq ps hp, hs, hsum, frO, patOk, hsub, hg, hf, hn, ha, h2]
              cases s
              rw [Bool.eq_iff_iff]
              simp
      · have hn' : ((ps.length : Int) != n) = true := by simpa using hn
        simp -dsimp -implicitDefEqProofs [sp_form_eq n e l hl, hf, hn', hn, patOk, hsub]

noncomputable def sp_patOk : List AV → Option (AV) := pf (ι := (Int) × (Int) × (Int) × (List Fr)) (α := AV) (fun ⟨n, e, l, ps⟩ => (0 ≤ e ∧ e ≤ 4294967295) ∧ (0 ≤ l ∧ l ≤ 4294967295) ∧ ps.length ≤ maxLen) (fun ⟨n, e, l, ps⟩ => [.agg [.int .i64 n, .int .u32 e, .int .u32 l, .sl (frsA ps) false]]) (fun ⟨n, e, l, ps⟩ => .bool (patOk n e l ps))
theorem sp_patOk_eq (n e l : Int) (ps : List Fr) (h : (0 ≤ e ∧ e ≤ 4294967295) ∧ (0 ≤ l ∧ l ≤ 4294967295) ∧ ps.length ≤ maxLen) : sp_patOk [.agg [.int .i64 n, .int .u32 e, .int .u32 l, .sl (frsA ps) false]] = some (.bool (patOk n e l ps)) := by
  unfold sp_patOk
  exact pf_eq (ι := (Int) × (Int) × (Int) × (List Fr)) (α := AV) (n, e, l, ps) h (by rintro ⟨n', e', l', ps'⟩ _ e; simp_all [Int.natCast_inj])
end Go.Proofs.YtjfoenibffdoeaaDoorAi
end
