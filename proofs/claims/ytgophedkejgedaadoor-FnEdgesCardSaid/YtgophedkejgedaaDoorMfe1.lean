/- Contracts, joined. -/
import Derived.Test.YtgophedkejgedaaDoorAiZ
import Derived.Test.YtgophedkejgedaaDoorProg
import Derived.Test.YtgophedkejgedaaDoorAiX
section
/- The program, for contracts. -/
namespace Go.Proofs.YtgophedkejgedaaDoorAi
open Go Go.RowKit
noncomputable abbrev PP : Program := Go.Proofs.Tryd.prog
theorem hmix : PP.follows .mixedOrders = true := by kernel_rfl
end Go.Proofs.YtgophedkejgedaaDoorAi
end

section
/- Data of the program, and how they lie. -/
namespace Go.Proofs.YtgophedkejgedaaDoorAi
open Go Go.RowKit
set_option linter.unusedVariables false
set_option linter.unusedSimpArgs false

structure Fr where
  p : Int
  q : Int
  deriving DecidableEq
structure Gr where
  n : Int
  e : Int
  deriving DecidableEq
structure Fl where
  l : Int
  g : Gr
  deriving DecidableEq

abbrev frA (x : Fr) : AV := .agg [.int .i64 x.p, .int .i64 x.q]
abbrev grA (x : Gr) : AV := .agg [.int .i64 x.n, .int .u32 x.e]
abbrev flA (x : Fl) : AV := .agg [.int .i64 x.l, .int .i64 x.g.n, .int .u32 x.g.e]
abbrev inA (n : Int) : AV := .int .i64 n

/-- A list of encoded data. -/
def mapA {α : Type} (f : α → AV) (l : List α) : List AV := l.map f
@[simp] theorem mapA_length {α : Type} (f : α → AV) (l : List α) : (mapA f l).length = l.length := by simp [mapA]
@[simp] theorem mapA_get {α : Type} (f : α → AV) (l : List α) (i : Nat) : (mapA f l)[i]? = (l[i]?).map f := by simp [mapA]
@[simp] theorem mapA_getElem {α : Type} (f : α → AV) (l : List α) (i : Nat) (h : i < (mapA f l).length) : (mapA f l)[i] = f (l[i]'(by simpa using h)) := by simp [mapA]
theorem mapA_getE {α : Type} (f : α → AV) (l : List α) (i : Nat) (h : i < l.length) : (mapA f l)[i]? = some (f l[i]) := by simp [mapA, h]
theorem mapA_append {α : Type} (f : α → AV) (l k : List α) : mapA f (l ++ k) = mapA f l ++ mapA f k := by simp [mapA]
theorem mapA_inj {α : Type} {f : α → AV} (hf : ∀ x y, f x = f y → x = y) : ∀ {l k : List α}, mapA f l = mapA f k → l = k
  | [], [], _ => rfl
  | [], _ :: _, h => by simp [mapA] at h
  | _ :: _, [], h => by simp [mapA] at h
  | x :: l, y :: k, h => by
    simp only [mapA, List.map_cons, List.cons.injEq] at h
    rw [hf _ _ h.1, mapA_inj hf (show mapA f l = mapA f k from h.2)]
theorem frA_inj (x y : Fr) (h : frA x = frA y) : x = y := by cases x; cases y; simp_all
theorem grA_inj (x y : Gr) (h : grA x = grA y) : x = y := by cases x; cases y; simp_all
theorem flA_inj (x y : Fl) (h : flA x = flA y) : x = y := by rcases x with ⟨_, _, _⟩; rcases y with ⟨_, _, _⟩; simp_all
theorem inA_inj (x y : Int) (h : inA x = inA y) : x = y := by simpa using h
abbrev frsA (l : List Fr) : List AV := mapA frA l
abbrev grsA (l : List Gr) : List AV := mapA grA l
abbrev flsA (l : List Fl) : List AV := mapA flA l
abbrev insA (l : List Int) : List AV := mapA inA l
@[simp] theorem frsA_inj {l k : List Fr} : mapA frA l = mapA frA k ↔ l = k := ⟨mapA_inj frA_inj, fun h => by rw [h]⟩
@[simp] theorem grsA_inj {l k : List Gr} : mapA grA l = mapA grA k ↔ l = k := ⟨mapA_inj grA_inj, fun h => by rw [h]⟩
@[simp] theorem flsA_inj {l k : List Fl} : mapA flA l = mapA flA k ↔ l = k := ⟨mapA_inj flA_inj, fun h => by rw [h]⟩
@[simp] theorem insA_inj {l k : List Int} : mapA inA l = mapA inA k ↔ l = k := ⟨mapA_inj inA_inj, fun h => by rw [h]⟩

theorem take_snoc {α : Type} (ps : List α) (i : Nat) (h : i < ps.length) : ps.take (i + 1) = ps.take i ++ [ps[i]] := by
  rw [List.take_add_one, List.getElem?_eq_getElem h]; rfl
theorem wrapNat {i : Nat} (h : i < 9223372036854775807) : IntKind.i64.wrap ((i : Int) + 1) = (i : Int) + 1 := wrapI64 (by omega) (by omega)

/-- Nothing is forgotten but temporaries: the first objects are the same. -/
theorem Sub.keep {N : Nat} {s : St} {l : List (Nat × AV)} {os : List (Option (List AV))} (hN : N ≤ os.length) (hs : hsub (fun b => b) os.length s.A 0 os) (ht : ∀ p ∈ l, p.2.lt os.length = true ∧ s.t p.1 = p.2) : Sub N s ⟨tl l, ⟨os⟩⟩ := by
  obtain ⟨h1, h2⟩ := hsub_get hs
  refine ⟨fun b => b, hN, fun _ _ => rfl, ⟨fun b hb => by simpa using h1 b hb, fun b cs hb => by simpa using h2 b cs hb, fun b b' cs cs' e1 e2 e => e⟩, tl_sub fun p hp => ⟨(ht p hp).1, by rw [ren_id]; exact (ht p hp).2⟩⟩

end Go.Proofs.YtgophedkejgedaaDoorAi
end

section
/- MADE BY PROGRAM (wip/tools/gen.py): the abstract code of functions. -/
namespace Go.Proofs.YtgophedkejgedaaDoorAi
open Go AC AOp Opd
set_option linter.unusedVariables false
set_option maxRecDepth 100000
def c_impl_in : AC := seq (reg [⟨(some 6), mv (c (.bool false)), none⟩]) (seq (reg [⟨(some 7), mv (t 0), none⟩, ⟨(some 8), mv (t 1), none⟩, ⟨(some 9), bin .geq (t 7) (t 8), none⟩, ⟨(some 10), mv (t 9), none⟩, ⟨(some 11), mv (t 0), some (10, true)⟩, ⟨(some 12), mv (t 2), some (10, true)⟩, ⟨(some 13), bin .leq (t 11) (t 12), some (10, true)⟩, ⟨(some 14), pick (t 10) (t 13) (c (.bool false)), none⟩, ⟨(some 6), mv (t 14), none⟩]) (ret))
def r_impl_in : List ARes := [.tmp 6]
theorem k_impl_in : acLin Go.Proofs.Tryd.prog 62 3 (inQ [] []) [] = some (c_impl_in, r_impl_in) := by kernel_rfl
def c_spec_l00In : AC := seq (reg [⟨(some 6), mv (c (.bool false)), none⟩]) (seq (reg [⟨(some 7), mv (t 0), none⟩, ⟨(some 8), mv (t 1), none⟩, ⟨(some 9), bin .geq (t 7) (t 8), none⟩, ⟨(some 10), mv (t 9), none⟩, ⟨(some 11), mv (t 0), some (10, true)⟩, ⟨(some 12), mv (t 2), some (10, true)⟩, ⟨(some 13), bin .leq (t 11) (t 12), some (10, true)⟩, ⟨(some 14), pick (t 10) (t 13) (c (.bool false)), none⟩, ⟨(some 6), mv (t 14), none⟩]) (ret))
def r_spec_l00In : List ARes := [.tmp 6]
theorem k_spec_l00In : acLin Go.Proofs.Tryd.prog 108 3 (inQ [] []) [] = some (c_spec_l00In, r_spec_l00In) := by kernel_rfl
def c_impl_pairs : AC := seq (reg [⟨(some 2), mv (c (.int .i64 0)), none⟩]) (seq (reg [⟨(some 3), mv (t 0), none⟩, ⟨(some 4), mv (t 0), none⟩, ⟨(some 5), bin .sub (t 4) (c (.int .i64 1)), none⟩, ⟨(some 6), bin .mul (t 3) (t 5), none⟩, ⟨(some 7), bin .quo (t 6) (c (.int .i64 2)), none⟩, ⟨(some 2), mv (t 7), none⟩]) (ret))
def r_impl_pairs : List ARes := [.tmp 2]
theorem k_impl_pairs : acLin Go.Proofs.Tryd.prog 90 1 (inQ [] []) [] = some (c_impl_pairs, r_impl_pairs) := by kernel_rfl
def c_spec_l01Bits : AC := seq (reg [⟨(some 2), mv (c (.int .i64 0)), none⟩]) (seq (reg [⟨(some 3), mv (t 0), none⟩, ⟨(some 4), mv (t 0), none⟩, ⟨(some 5), bin .sub (t 4) (c (.int .i64 1)), none⟩, ⟨(some 6), bin .mul (t 3) (t 5), none⟩, ⟨(some 7), bin .quo (t 6) (c (.int .i64 2)), none⟩, ⟨(some 2), mv (t 7), none⟩]) (ret))
def r_spec_l01Bits : List ARes := [.tmp 2]
theorem k_spec_l01Bits : acLin Go.Proofs.Tryd.prog 123 1 (inQ [] []) [] = some (c_spec_l01Bits, r_spec_l01Bits) := by kernel_rfl
def c_impl_ValidGraph : AC := seq (reg [⟨(some 1), box 2 (t 0), none⟩, ⟨(some 2), mv (c (.bool false)), none⟩]) (seq (reg [⟨(some 3), fad (t 1) 0, none⟩, ⟨(some 4), ld (t 3) 1 false, none⟩, ⟨(some 5), callq (c (.fn 62 [])) [t 4, c (.int .i64 0), c (.int .i64 5)], none⟩, ⟨(some 6), mv (t 5), none⟩, ⟨(some 7), fad (t 1) 1, some (6, true)⟩, ⟨(some 8), ld (t 7) 1 false, some (6, true)⟩, ⟨(some 9), fad (t 1) 0, some (6, true)⟩, ⟨(some 10), ld (t 9) 1 false, some (6, true)⟩, ⟨(some 11), callq (c (.fn 90 [])) [t 10], some (6, true)⟩, ⟨(some 12), bin .shr (t 8) (t 11), some (6, true)⟩, ⟨(some 13), bin .eql (t 12) (c (.int .u32 0)), some (6, true)⟩, ⟨(some 14), pick (t 6) (t 13) (c (.bool false)), none⟩, ⟨(some 2), mv (t 14), none⟩]) (ret))
def r_impl_ValidGraph : List ARes := [.tmp 2]
theorem k_impl_ValidGraph : acLin Go.Proofs.Tryd.prog 36 1 (inQ [62, 90] []) [⟨false, none, [], [], none⟩, ⟨false, some [0, 1, 2, 3, 4, 5, 6, 7, 8, 9, 10, 11, 12], [], [], none⟩] = some (c_impl_ValidGraph, r_impl_ValidGraph) := by kernel_rfl
def c_spec_l01Ok : AC := seq (reg [⟨(some 1), box 2 (t 0), none⟩, ⟨(some 2), mv (c (.bool false)), none⟩]) (seq (reg [⟨(some 3), fad (t 1) 0, none⟩, ⟨(some 4), ld (t 3) 1 false, none⟩, ⟨(some 5), callq (c (.fn 108 [])) [t 4, c (.int .i64 0), c (.int .i64 5)], none⟩, ⟨(some 6), mv (t 5), none⟩, ⟨(some 7), fad (t 1) 1, some (6, true)⟩, ⟨(some 8), ld (t 7) 1 false, some (6, true)⟩, ⟨(some 9), conv .i64 (t 8), some (6, true)⟩, ⟨(some 10), fad (t 1) 0, some (6, true)⟩, ⟨(some 11), ld (t 10) 1 false, some (6, true)⟩, ⟨(some 12), callq (c (.fn 123 [])) [t 11], some (6, true)⟩, ⟨(some 13), conv .u64 (t 12), some (6, true)⟩, ⟨(some 14), bin .shl (c (.int .i64 1)) (t 13), some (6, true)⟩, ⟨(some 15), bin .lss (t 9) (t 14), some (6, true)⟩, ⟨(some 16), pick (t 6) (t 15) (c (.bool false)), none⟩, ⟨(some 2), mv (t 16), none⟩]) (ret))
def r_spec_l01Ok : List ARes := [.tmp 2]
theorem k_spec_l01Ok : acLin Go.Proofs.Tryd.prog 92 1 (inQ [108, 123] []) [⟨false, none, [], [], none⟩, ⟨false, some [0, 1, 2, 3, 4, 5, 6, 7, 8, 9, 10, 11, 12, 13, 14], [], [], none⟩] = some (c_spec_l01Ok, r_spec_l01Ok) := by kernel_rfl
def c_impl_size : AC := seq (reg [⟨(some 2), mv (c (.int .i64 0)), none⟩]) (seq (reg [⟨(some 3), mv (t 0), none⟩, ⟨(some 4), mv (t 0), none⟩, ⟨(some 5), un .neg (t 4), none⟩, ⟨(some 6), max (t 3) (t 5), none⟩, ⟨(some 2), mv (t 6), none⟩]) (ret))
def r_impl_size : List ARes := [.tmp 2]
theorem k_impl_size : acLin Go.Proofs.Tryd.prog 119 1 (inQ [] []) [] = some (c_impl_size, r_impl_size) := by kernel_rfl
def c_impl_gcd : AC := seq (reg [⟨(some 4), mv (c (.int .i64 0)), none⟩]) (seq (block 0 (loop (seq (seq (reg [⟨(some 5), mv (t 1), none⟩, ⟨(some 6), bin .neq (t 5) (c (.int .i64 0)), none⟩]) (cond (t 6) (skip) (exit 0))) (block 1 (reg [⟨(some 7), mv (t 1), none⟩, ⟨(some 8), mv (t 0), none⟩, ⟨(some 9), mv (t 1), none⟩, ⟨(some 10), bin .rem (t 8) (t 9), none⟩, ⟨(some 0), mv (t 7), none⟩, ⟨(some 1), mv (t 10), none⟩]))))) (seq (reg [⟨(some 11), mv (t 0), none⟩, ⟨(some 12), callq (c (.fn 119 [])) [t 11], none⟩, ⟨(some 4), mv (t 12), none⟩]) (ret)))
def r_impl_gcd : List ARes := [.tmp 4]
theorem k_impl_gcd : acLin Go.Proofs.Tryd.prog 66 2 (inQ [119] []) [⟨false, none, [], [], none⟩, ⟨false, none, [], [], none⟩, ⟨false, none, [], [], none⟩, ⟨false, some [0, 1, 2, 3, 4, 5], [], [], none⟩] = some (c_impl_gcd, r_impl_gcd) := by kernel_rfl
def c_spec_l02Abs : AC := seq (reg [⟨(some 2), mv (c (.int .i64 0)), none⟩]) (seq (seq (reg [⟨(some 3), mv (t 0), none⟩, ⟨(some 4), bin .lss (t 3) (c (.int .i64 0)), none⟩]) (cond (t 4) (seq (reg [⟨(some 5), mv (t 0), none⟩, ⟨(some 6), un .neg (t 5), none⟩, ⟨(some 2), mv (t 6), none⟩]) (ret)) (skip))) (seq (reg [⟨(some 7), mv (t 0), none⟩, ⟨(some 2), mv (t 7), none⟩]) (ret)))
def r_spec_l02Abs : List ARes := [.tmp 2]
theorem k_spec_l02Abs : acLin Go.Proofs.Tryd.prog 122 1 (inQ [] []) [] = some (c_spec_l02Abs, r_spec_l02Abs) := by kernel_rfl
def c_spec_l02Common : AC := seq (reg [⟨(some 4), mv (c (.int .i64 0)), none⟩]) (seq (block 0 (loop (seq (seq (reg [⟨(some 6), mv (t 1), none⟩, ⟨(some 7), bin .neq (t 6) (c (.int .i64 0)), none⟩]) (cond (t 7) (skip) (exit 0))) (block 1 (seq (reg [⟨(some 8), mv (t 0), none⟩, ⟨(some 9), mv (t 1), none⟩, ⟨(some 10), bin .rem (t 8) (t 9), none⟩, ⟨(some 5), mv (t 10), none⟩]) (seq (reg [⟨(some 11), mv (t 1), none⟩, ⟨(some 0), mv (t 11), none⟩]) (reg [⟨(some 12), mv (t 5), none⟩, ⟨(some 1), mv (t 12), none⟩]))))))) (seq (reg [⟨(some 13), mv (t 0), none⟩, ⟨(some 4), mv (t 13), none⟩]) (ret)))
def r_spec_l02Common : List ARes := [.tmp 4]
theorem k_spec_l02Common : acLin Go.Proofs.Tryd.prog 121 2 (inQ [] []) [] = some (c_spec_l02Common, r_spec_l02Common) := by kernel_rfl
def c_impl_ValidFraction : AC := seq (reg [⟨(some 1), box 2 (t 0), none⟩, ⟨(some 2), mv (c (.bool false)), none⟩]) (seq (reg [⟨(some 3), fad (t 1) 1, none⟩, ⟨(some 4), ld (t 3) 1 false, none⟩, ⟨(some 5), bin .gtr (t 4) (c (.int .i64 0)), none⟩, ⟨(some 6), mv (t 5), none⟩, ⟨(some 7), fad (t 1) 0, some (6, true)⟩, ⟨(some 8), ld (t 7) 1 false, some (6, true)⟩, ⟨(some 9), bin .geq (t 8) (c (.int .i64 (-1000000000))), some (6, true)⟩, ⟨(some 10), pick (t 6) (t 9) (c (.bool false)), none⟩, ⟨(some 11), mv (t 10), none⟩, ⟨(some 12), fad (t 1) 0, some (11, true)⟩, ⟨(some 13), ld (t 12) 1 false, some (11, true)⟩, ⟨(some 14), bin .leq (t 13) (c (.int .i64 1000000000)), some (11, true)⟩, ⟨(some 15), pick (t 11) (t 14) (c (.bool false)), none⟩, ⟨(some 16), mv (t 15), none⟩, ⟨(some 17), fad (t 1) 1, some (16, true)⟩, ⟨(some 18), ld (t 17) 1 false, some (16, true)⟩, ⟨(some 19), bin .leq (t 18) (c (.int .i64 1000000000)), some (16, true)⟩, ⟨(some 20), pick (t 16) (t 19) (c (.bool false)), none⟩, ⟨(some 21), mv (t 20), none⟩, ⟨(some 22), fad (t 1) 0, some (21, true)⟩, ⟨(some 23), ld (t 22) 1 false, some (21, true)⟩, ⟨(some 24), fad (t 1) 1, some (21, true)⟩, ⟨(some 25), ld (t 24) 1 false, some (21, true)⟩, ⟨(some 26), callq (c (.fn 66 [])) [t 23, t 25], some (21, true)⟩, ⟨(some 27), bin .eql (t 26) (c (.int .i64 1)), some (21, true)⟩, ⟨(some 28), pick (t 21) (t 27) (c (.bool false)), none⟩, ⟨(some 2), mv (t 28), none⟩]) (ret))
def r_impl_ValidFraction : List ARes := [.tmp 2]
theorem k_impl_ValidFraction : acLin Go.Proofs.Tryd.prog 20 1 (inQ [66] []) [] = some (c_impl_ValidFraction, r_impl_ValidFraction) := by kernel_rfl
def c_spec_l02Ok : AC := seq (reg [⟨(some 1), box 2 (t 0), none⟩, ⟨(some 2), mv (c (.bool false)), none⟩]) (seq (reg [⟨(some 3), fad (t 1) 0, none⟩, ⟨(some 4), ld (t 3) 1 false, none⟩, ⟨(some 5), callq (c (.fn 108 [])) [t 4, c (.int .i64 (-1000000000)), c (.int .i64 1000000000)], none⟩, ⟨(some 6), mv (t 5), none⟩, ⟨(some 7), fad (t 1) 1, some (6, true)⟩, ⟨(some 8), ld (t 7) 1 false, some (6, true)⟩, ⟨(some 9), callq (c (.fn 108 [])) [t 8, c (.int .i64 1), c (.int .i64 1000000000)], some (6, true)⟩, ⟨(some 10), pick (t 6) (t 9) (c (.bool false)), none⟩, ⟨(some 11), mv (t 10), none⟩, ⟨(some 12), fad (t 1) 0, some (11, true)⟩, ⟨(some 13), ld (t 12) 1 false, some (11, true)⟩, ⟨(some 14), callq (c (.fn 122 [])) [t 13], some (11, true)⟩, ⟨(some 15), fad (t 1) 1, some (11, true)⟩, ⟨(some 16), ld (t 15) 1 false, some (11, true)⟩, ⟨(some 17), callq (c (.fn 121 [])) [t 14, t 16], some (11, true)⟩, ⟨(some 18), bin .eql (t 17) (c (.int .i64 1)), some (11, true)⟩, ⟨(some 19), pick (t 11) (t 18) (c (.bool false)), none⟩, ⟨(some 2), mv (t 19), none⟩]) (ret))
def r_spec_l02Ok : List ARes := [.tmp 2]
theorem k_spec_l02Ok : acLin Go.Proofs.Tryd.prog 71 1 (inQ [108, 121, 122] []) [⟨false, none, [], [], none⟩, ⟨false, some [0, 1, 2, 3, 4, 5, 6, 7, 8, 9, 10, 11, 12, 13, 14, 15, 16, 17], [], [], none⟩] = some (c_spec_l02Ok, r_spec_l02Ok) := by kernel_rfl
def c_impl_zero : AC := seq (reg [⟨(some 0), alloc [.int .i64 0, .int .i64 0], none⟩]) (seq (reg [⟨(some 1), bld [.int .i64 0, .int .i64 0] [(0, 1, c (.int .i64 0)), (1, 1, c (.int .i64 1))], none⟩, ⟨none, st (t 0) 2 (t 1), none⟩]) (ret))
def r_impl_zero : List ARes := [.cell 0 2 true]
theorem k_impl_zero : acLin Go.Proofs.Tryd.prog 118 0 (inQ [] []) [] = some (c_impl_zero, r_impl_zero) := by kernel_rfl
end Go.Proofs.YtgophedkejgedaaDoorAi
end

section
/- Contracts: bounds, numbers of pairs, validity of graphs. -/
namespace Go.Proofs.YtgophedkejgedaaDoorAi
open Go Go.RowKit
set_option linter.unusedVariables false
set_option linter.unusedSimpArgs false

noncomputable def sp_in : List AV → Option (AV) := pf (ι := (Int) × (Int) × (Int)) (α := AV) (fun ⟨n, lo, hi⟩ => True) (fun ⟨n, lo, hi⟩ => [.int .i64 n, .int .i64 lo, .int .i64 hi]) (fun ⟨n, lo, hi⟩ => .bool (decide (lo ≤ n) && decide (n ≤ hi)))
theorem sp_in_eq (n lo hi : Int) : sp_in [.int .i64 n, .int .i64 lo, .int .i64 hi] = some (.bool (decide (lo ≤ n) && decide (n ≤ hi))) := by
  unfold sp_in
  exact pf_eq (ι := (Int) × (Int) × (Int)) (α := AV) (n, lo, hi) trivial (by rintro ⟨n', lo', hi'⟩ _ e; simp_all [Int.natCast_inj])
attribute [simp] sp_in_eq
theorem q_impl_in : QP PP 62 sp_in := by
  refine QP_pf (fun i h => ?_) fun i h => ?_
  · obtain ⟨n, lo, hi⟩ := i; exact ⟨by first | rfl | simp, by first | rfl | simp⟩
  obtain ⟨n, lo, hi⟩ := i
  replace h : True := h
  refine P_code Quiet.nil hmix k_impl_in rfl ?_ ?_
  · first | rfl | simp
  show wpc 0 PP _ c_impl_in (initSt [.int .i64 n, .int .i64 lo, .int .i64 hi] .nil) (endP r_impl_in (.bool (decide (lo ≤ n) && decide (n ≤ hi))))
  simp -dsimp -implicitDefEqProofs [c_impl_in, r_impl_in]
  repeat' (refine brW_of (fun h => ?_) (fun h => ?_) <;> have h0 := h <;> (try simp only [Bool.and_eq_true, Bool.and_eq_false_iff, Bool.or_eq_true, Bool.or_eq_false_iff, Bool.not_eq_true', Bool.not_eq_false', decide_eq_true_eq, decide_eq_false_iff_not, beq_iff_eq, beq_eq_false_iff_ne, bne_iff_ne, bne_eq_false_iff_eq] at h) <;> simp -dsimp -implicitDefEqProofs [h, h0])
theorem q_spec_l00In : QP PP 108 sp_in := by
  refine QP_pf (fun i h => ?_) fun i h => ?_
  · obtain ⟨n, lo, hi⟩ := i; exact ⟨by first | rfl | simp, by first | rfl | simp⟩
  obtain ⟨n, lo, hi⟩ := i
  replace h : True := h
  refine P_code Quiet.nil hmix k_spec_l00In rfl ?_ ?_
  · first | rfl | simp
  show wpc 0 PP _ c_spec_l00In (initSt [.int .i64 n, .int .i64 lo, .int .i64 hi] .nil) (endP r_spec_l00In (.bool (decide (lo ≤ n) && decide (n ≤ hi))))
  simp -dsimp -implicitDefEqProofs [c_spec_l00In, r_spec_l00In]
  repeat' (refine brW_of (fun h => ?_) (fun h => ?_) <;> have h0 := h <;> (try simp only [Bool.and_eq_true, Bool.and_eq_false_iff, Bool.or_eq_true, Bool.or_eq_false_iff, Bool.not_eq_true', Bool.not_eq_false', decide_eq_true_eq, decide_eq_false_iff_not, beq_iff_eq, beq_eq_false_iff_ne, bne_iff_ne, bne_eq_false_iff_eq] at h) <;> simp -dsimp -implicitDefEqProofs [h, h0])

def pairsI (n : Int) : Int := (n * (n - 1)).tdiv 2
theorem pI0 : pairsI 0 = 0 := by decide
theorem pI1 : pairsI 1 = 0 := by decide
theorem pI2 : pairsI 2 = 1 := by decide
theorem pI3 : pairsI 3 = 3 := by decide
theorem pI4 : pairsI 4 = 6 := by decide
theorem pI5 : pairsI 5 = 10 := by decide
noncomputable def sp_pairs : List AV → Option (AV) := pf (ι := (Int)) (α := AV) (fun n => 0 ≤ n ∧ n ≤ 5) (fun n => [.int .i64 n]) (fun n => .int .i64 (pairsI n))
theorem sp_pairs_eq (n : Int) (h : 0 ≤ n ∧ n ≤ 5) : sp_pairs [.int .i64 n] = some (.int .i64 (pairsI n)) := by
  unfold sp_pairs
  exact pf_eq (ι := (Int)) (α := AV) n h (by rintro n' _ e; simp_all [Int.natCast_inj])
theorem q_impl_pairs : QP PP 90 sp_pairs := by
  refine QP_pf (fun n h => ?_) fun n h => ?_
  · exact ⟨by first | rfl | simp, by first | rfl | simp⟩
  replace h : 0 ≤ n ∧ n ≤ 5 := h
  refine P_code Quiet.nil hmix k_impl_pairs rfl ?_ ?_
  · first | rfl | simp
  show wpc 0 PP _ c_impl_pairs (initSt [.int .i64 n] .nil) (endP r_impl_pairs (.int .i64 (pairsI n)))
  have h5 : n = 0 ∨ n = 1 ∨ n = 2 ∨ n = 3 ∨ n = 4 ∨ n = 5 := by omega
  rcases h5 with rfl | rfl | rfl | rfl | rfl | rfl <;> simp -dsimp -implicitDefEqProofs [c_impl_pairs, r_impl_pairs] <;> decide
theorem q_spec_l01Bits : QP PP 123 sp_pairs := by
  refine QP_pf (fun n h => ?_) fun n h => ?_
  · exact ⟨by first | rfl | simp, by first | rfl | simp⟩
  replace h : 0 ≤ n ∧ n ≤ 5 := h
  refine P_code Quiet.nil hmix k_spec_l01Bits rfl ?_ ?_
  · first | rfl | simp
  show wpc 0 PP _ c_spec_l01Bits (initSt [.int .i64 n] .nil) (endP r_spec_l01Bits (.int .i64 (pairsI n)))
  have h5 : n = 0 ∨ n = 1 ∨ n = 2 ∨ n = 3 ∨ n = 4 ∨ n = 5 := by omega
  rcases h5 with rfl | rfl | rfl | rfl | rfl | rfl <;> simp -dsimp -implicitDefEqProofs [c_spec_l01Bits, r_spec_l01Bits] <;> decide

theorem fdiv_zero {e m : Int} (hm : 0 < m) (h0 : 0 ≤ e) : (e.fdiv m == 0) = decide (e < m) := by
  rw [Int.fdiv_eq_ediv_of_nonneg _ (by omega), Bool.eq_iff_iff]
  simp
  constructor
  · intro h
    have := Int.emod_add_mul_ediv e m
    have := Int.emod_lt_of_pos e hm
    rw [h] at *
    omega
  · intro h
    exact Int.ediv_eq_zero_of_lt h0 h

def graphOk (n e : Int) : Bool := decide ((0 ≤ n ∧ n ≤ 5) ∧ e < 2 ^ (pairsI n).toNat)
noncomputable def sp_graphOk : List AV → Option (AV) := pf (ι := (Int) × (Int)) (α := AV) (fun ⟨n, e⟩ => 0 ≤ e ∧ e ≤ 4294967295) (fun ⟨n, e⟩ => [.agg [.int .i64 n, .int .u32 e]]) (fun ⟨n, e⟩ => .bool (graphOk n e))
theorem sp_graphOk_eq (n e : Int) (h : 0 ≤ e ∧ e ≤ 4294967295) : sp_graphOk [.agg [.int .i64 n, .int .u32 e]] = some (.bool (graphOk n e)) := by
  unfold sp_graphOk
  exact pf_eq (ι := (Int) × (Int)) (α := AV) (n, e) h (by rintro ⟨n', e'⟩ _ e; simp_all [Int.natCast_inj])
theorem q_impl_ValidGraph : QP PP 36 sp_graphOk := by
  refine QP_pf (fun i h => ?_) fun i h => ?_
  · obtain ⟨n, e⟩ := i; exact ⟨by first | rfl | simp, by first | rfl | simp⟩
  obtain ⟨n, e⟩ := i
  replace h : 0 ≤ e ∧ e ≤ 4294967295 := h
  refine P_code (Quiet.q1 q_impl_in (Quiet.q1 q_impl_pairs Quiet.nil)) hmix k_impl_ValidGraph rfl ?_ ?_
  · first | rfl | simp
  show wpc 0 PP _ c_impl_ValidGraph (initSt [.agg [.int .i64 n, .int .u32 e]] .nil) (endP r_impl_ValidGraph (.bool (graphOk n e)))
  simp -dsimp -implicitDefEqProofs [c_impl_ValidGraph, r_impl_ValidGraph]
  by_cases hn : 0 ≤ n ∧ n ≤ 5
  · have h5 : n = 0 ∨ n = 1 ∨ n = 2 ∨ n = 3 ∨ n = 4 ∨ n = 5 := by omega
    rcases h5 with rfl | rfl | rfl | rfl | rfl | rfl <;> simp -dsimp -implicitDefEqProofs [sp_pairs_eq, pI0, pI1, pI2, pI3, pI4, pI5, IntKind.bits]
    all_goals (try rw [fdiv_zero (by decide) h.1])
    all_goals (rw [Bool.eq_iff_iff]; simp [graphOk, pI0, pI1, pI2, pI3, pI4, pI5] <;> omega)
  · have hv : graphOk n e = false := decide_eq_false fun h => hn h.1
    have hv' : (decide (0 ≤ n) && decide (n ≤ 5)) = false := by simpa using hn
    simp -dsimp -implicitDefEqProofs [hv, hv']
theorem q_spec_l01Ok : QP PP 92 sp_graphOk := by
  refine QP_pf (fun i h => ?_) fun i h => ?_
  · obtain ⟨n, e⟩ := i; exact ⟨by first | rfl | simp, by first | rfl | simp⟩
  obtain ⟨n, e⟩ := i
  replace h : 0 ≤ e ∧ e ≤ 4294967295 := h
  refine P_code (Quiet.q1 q_spec_l00In (Quiet.q1 q_spec_l01Bits Quiet.nil)) hmix k_spec_l01Ok rfl ?_ ?_
  · first | rfl | simp
  show wpc 0 PP _ c_spec_l01Ok (initSt [.agg [.int .i64 n, .int .u32 e]] .nil) (endP r_spec_l01Ok (.bool (graphOk n e)))
  have em : e % 18446744073709551616 = e := by omega
  simp -dsimp -implicitDefEqProofs [c_spec_l01Ok, r_spec_l01Ok]
  by_cases hn : 0 ≤ n ∧ n ≤ 5
  · have h5 : n = 0 ∨ n = 1 ∨ n = 2 ∨ n = 3 ∨ n = 4 ∨ n = 5 := by omega
    rcases h5 with rfl | rfl | rfl | rfl | rfl | rfl <;> simp -dsimp -implicitDefEqProofs [sp_pairs_eq, pI0, pI1, pI2, pI3, pI4, pI5, IntKind.bits, IntKind.wrap, IntKind.signed]
    all_goals (rw [em, if_neg (by omega), Bool.eq_iff_iff]; simp [graphOk, pI0, pI1, pI2, pI3, pI4, pI5] <;> omega)
  · have hv : graphOk n e = false := decide_eq_false fun h => hn h.1
    have hv' : (decide (0 ≤ n) && decide (n ≤ 5)) = false := by simpa using hn
    simp -dsimp -implicitDefEqProofs [hv, hv']
noncomputable def sp_badGraph : List AV → Option (AV) := pf (ι := (Int) × (Int)) (α := AV) (fun ⟨n, e⟩ => 0 ≤ e ∧ e ≤ 4294967295) (fun ⟨n, e⟩ => [.agg [.int .i64 n, .int .u32 e]]) (fun ⟨n, e⟩ => .bool (!graphOk n e))
theorem sp_badGraph_eq (n e : Int) (h : 0 ≤ e ∧ e ≤ 4294967295) : sp_badGraph [.agg [.int .i64 n, .int .u32 e]] = some (.bool (!graphOk n e)) := by
  unfold sp_badGraph
  exact pf_eq (ι := (Int) × (Int)) (α := AV) (n, e) h (by rintro ⟨n', e'⟩ _ e; simp_all [Int.natCast_inj])
noncomputable def sp_zero : List AV → Option (AV) := pf (ι := Unit) (α := AV) (fun _ => True) (fun _ => []) (fun _ => .agg [.int .i64 0, .int .i64 1])
theorem sp_zero_eq  : sp_zero [] = some (.agg [.int .i64 0, .int .i64 1]) := by
  unfold sp_zero
  exact pf_eq (ι := Unit) (α := AV) () trivial (by rintro _ _ e; simp_all [Int.natCast_inj])
attribute [simp] sp_zero_eq
theorem q_impl_zero : QP PP 118 sp_zero := by
  refine QP_pf (fun i h => ?_) fun i h => ?_
  · exact ⟨by first | rfl | simp, by first | rfl | simp⟩
  replace h : True := h
  refine P_code Quiet.nil hmix k_impl_zero rfl ?_ ?_
  · first | rfl | simp
  show wpc 0 PP _ c_impl_zero (initSt [] .nil) (endP r_impl_zero (.agg [.int .i64 0, .int .i64 1]))
  simp -dsimp -implicitDefEqProofs [c_impl_zero, r_impl_zero]
noncomputable def sp_one : List AV → Option (AV) := pf (ι := Unit) (α := AV) (fun _ => True) (fun _ => []) (fun _ => .agg [.int .i64 1, .int .i64 1])
theorem sp_one_eq  : sp_one [] = some (.agg [.int .i64 1, .int .i64 1]) := by
  unfold sp_one
  exact pf_eq (ι := Unit) (α := AV) () trivial (by rintro _ _ e; simp_all [Int.natCast_inj])
attribute [simp] sp_one_eq
noncomputable def sp_whole : List AV → Option (AV) := pf (ι := (Int)) (α := AV) (fun n => True) (fun n => [.int .i64 n]) (fun n => .agg [.int .i64 n, .int .i64 1])
theorem sp_whole_eq (n : Int) : sp_whole [.int .i64 n] = some (.agg [.int .i64 n, .int .i64 1]) := by
  unfold sp_whole
  exact pf_eq (ι := (Int)) (α := AV) n trivial (by rintro n' _ e; simp_all [Int.natCast_inj])
attribute [simp] sp_whole_eq
end Go.Proofs.YtgophedkejgedaaDoorAi
end

section
/- Contracts: common divisors, validity of fractions. -/
namespace Go.Proofs.YtgophedkejgedaaDoorAi
open Go Go.RowKit
set_option linter.unusedVariables false
set_option linter.unusedSimpArgs false

theorem gcd_step (x y : Int) : Int.gcd y (x.tmod y) = Int.gcd x y := by
  unfold Int.gcd
  rw [Int.natAbs_tmod, Nat.gcd_comm, ← Nat.gcd_rec, Nat.gcd_comm]
theorem tmod_bound {a b : Int} (ha : -4611686018427387904 ≤ a ∧ a ≤ 4611686018427387904) : -4611686018427387904 ≤ a.tmod b ∧ a.tmod b ≤ 4611686018427387904 := by
  have h1 : (a.tmod b).natAbs = a.natAbs % b.natAbs := Int.natAbs_tmod ..
  have h2 : a.natAbs % b.natAbs ≤ a.natAbs := Nat.mod_le ..
  omega
theorem tmod_less {a b : Int} (hb : b ≠ 0) : (a.tmod b).natAbs < b.natAbs := by
  rw [Int.natAbs_tmod]
  exact Nat.mod_lt _ (by omega)

noncomputable def sp_size : List AV → Option (AV) := pf (ι := (Int)) (α := AV) (fun n => -4611686018427387904 ≤ n ∧ n ≤ 4611686018427387904) (fun n => [.int .i64 n]) (fun n => .int .i64 n.natAbs)
theorem sp_size_eq (n : Int) (h : -4611686018427387904 ≤ n ∧ n ≤ 4611686018427387904) : sp_size [.int .i64 n] = some (.int .i64 n.natAbs) := by
  unfold sp_size
  exact pf_eq (ι := (Int)) (α := AV) n h (by rintro n' _ e; simp_all [Int.natCast_inj])
theorem q_impl_size : QP PP 119 sp_size := by
  refine QP_pf (fun n h => ?_) fun n h => ?_
  · exact ⟨by first | rfl | simp, by first | rfl | simp⟩
  replace h : -4611686018427387904 ≤ n ∧ n ≤ 4611686018427387904 := h
  refine P_code Quiet.nil hmix k_impl_size rfl ?_ ?_
  · first | rfl | simp
  show wpc 0 PP _ c_impl_size (initSt [.int .i64 n] .nil) (endP r_impl_size (.int .i64 n.natAbs))
  have hw : IntKind.i64.wrap (-n) = -n := wrapI64 (by omega) (by omega)
  simp -dsimp -implicitDefEqProofs [c_impl_size, r_impl_size, hw]
  split <;> omega
theorem q_spec_l02Abs : QP PP 122 sp_size := by
  refine QP_pf (fun n h => ?_) fun n h => ?_
  · exact ⟨by first | rfl | simp, by first | rfl | simp⟩
  replace h : -4611686018427387904 ≤ n ∧ n ≤ 4611686018427387904 := h
  refine P_code Quiet.nil hmix k_spec_l02Abs rfl ?_ ?_
  · first | rfl | simp
  show wpc 0 PP _ c_spec_l02Abs (initSt [.int .i64 n] .nil) (endP r_spec_l02Abs (.int .i64 n.natAbs))
  have hw : IntKind.i64.wrap (-n) = -n := wrapI64 (by omega) (by omega)
  simp -dsimp -implicitDefEqProofs [c_spec_l02Abs, r_spec_l02Abs, hw]
  refine brW_of (fun h => ?_) (fun h => ?_) <;> simp only [decide_eq_true_eq, decide_eq_false_iff_not] at h <;> simp -dsimp -implicitDefEqProofs [h, hw] <;> omega

def in62 (n : Int) : Prop := -4611686018427387904 ≤ n ∧ n ≤ 4611686018427387904
noncomputable def sp_gcd : List AV → Option (AV) := pf (ι := (Int) × (Int)) (α := AV) (fun ⟨a, b⟩ => in62 a ∧ in62 b) (fun ⟨a, b⟩ => [.int .i64 a, .int .i64 b]) (fun ⟨a, b⟩ => .int .i64 (Int.gcd a b))
theorem sp_gcd_eq (a b : Int) (h : in62 a ∧ in62 b) : sp_gcd [.int .i64 a, .int .i64 b] = some (.int .i64 (Int.gcd a b)) := by
  unfold sp_gcd
  exact pf_eq (ι := (Int) × (Int)) (α := AV) (a, b) h (by rintro ⟨a', b'⟩ _ e; simp_all [Int.natCast_inj])
theorem q_impl_gcd : QP PP 66 sp_gcd := by
  refine QP_pf (fun i h => ?_) fun i h => ?_
  · obtain ⟨a, b⟩ := i; exact ⟨by first | rfl | simp, by first | rfl | simp⟩
  obtain ⟨a, b⟩ := i
  replace h : in62 a ∧ in62 b := h
  refine P_code (Quiet.q1 q_impl_size Quiet.nil) hmix k_impl_gcd rfl ?_ ?_
  · first | rfl | simp
  show wpc 0 PP _ c_impl_gcd (initSt [.int .i64 a, .int .i64 b] .nil) (endP r_impl_gcd (.int .i64 (Int.gcd a b)))
  simp -dsimp -implicitDefEqProofs [c_impl_gcd, r_impl_gcd]
  refine wpLoop_st (fun (x : Int × Int) => ⟨tl [(0, .int .i64 x.1), (1, .int .i64 x.2)], ⟨[]⟩⟩) (fun x => in62 x.1 ∧ in62 x.2 ∧ Int.gcd x.1 x.2 = Int.gcd a b) (fun x => x.2.natAbs) (a, b) ⟨h.1, h.2, rfl⟩ (Sub.keep (by simp) (by simp [hsub]) (by simp)) ?_
  rintro ⟨x, y⟩ ⟨bx, by_, hg⟩
  simp -dsimp -implicitDefEqProofs
  refine brW_of (fun h => ?_) (fun h => ?_)
  · have hy0 : y ≠ 0 := by simpa using h
    simp -dsimp -implicitDefEqProofs [hy0]
    exact .mk (y, x.tmod y) ⟨by_, tmod_bound bx, by rw [gcd_step]; exact hg⟩ (tmod_less hy0) (Sub.keep (by simp) (by simp [hsub]) (by simp))
  · have hy0 : y = 0 := by simpa using h
    subst hy0
    simp -dsimp -implicitDefEqProofs [sp_size_eq x bx]
    rw [← hg, Int.gcd_zero_right]

noncomputable def sp_common : List AV → Option (AV) := pf (ι := (Int) × (Int)) (α := AV) (fun ⟨a, b⟩ => (0 ≤ a ∧ a ≤ 4611686018427387904) ∧ (0 ≤ b ∧ b ≤ 4611686018427387904)) (fun ⟨a, b⟩ => [.int .i64 a, .int .i64 b]) (fun ⟨a, b⟩ => .int .i64 (Int.gcd a b))
theorem sp_common_eq (a b : Int) (h : (0 ≤ a ∧ a ≤ 4611686018427387904) ∧ (0 ≤ b ∧ b ≤ 4611686018427387904)) : sp_common [.int .i64 a, .int .i64 b] = some (.int .i64 (Int.gcd a b)) := by
  unfold sp_common
  exact pf_eq (ι := (Int) × (Int)) (α := AV) (a, b) h (by rintro ⟨a', b'⟩ _ e; simp_all [Int.natCast_inj])
theorem q_spec_l02Common : QP PP 121 sp_common := by
  refine QP_pf (fun i h => ?_) fun i h => ?_
  · obtain ⟨a, b⟩ := i; exact ⟨by first | rfl | simp, by first | rfl | simp⟩
  obtain ⟨a, b⟩ := i
  replace h : (0 ≤ a ∧ a ≤ 4611686018427387904) ∧ (0 ≤ b ∧ b ≤ 4611686018427387904) := h
  refine P_code Quiet.nil hmix k_spec_l02Common rfl ?_ ?_
  · first | rfl | simp
  show wpc 0 PP _ c_spec_l02Common (initSt [.int .i64 a, .int .i64 b] .nil) (endP r_spec_l02Common (.int .i64 (Int.gcd a b)))
  simp -dsimp -implicitDefEqProofs [c_spec_l02Common, r_spec_l02Common]
  refine wpLoop_st (fun (x : Int × Int) => ⟨tl [(0, .int .i64 x.1), (1, .int .i64 x.2)], ⟨[]⟩⟩) (fun x => (0 ≤ x.1 ∧ x.1 ≤ 4611686018427387904) ∧ (0 ≤ x.2 ∧ x.2 ≤ 4611686018427387904) ∧ Int.gcd x.1 x.2 = Int.gcd a b) (fun x => x.2.natAbs) (a, b) ⟨h.1, h.2, rfl⟩ (Sub.keep (by simp) (by simp [hsub]) (by simp)) ?_
  rintro ⟨x, y⟩ ⟨bx, by_, hg⟩
  simp -dsimp -implicitDefEqProofs
  simp only at bx by_
  refine brW_of (fun h => ?_) (fun h => ?_)
  · have hy0 : y ≠ 0 := by simpa using h
    simp -dsimp -implicitDefEqProofs [hy0]
    exact .mk (y, x.tmod y) ⟨by_, ⟨Int.tmod_nonneg _ bx.1, (tmod_bound ⟨by omega, bx.2⟩).2⟩, by rw [gcd_step]; exact hg⟩ (tmod_less hy0) (Sub.keep (by simp) (by simp [hsub]) (by simp))
  · have hy0 : y = 0 := by simpa using h
    subst hy0
    simp -dsimp -implicitDefEqProofs
    rw [← hg, Int.gcd_zero_right]
    omega

def frOk (p q : Int) : Bool := decide ((-1000000000 ≤ p ∧ p ≤ 1000000000) ∧ (1 ≤ q ∧ q ≤ 1000000000) ∧ Int.gcd p q = 1)
theorem gcd_abs (p q : Int) : Int.gcd (p.natAbs : Int) q = Int.gcd p q := by simp [Int.gcd]
noncomputable def sp_frOk : List AV → Option (AV) := pf (ι := (Int) × (Int)) (α := AV) (fun ⟨p, q⟩ => True) (fun ⟨p, q⟩ => [.agg [.int .i64 p, .int .i64 q]]) (fun ⟨p, q⟩ => .bool (frOk p q))
theorem sp_frOk_eq (p q : Int) : sp_frOk [.agg [.int .i64 p, .int .i64 q]] = some (.bool (frOk p q)) := by
  unfold sp_frOk
  exact pf_eq (ι := (Int) × (Int)) (α := AV) (p, q) trivial (by rintro ⟨p', q'⟩ _ e; simp_all [Int.natCast_inj])
attribute [simp] sp_frOk_eq
theorem q_spec_l02Ok : QP PP 71 sp_frOk := by
  refine QP_pf (fun i h => ?_) fun i h => ?_
  · obtain ⟨p, q⟩ := i; exact ⟨by first | rfl | simp, by first | rfl | simp⟩
  obtain ⟨p, q⟩ := i
  replace h : True := h
  refine P_code (Quiet.q1 q_spec_l00In (Quiet.q1 q_spec_l02Abs (Quiet.q1 q_spec_l02Common Quiet.nil))) hmix k_spec_l02Ok rfl ?_ ?_
  · first | rfl | simp
  show wpc 0 PP _ c_spec_l02Ok (initSt [.agg [.int .i64 p, .int .i64 q]] .nil) (endP r_spec_l02Ok (.bool (frOk p q)))
  simp -dsimp -implicitDefEqProofs [c_spec_l02Ok, r_spec_l02Ok]
  by_cases c1 : -1000000000 ≤ p ∧ p ≤ 1000000000
  · by_cases c2 : 1 ≤ q ∧ q ≤ 1000000000
    · have hv : frOk p q = ((Int.gcd p q : Int) == 1) := by
        unfold frOk
        rw [Bool.eq_iff_iff]
        simp [c1, c2]
        omega
      simp -dsimp -implicitDefEqProofs [sp_size_eq p (by omega), sp_common_eq p.natAbs q (by omega), c1, c2, gcd_abs, hv]
    · have hv : frOk p q = false := decide_eq_false fun h => c2 h.2.1
      have c2' : (decide (1 ≤ q) && decide (q ≤ 1000000000)) = false := by simpa using c2
      simp -dsimp -implicitDefEqProofs [c1, c2', hv]
  · have hv : frOk p q = false := decide_eq_false fun h => c1 h.1
    have c1' : (decide (-1000000000 ≤ p) && decide (p ≤ 1000000000)) = false := by simpa using c1
    simp -dsimp -implicitDefEqProofs [c1', hv]
theorem q_impl_ValidFraction : QP PP 20 sp_frOk := by
  refine QP_pf (fun i h => ?_) fun i h => ?_
  · obtain ⟨p, q⟩ := i; exact ⟨by first | rfl | simp, by first | rfl | simp⟩
  obtain ⟨p, q⟩ := i
  replace h : True := h
  refine P_code (Quiet.q1 q_impl_gcd Quiet.nil) hmix k_impl_ValidFraction rfl ?_ ?_
  · first | rfl | simp
  show wpc 0 PP _ c_impl_ValidFraction (initSt [.agg [.int .i64 p, .int .i64 q]] .nil) (endP r_impl_ValidFraction (.bool (frOk p q)))
  simp -dsimp -implicitDefEqProofs [c_impl_ValidFraction, r_impl_ValidFraction]
  by_cases c : (-1000000000 ≤ p ∧ p ≤ 1000000000) ∧ (1 ≤ q ∧ q ≤ 1000000000)
  · have c1 : 0 < q := by omega
    have c2 : ¬ q < 1 := by omega
    have hv : frOk p q = ((Int.gcd p q : Int) == 1) := by
      unfold frOk
      rw [Bool.eq_iff_iff]
      simp [c.1, c.2]
      omega
    simp -dsimp -implicitDefEqProofs [sp_gcd_eq p q (by unfold in62; omega), c, c1, c2, hv]
  · have hv : frOk p q = false := decide_eq_false fun h => c ⟨h.1, h.2.1⟩
    rw [hv]
    repeat' (refine brW_of (fun h => ?_) (fun h => ?_) <;> have h0 := h <;> (try simp only [Bool.and_eq_true, Bool.and_eq_false_iff, Bool.or_eq_true, Bool.or_eq_false_iff, Bool.not_eq_true', Bool.not_eq_false', decide_eq_true_eq, decide_eq_false_iff_not, beq_iff_eq, beq_eq_false_iff_ne, bne_iff_ne, bne_eq_false_iff_eq] at h) <;> simp -dsimp -implicitDefEqProofs [h, h0, *])
    all_goals (exfalso; apply c; omega)
noncomputable def sp_badFraction : List AV → Option (AV) := pf (ι := (Int) × (Int)) (α := AV) (fun ⟨p, q⟩ => True) (fun ⟨p, q⟩ => [.agg [.int .i64 p, .int .i64 q]]) (fun ⟨p, q⟩ => .bool (!frOk p q))
theorem sp_badFraction_eq (p q : Int) : sp_badFraction [.agg [.int .i64 p, .int .i64 q]] = some (.bool (!frOk p q)) := by
  unfold sp_badFraction
  exact pf_eq (ι := (Int) × (Int)) (α := AV) (p, q) trivial (by rintro ⟨p', q'⟩ _ e; simp_all [Int.natCast_inj])
attribute [simp] sp_badFraction_eq
end Go.Proofs.YtgophedkejgedaaDoorAi
end

section
/- MADE BY PROGRAM (wip/tools/gen.py): the abstract code of functions. -/
namespace Go.Proofs.YtgophedkejgedaaDoorAi
open Go AC AOp Opd
set_option linter.unusedVariables false
set_option maxRecDepth 100000
def c_impl_lowest : AC := seq (reg [⟨(some 4), alloc [.int .i64 0, .int .i64 0], none⟩]) (seq (reg [⟨(some 6), mv (t 0), none⟩, ⟨(some 7), mv (t 1), none⟩, ⟨(some 8), callq (c (.fn 66 [])) [t 6, t 7], none⟩, ⟨(some 5), mv (t 8), none⟩]) (seq (seq (reg [⟨(some 9), mv (t 1), none⟩, ⟨(some 10), bin .lss (t 9) (c (.int .i64 0)), none⟩]) (cond (t 10) (reg [⟨(some 11), mv (t 5), none⟩, ⟨(some 12), un .neg (t 11), none⟩, ⟨(some 5), mv (t 12), none⟩]) (skip))) (seq (reg [⟨(some 13), mv (t 0), none⟩, ⟨(some 14), mv (t 5), none⟩, ⟨(some 15), bin .quo (t 13) (t 14), none⟩, ⟨(some 16), mv (t 1), none⟩, ⟨(some 17), mv (t 5), none⟩, ⟨(some 18), bin .quo (t 16) (t 17), none⟩, ⟨(some 19), bld [.int .i64 0, .int .i64 0] [(0, 1, t 15), (1, 1, t 18)], none⟩, ⟨none, st (t 4) 2 (t 19), none⟩]) (ret))))
def r_impl_lowest : List ARes := [.cell 4 2 true]
theorem k_impl_lowest : acLin Go.Proofs.Tryd.prog 65 2 (inQ [66] []) [⟨false, none, [], [], none⟩, ⟨false, none, [], [], none⟩, ⟨false, none, [], [], none⟩, ⟨false, none, [], [], none⟩, ⟨false, some [0, 1, 2, 3, 4, 5, 6, 7], [], [], none⟩] = some (c_impl_lowest, r_impl_lowest) := by kernel_rfl
def c_spec_l02Lowest : AC := seq (reg [⟨(some 4), alloc [.int .i64 0, .int .i64 0], none⟩, ⟨(some 5), mv (c (.int .i64 0)), none⟩]) (seq (seq (reg [⟨(some 8), mv (t 1), none⟩, ⟨(some 9), bin .lss (t 8) (c (.int .i64 0)), none⟩]) (cond (t 9) (seq (reg [⟨(some 10), mv (t 0), none⟩, ⟨(some 11), un .neg (t 10), none⟩, ⟨(some 0), mv (t 11), none⟩]) (reg [⟨(some 12), mv (t 1), none⟩, ⟨(some 13), un .neg (t 12), none⟩, ⟨(some 1), mv (t 13), none⟩])) (skip))) (seq (reg [⟨(some 14), mv (t 0), none⟩, ⟨(some 15), callq (c (.fn 122 [])) [t 14], none⟩, ⟨(some 16), mv (t 1), none⟩, ⟨(some 17), callq (c (.fn 121 [])) [t 15, t 16], none⟩, ⟨(some 6), mv (t 17), none⟩]) (seq (reg [⟨(some 18), mv (t 0), none⟩, ⟨(some 19), mv (t 6), none⟩, ⟨(some 20), bin .quo (t 18) (t 19), none⟩, ⟨(some 21), mv (t 1), none⟩, ⟨(some 22), mv (t 6), none⟩, ⟨(some 23), bin .quo (t 21) (t 22), none⟩, ⟨(some 24), bld [.int .i64 0, .int .i64 0] [(0, 1, t 20), (1, 1, t 23)], none⟩, ⟨(some 7), alloc [.int .i64 0, .int .i64 0], none⟩, ⟨none, st (t 7) 2 (t 24), none⟩]) (seq (seq (reg [⟨(some 25), fad (t 7) 0, none⟩, ⟨(some 26), ld (t 25) 1 false, none⟩, ⟨(some 27), callq (c (.fn 122 [])) [t 26], none⟩, ⟨(some 28), bin .gtr (t 27) (c (.int .i64 1000000000)), none⟩, ⟨(some 29), mv (t 28), none⟩, ⟨(some 30), fad (t 7) 1, some (29, false)⟩, ⟨(some 31), ld (t 30) 1 false, some (29, false)⟩, ⟨(some 32), bin .gtr (t 31) (c (.int .i64 1000000000)), some (29, false)⟩, ⟨(some 33), pick (t 29) (c (.bool true)) (t 32), none⟩]) (cond (t 33) (seq (reg [⟨(some 34), bld [.int .i64 0, .int .i64 0] [], none⟩, ⟨none, st (t 4) 2 (t 34), none⟩, ⟨(some 5), mv (c (.int .i64 3)), none⟩]) (ret)) (skip))) (seq (reg [⟨(some 35), ld (t 7) 2 true, none⟩, ⟨none, st (t 4) 2 (t 35), none⟩, ⟨(some 5), mv (c (.int .i64 0)), none⟩]) (ret))))))
def r_spec_l02Lowest : List ARes := [.cell 4 2 true, .tmp 5]
theorem k_spec_l02Lowest : acLin Go.Proofs.Tryd.prog 115 2 (inQ [121, 122] []) [⟨false, none, [], [], none⟩, ⟨false, none, [], [], none⟩, ⟨false, none, [], [], none⟩, ⟨false, none, [], [], none⟩, ⟨false, none, [], [], none⟩, ⟨false, some [0, 1, 2, 3, 4, 5, 6, 7, 8], [], [], none⟩] = some (c_spec_l02Lowest, r_spec_l02Lowest) := by kernel_rfl
def c_impl_Fraction_small : AC := seq (reg [⟨(some 1), box 2 (t 0), none⟩, ⟨(some 2), mv (c (.bool false)), none⟩]) (seq (reg [⟨(some 3), fad (t 1) 0, none⟩, ⟨(some 4), ld (t 3) 1 false, none⟩, ⟨(some 5), callq (c (.fn 119 [])) [t 4], none⟩, ⟨(some 6), bin .leq (t 5) (c (.int .i64 1000000000)), none⟩, ⟨(some 7), mv (t 6), none⟩, ⟨(some 8), fad (t 1) 1, some (7, true)⟩, ⟨(some 9), ld (t 8) 1 false, some (7, true)⟩, ⟨(some 10), bin .leq (t 9) (c (.int .i64 1000000000)), some (7, true)⟩, ⟨(some 11), pick (t 7) (t 10) (c (.bool false)), none⟩, ⟨(some 2), mv (t 11), none⟩]) (ret))
def r_impl_Fraction_small : List ARes := [.tmp 2]
theorem k_impl_Fraction_small : acLin Go.Proofs.Tryd.prog 117 1 (inQ [119] []) [] = some (c_impl_Fraction_small, r_impl_Fraction_small) := by kernel_rfl
def c_impl_sums_kept : AC := seq (reg [⟨(some 3), box 2 (t 1), none⟩, ⟨(some 4), alloc [.int .i64 0, .int .i64 0], none⟩]) (seq (seq (reg [⟨(some 5), ld (t 3) 2 true, none⟩, ⟨(some 6), callq (c (.fn 117 [])) [t 5], none⟩, ⟨(some 7), un .not (t 6), none⟩]) (cond (t 7) (seq (reg [⟨(some 8), mv (t 0), none⟩, ⟨(some 9), nilc (t 8), none⟩, ⟨(some 10), fad (t 9) 0, none⟩, ⟨none, st (t 10) 1 (c (.bool true)), none⟩]) (seq (reg [⟨(some 11), callq (c (.fn 118 [])) [], none⟩, ⟨none, st (t 4) 2 (t 11), none⟩]) (ret))) (skip))) (seq (reg [⟨(some 12), ld (t 3) 2 true, none⟩, ⟨none, st (t 4) 2 (t 12), none⟩]) (ret)))
def r_impl_sums_kept : List ARes := [.cell 4 2 true]
theorem k_impl_sums_kept : acLin Go.Proofs.Tryd.prog 64 2 (inQ [117, 118] []) [] = some (c_impl_sums_kept, r_impl_sums_kept) := by kernel_rfl
def c_impl_sums_add : AC := seq (reg [⟨(some 4), box 2 (t 1), none⟩, ⟨(some 5), box 2 (t 2), none⟩, ⟨(some 6), alloc [.int .i64 0, .int .i64 0], none⟩]) (seq (reg [⟨(some 7), mv (t 0), none⟩, ⟨(some 8), fad (t 4) 0, none⟩, ⟨(some 9), ld (t 8) 1 false, none⟩, ⟨(some 10), fad (t 5) 1, none⟩, ⟨(some 11), ld (t 10) 1 false, none⟩, ⟨(some 12), bin .mul (t 9) (t 11), none⟩, ⟨(some 13), fad (t 5) 0, none⟩, ⟨(some 14), ld (t 13) 1 false, none⟩, ⟨(some 15), fad (t 4) 1, none⟩, ⟨(some 16), ld (t 15) 1 false, none⟩, ⟨(some 17), bin .mul (t 14) (t 16), none⟩, ⟨(some 18), bin .add (t 12) (t 17), none⟩, ⟨(some 19), fad (t 4) 1, none⟩, ⟨(some 20), ld (t 19) 1 false, none⟩, ⟨(some 21), fad (t 5) 1, none⟩, ⟨(some 22), ld (t 21) 1 false, none⟩, ⟨(some 23), bin .mul (t 20) (t 22), none⟩, ⟨(some 24), callq (c (.fn 65 [])) [t 18, t 23], none⟩, ⟨(some 25), calle (c (.fn 64 [])) [t 7, t 24] [], none⟩, ⟨none, st (t 6) 2 (t 25), none⟩]) (ret))
def r_impl_sums_add : List ARes := [.cell 6 2 true]
theorem k_impl_sums_add : acLin Go.Proofs.Tryd.prog 70 3 (inQ [65] [64]) [] = some (c_impl_sums_add, r_impl_sums_add) := by kernel_rfl
def c_impl_sums_sub : AC := seq (reg [⟨(some 4), box 2 (t 1), none⟩, ⟨(some 5), box 2 (t 2), none⟩, ⟨(some 6), alloc [.int .i64 0, .int .i64 0], none⟩]) (seq (reg [⟨(some 7), mv (t 0), none⟩, ⟨(some 8), ld (t 4) 2 true, none⟩, ⟨(some 9), fad (t 5) 0, none⟩, ⟨(some 10), ld (t 9) 1 false, none⟩, ⟨(some 11), un .neg (t 10), none⟩, ⟨(some 12), fad (t 5) 1, none⟩, ⟨(some 13), ld (t 12) 1 false, none⟩, ⟨(some 14), bld [.int .i64 0, .int .i64 0] [(0, 1, t 11), (1, 1, t 13)], none⟩, ⟨(some 15), calle (c (.fn 70 [])) [t 7, t 8, t 14] [], none⟩, ⟨none, st (t 6) 2 (t 15), none⟩]) (ret))
def r_impl_sums_sub : List ARes := [.cell 6 2 true]
theorem k_impl_sums_sub : acLin Go.Proofs.Tryd.prog 74 3 (inQ [] [70]) [] = some (c_impl_sums_sub, r_impl_sums_sub) := by kernel_rfl
def c_impl_sums_mul : AC := seq (reg [⟨(some 4), box 2 (t 1), none⟩, ⟨(some 5), box 2 (t 2), none⟩, ⟨(some 6), alloc [.int .i64 0, .int .i64 0], none⟩]) (seq (reg [⟨(some 7), mv (t 0), none⟩, ⟨(some 8), fad (t 4) 0, none⟩, ⟨(some 9), ld (t 8) 1 false, none⟩, ⟨(some 10), fad (t 5) 0, none⟩, ⟨(some 11), ld (t 10) 1 false, none⟩, ⟨(some 12), bin .mul (t 9) (t 11), none⟩, ⟨(some 13), fad (t 4) 1, none⟩, ⟨(some 14), ld (t 13) 1 false, none⟩, ⟨(some 15), fad (t 5) 1, none⟩, ⟨(some 16), ld (t 15) 1 false, none⟩, ⟨(some 17), bin .mul (t 14) (t 16), none⟩, ⟨(some 18), callq (c (.fn 65 [])) [t 12, t 17], none⟩, ⟨(some 19), calle (c (.fn 64 [])) [t 7, t 18] [], none⟩, ⟨none, st (t 6) 2 (t 19), none⟩]) (ret))
def r_impl_sums_mul : List ARes := [.cell 6 2 true]
theorem k_impl_sums_mul : acLin Go.Proofs.Tryd.prog 76 3 (inQ [65] [64]) [] = some (c_impl_sums_mul, r_impl_sums_mul) := by kernel_rfl
def c_impl_sums_div : AC := seq (reg [⟨(some 4), box 2 (t 1), none⟩, ⟨(some 5), box 2 (t 2), none⟩, ⟨(some 6), alloc [.int .i64 0, .int .i64 0], none⟩]) (seq (reg [⟨(some 7), mv (t 0), none⟩, ⟨(some 8), fad (t 4) 0, none⟩, ⟨(some 9), ld (t 8) 1 false, none⟩, ⟨(some 10), fad (t 5) 1, none⟩, ⟨(some 11), ld (t 10) 1 false, none⟩, ⟨(some 12), bin .mul (t 9) (t 11), none⟩, ⟨(some 13), fad (t 4) 1, none⟩, ⟨(some 14), ld (t 13) 1 false, none⟩, ⟨(some 15), fad (t 5) 0, none⟩, ⟨(some 16), ld (t 15) 1 false, none⟩, ⟨(some 17), bin .mul (t 14) (t 16), none⟩, ⟨(some 18), callq (c (.fn 65 [])) [t 12, t 17], none⟩, ⟨(some 19), calle (c (.fn 64 [])) [t 7, t 18] [], none⟩, ⟨none, st (t 6) 2 (t 19), none⟩]) (ret))
def r_impl_sums_div : List ARes := [.cell 6 2 true]
theorem k_impl_sums_div : acLin Go.Proofs.Tryd.prog 79 3 (inQ [65] [64]) [] = some (c_impl_sums_div, r_impl_sums_div) := by kernel_rfl
def c_impl_sums_told : AC := seq (reg [⟨(some 3), box 2 (t 1), none⟩, ⟨(some 4), alloc [.int .i64 0, .int .i64 0], none⟩, ⟨(some 5), mv (c (.int .i64 0)), none⟩]) (seq (seq (reg [⟨(some 6), mv (t 0), none⟩, ⟨(some 7), nilc (t 6), none⟩, ⟨(some 8), fad (t 7) 0, none⟩, ⟨(some 9), ld (t 8) 1 false, none⟩]) (cond (t 9) (seq (reg [⟨(some 10), bld [.int .i64 0, .int .i64 0] [], none⟩, ⟨none, st (t 4) 2 (t 10), none⟩, ⟨(some 5), mv (c (.int .i64 3)), none⟩]) (ret)) (skip))) (seq (reg [⟨(some 11), ld (t 3) 2 true, none⟩, ⟨none, st (t 4) 2 (t 11), none⟩, ⟨(some 5), mv (c (.int .i64 0)), none⟩]) (ret)))
def r_impl_sums_told : List ARes := [.cell 4 2 true, .tmp 5]
theorem k_impl_sums_told : acLin Go.Proofs.Tryd.prog 63 2 (inQ [] []) [] = some (c_impl_sums_told, r_impl_sums_told) := by kernel_rfl
def c_spec_l02Add : AC := seq (reg [⟨(some 2), box 2 (t 0), none⟩, ⟨(some 3), box 2 (t 1), none⟩, ⟨(some 4), alloc [.int .i64 0, .int .i64 0], none⟩, ⟨(some 5), mv (c (.int .i64 0)), none⟩]) (seq (reg [⟨(some 6), fad (t 2) 0, none⟩, ⟨(some 7), ld (t 6) 1 false, none⟩, ⟨(some 8), fad (t 3) 1, none⟩, ⟨(some 9), ld (t 8) 1 false, none⟩, ⟨(some 10), bin .mul (t 7) (t 9), none⟩, ⟨(some 11), fad (t 3) 0, none⟩, ⟨(some 12), ld (t 11) 1 false, none⟩, ⟨(some 13), fad (t 2) 1, none⟩, ⟨(some 14), ld (t 13) 1 false, none⟩, ⟨(some 15), bin .mul (t 12) (t 14), none⟩, ⟨(some 16), bin .add (t 10) (t 15), none⟩, ⟨(some 17), fad (t 2) 1, none⟩, ⟨(some 18), ld (t 17) 1 false, none⟩, ⟨(some 19), fad (t 3) 1, none⟩, ⟨(some 20), ld (t 19) 1 false, none⟩, ⟨(some 21), bin .mul (t 18) (t 20), none⟩, ⟨(some 22), callq (c (.fn 115 [])) [t 16, t 21], none⟩, ⟨(some 23), ext (t 22) 0, none⟩, ⟨(some 24), ext (t 22) 1, none⟩, ⟨none, st (t 4) 2 (t 23), none⟩, ⟨(some 5), mv (t 24), none⟩]) (ret))
def r_spec_l02Add : List ARes := [.cell 4 2 true, .tmp 5]
theorem k_spec_l02Add : acLin Go.Proofs.Tryd.prog 72 2 (inQ [115] []) [] = some (c_spec_l02Add, r_spec_l02Add) := by kernel_rfl
def c_spec_l02Mul : AC := seq (reg [⟨(some 2), box 2 (t 0), none⟩, ⟨(some 3), box 2 (t 1), none⟩, ⟨(some 4), alloc [.int .i64 0, .int .i64 0], none⟩, ⟨(some 5), mv (c (.int .i64 0)), none⟩]) (seq (reg [⟨(some 6), fad (t 2) 0, none⟩, ⟨(some 7), ld (t 6) 1 false, none⟩, ⟨(some 8), fad (t 3) 0, none⟩, ⟨(some 9), ld (t 8) 1 false, none⟩, ⟨(some 10), bin .mul (t 7) (t 9), none⟩, ⟨(some 11), fad (t 2) 1, none⟩, ⟨(some 12), ld (t 11) 1 false, none⟩, ⟨(some 13), fad (t 3) 1, none⟩, ⟨(some 14), ld (t 13) 1 false, none⟩, ⟨(some 15), bin .mul (t 12) (t 14), none⟩, ⟨(some 16), callq (c (.fn 115 [])) [t 10, t 15], none⟩, ⟨(some 17), ext (t 16) 0, none⟩, ⟨(some 18), ext (t 16) 1, none⟩, ⟨none, st (t 4) 2 (t 17), none⟩, ⟨(some 5), mv (t 18), none⟩]) (ret))
def r_spec_l02Mul : List ARes := [.cell 4 2 true, .tmp 5]
theorem k_spec_l02Mul : acLin Go.Proofs.Tryd.prog 77 2 (inQ [115] []) [] = some (c_spec_l02Mul, r_spec_l02Mul) := by kernel_rfl
end Go.Proofs.YtgophedkejgedaaDoorAi
end

section
/- Contracts: fractions in lowest terms, sums, products. -/
namespace Go.Proofs.YtgophedkejgedaaDoorAi
open Go Go.RowKit
set_option linter.unusedVariables false
set_option linter.unusedSimpArgs false

/-- A quotient in lowest terms. -/
def lowP (p q : Int) : Int := (if q < 0 then -p else p).tdiv (Int.gcd p q)
def lowQ (p q : Int) : Int := (if q < 0 then -q else q).tdiv (Int.gcd p q)
theorem gcd_pos {p q : Int} (h : q ≠ 0) : (Int.gcd p q : Int) ≠ 0 := by
  have : 0 < Int.gcd p q := Int.gcd_pos_of_ne_zero_right _ h
  omega
theorem tdiv_small (a b : Int) : (a.tdiv b).natAbs ≤ a.natAbs := by
  rw [Int.natAbs_tdiv]
  exact Nat.div_le_self ..
theorem lowP_in {p q : Int} (h : in62 p) : in62 (lowP p q) := by
  unfold in62 lowP at *
  have := tdiv_small (if q < 0 then -p else p) (Int.gcd p q)
  split at this <;> rename_i hq <;> simp only [hq, if_true, if_false] <;> omega
theorem lowQ_in {p q : Int} (h : in62 q) : in62 (lowQ p q) := by
  unfold in62 lowQ at *
  have := tdiv_small (if q < 0 then -q else q) (Int.gcd p q)
  split at this <;> rename_i hq <;> simp only [hq, if_true, if_false] <;> omega
theorem wrap62 {n : Int} (h : in62 n) : IntKind.i64.wrap n = n := wrapI64 (by unfold in62 at h; omega) (by unfold in62 at h; omega)
theorem tdiv_low (p g : Int) : p.tdiv (-g) = (-p).tdiv g := by rw [Int.tdiv_neg, Int.neg_tdiv]

noncomputable def sp_lowest : List AV → Option (AV) := pf (ι := (Int) × (Int)) (α := AV) (fun ⟨p, q⟩ => in62 p ∧ in62 q ∧ q ≠ 0) (fun ⟨p, q⟩ => [.int .i64 p, .int .i64 q]) (fun ⟨p, q⟩ => .agg [.int .i64 (lowP p q), .int .i64 (lowQ p q)])
theorem sp_lowest_eq (p q : Int) (h : in62 p ∧ in62 q ∧ q ≠ 0) : sp_lowest [.int .i64 p, .int .i64 q] = some (.agg [.int .i64 (lowP p q), .int .i64 (lowQ p q)]) := by
  unfold sp_lowest
  exact pf_eq (ι := (Int) × (Int)) (α := AV) (p, q) h (by rintro ⟨p', q'⟩ _ e; simp_all [Int.natCast_inj])
theorem q_impl_lowest : QP PP 65 sp_lowest := by
  refine QP_pf (fun i h => ?_) fun i h => ?_
  · obtain ⟨p, q⟩ := i; exact ⟨by first | rfl | simp, by first | rfl | simp⟩
  obtain ⟨p, q⟩ := i
  replace h : in62 p ∧ in62 q ∧ q ≠ 0 := h
  refine P_code (Quiet.q1 q_impl_gcd Quiet.nil) hmix k_impl_lowest rfl ?_ ?_
  · first | rfl | simp
  show wpc 0 PP _ c_impl_lowest (initSt [.int .i64 p, .int .i64 q] .nil) (endP r_impl_lowest (.agg [.int .i64 (lowP p q), .int .i64 (lowQ p q)]))
  obtain ⟨hp, hq, h0⟩ := h
  have g0 := gcd_pos (p := p) h0
  have w1 := wrap62 (lowP_in (q := q) hp)
  have w2 := wrap62 (lowQ_in (p := p) hq)
  simp -dsimp -implicitDefEqProofs [c_impl_lowest, r_impl_lowest, sp_gcd_eq p q ⟨hp, hq⟩]
  by_cases hn : q < 0
  · have hg : in62 (Int.gcd p q) := by
      have := Int.gcd_le_natAbs_right (a := p) h0
      unfold in62 at *
      omega
    have w3 : IntKind.i64.wrap (-(Int.gcd p q : Int)) = -(Int.gcd p q : Int) := wrapI64 (by unfold in62 at hg; omega) (by unfold in62 at hg; omega)
    have g0' : ¬ (-(Int.gcd p q : Int)) = 0 := by omega
    have r1 : -(p.tdiv (Int.gcd p q)) = lowP p q := by unfold lowP; rw [if_pos hn, Int.neg_tdiv]
    have r2 : -(q.tdiv (Int.gcd p q)) = lowQ p q := by unfold lowQ; rw [if_pos hn, Int.neg_tdiv]
    simp -dsimp -implicitDefEqProofs [hn, w3, g0', r1, r2, w1, w2, h0]
  · have r1 : p.tdiv (Int.gcd p q) = lowP p q := by unfold lowP; rw [if_neg hn]
    have r2 : q.tdiv (Int.gcd p q) = lowQ p q := by unfold lowQ; rw [if_neg hn]
    simp -dsimp -implicitDefEqProofs [hn, r1, r2, w1, w2, h0]

def smallB (p q : Int) : Bool := decide (p.natAbs ≤ 1000000000) && decide (q ≤ 1000000000)
def lowO (p q : Int) : Option Fr := if smallB (lowP p q) (lowQ p q) = true then some ⟨lowP p q, lowQ p q⟩ else none
/-- A fraction with a code. -/
def frO : Option Fr → AV
  | some x => .tup [frA x, .int .i64 0]
  | none => .tup [.agg [.int .i64 0, .int .i64 0], .int .i64 3]
theorem frO_lt (x : Option Fr) (n : Nat) : (frO x).lt n = true := by cases x <;> rfl
@[simp] theorem frO_ren (x : Option Fr) (f : Nat → Nat) : (frO x).ren f = frO x := by cases x <;> rfl
@[simp] theorem frO_lt' (x : Option Fr) (n : Nat) : (frO x).lt n = true := frO_lt x n
noncomputable def sp_lowO : List AV → Option (AV) := pf (ι := (Int) × (Int)) (α := AV) (fun ⟨p, q⟩ => in62 p ∧ in62 q ∧ q ≠ 0) (fun ⟨p, q⟩ => [.int .i64 p, .int .i64 q]) (fun ⟨p, q⟩ => frO (lowO p q))
theorem sp_lowO_eq (p q : Int) (h : in62 p ∧ in62 q ∧ q ≠ 0) : sp_lowO [.int .i64 p, .int .i64 q] = some (frO (lowO p q)) := by
  unfold sp_lowO
  exact pf_eq (ι := (Int) × (Int)) (α := AV) (p, q) h (by rintro ⟨p', q'⟩ _ e; simp_all [Int.natCast_inj])
theorem q_spec_l02Lowest : QP PP 115 sp_lowO := by
  refine QP_pf (fun i h => ?_) fun i h => ?_
  · obtain ⟨p, q⟩ := i; exact ⟨by first | rfl | simp, by first | rfl | simp⟩
  obtain ⟨p, q⟩ := i
  replace h : in62 p ∧ in62 q ∧ q ≠ 0 := h
  refine P_code (Quiet.q1 q_spec_l02Abs (Quiet.q1 q_spec_l02Common Quiet.nil)) hmix k_spec_l02Lowest rfl ?_ ?_
  · first | rfl | simp
  show wpc 0 PP _ c_spec_l02Lowest (initSt [.int .i64 p, .int .i64 q] .nil) (endP r_spec_l02Lowest (frO (lowO p q)))
  obtain ⟨hp, hq, h0⟩ := h
  have g0 := gcd_pos (p := p) h0
  have b1 := lowP_in (q := q) hp
  have b2 := lowQ_in (p := p) hq
  have w1 := wrap62 b1
  have w2 := wrap62 b2
  by_cases hn : q < 0
  · have n1 : in62 (-p) := by unfold in62 at *; omega
    have n2 : in62 (-q) := by unfold in62 at *; omega
    have d1 := sp_size_eq (-p) n1
    rw [Int.natAbs_neg] at d1
    have d2 := sp_common_eq (p.natAbs : Int) (-q) (by unfold in62 at *; omega)
    rw [gcd_abs, Int.gcd_neg] at d2
    have r1 : -(p.tdiv (Int.gcd p q)) = lowP p q := by unfold lowP; rw [if_pos hn, Int.neg_tdiv]
    have r2 : -(q.tdiv (Int.gcd p q)) = lowQ p q := by unfold lowQ; rw [if_pos hn, Int.neg_tdiv]
    simp -dsimp -implicitDefEqProofs [c_spec_l02Lowest, r_spec_l02Lowest, hn, h0, wrap62 n1, wrap62 n2, d1, d2, g0, r1, r2, w1, w2, sp_size_eq _ b1]
    by_cases c1 : (lowP p q).natAbs ≤ 1000000000
    · have c1' : ¬ (1000000000 : Int) < (lowP p q).natAbs := by omega
      by_cases c : lowQ p q ≤ 1000000000
      · have c' : ¬ 1000000000 < lowQ p q := by omega
        simp -dsimp -implicitDefEqProofs [c1', c', frO, lowO, smallB, c1, c]
      · have c' : 1000000000 < lowQ p q := by omega
        simp -dsimp -implicitDefEqProofs [c1', c', frO, lowO, smallB, c1, c]
    · have c1' : (1000000000 : Int) < (lowP p q).natAbs := by omega
      simp -dsimp -implicitDefEqProofs [c1', frO, lowO, smallB, c1]
  · have d1 := sp_size_eq p hp
    have d2 := sp_common_eq (p.natAbs : Int) q (by unfold in62 at *; omega)
    rw [gcd_abs] at d2
    have r1 : p.tdiv (Int.gcd p q) = lowP p q := by unfold lowP; rw [if_neg hn]
    have r2 : q.tdiv (Int.gcd p q) = lowQ p q := by unfold lowQ; rw [if_neg hn]
    simp -dsimp -implicitDefEqProofs [c_spec_l02Lowest, r_spec_l02Lowest, hn, d1, d2, g0, r1, r2, w1, w2, sp_size_eq _ b1, h0]
    by_cases c1 : (lowP p q).natAbs ≤ 1000000000
    · have c1' : ¬ (1000000000 : Int) < (lowP p q).natAbs := by omega
      by_cases c : lowQ p q ≤ 1000000000
      · have c' : ¬ 1000000000 < lowQ p q := by omega
        simp -dsimp -implicitDefEqProofs [c1', c', frO, lowO, smallB, c1, c]
      · have c' : 1000000000 < lowQ p q := by omega
        simp -dsimp -implicitDefEqProofs [c1', c', frO, lowO, smallB, c1, c]
    · have c1' : (1000000000 : Int) < (lowP p q).natAbs := by omega
      simp -dsimp -implicitDefEqProofs [c1', frO, lowO, smallB, c1]

end Go.Proofs.YtgophedkejgedaaDoorAi
end

section
/- Contracts: sums and products of fractions. -/
namespace Go.Proofs.YtgophedkejgedaaDoorAi
open Go Go.RowKit
set_option linter.unusedVariables false
set_option linter.unusedSimpArgs false

def frIn (p q : Int) : Prop := (-1000000000 ≤ p ∧ p ≤ 1000000000) ∧ (1 ≤ q ∧ q ≤ 1000000000)
theorem mul_small {a b : Int} (ha : a.natAbs ≤ 1000000000) (hb : b.natAbs ≤ 1000000000) : -1000000000000000000 ≤ a * b ∧ a * b ≤ 1000000000000000000 := by
  have h : (a * b).natAbs ≤ 1000000000 * 1000000000 := by rw [Int.natAbs_mul]; exact Nat.mul_le_mul ha hb
  omega
theorem mul_62 {a b : Int} (ha : a.natAbs ≤ 1000000000) (hb : b.natAbs ≤ 1000000000) : in62 (a * b) ∧ IntKind.i64.wrap (a * b) = a * b := by
  have h := mul_small ha hb
  have : in62 (a * b) := by unfold in62; omega
  exact ⟨this, wrap62 this⟩
def valO (o : Option Fr) : Fr := o.getD ⟨0, 1⟩
def addO (p q p' q' : Int) : Option Fr := lowO (p * q' + p' * q) (q * q')
def mulO (p q p' q' : Int) : Option Fr := lowO (p * p') (q * q')
def divO (p q p' q' : Int) : Option Fr := lowO (p * q') (q * p')

theorem lowQ_pos {p q : Int} (h : q ≠ 0) : 1 ≤ lowQ p q := by
  have hd : (Int.gcd p q : Int) ∣ q := Int.gcd_dvd_right ..
  have hg : 0 < Int.gcd p q := Int.gcd_pos_of_ne_zero_right _ h
  have h2 : (Int.gcd p q : Int) ∣ (if q < 0 then -q else q) := by
    split
    · exact (Int.dvd_neg).2 hd
    · exact hd
  obtain ⟨k, hk⟩ := h2
  have hpos : 0 < (if q < 0 then -q else q) := by split <;> omega
  have hkp : 0 < k := by
    rw [hk] at hpos
    rcases Int.lt_trichotomy k 0 with h0 | h0 | h0
    · have := Int.mul_neg_of_pos_of_neg (a := (Int.gcd p q : Int)) (b := k) (by omega) h0; omega
    · rw [h0] at hpos; simp at hpos
    · exact h0
  unfold lowQ
  rw [hk, Int.mul_comm, Int.mul_tdiv_cancel _ (by omega)]
  omega
theorem lowO_in {p q : Int} (h : q ≠ 0) {x : Fr} (e : lowO p q = some x) : frIn x.p x.q := by
  unfold lowO smallB at e
  split at e
  · rename_i hs
    obtain rfl := Option.some.inj e
    simp at hs
    have := lowQ_pos (p := p) h
    unfold frIn
    simp only
    omega
  · cases e
theorem valO_in {p q : Int} (h : q ≠ 0) : frIn (valO (lowO p q)).p (valO (lowO p q)).q := by
  cases e : lowO p q with
  | none => unfold frIn valO; decide
  | some x => exact lowO_in h e
theorem add_pre {p q p' q' : Int} (h : frIn p q) (h' : frIn p' q') : in62 (p * q' + p' * q) ∧ in62 (q * q') ∧ q * q' ≠ 0 ∧ IntKind.i64.wrap (p * q') = p * q' ∧ IntKind.i64.wrap (p' * q) = p' * q ∧ IntKind.i64.wrap (p * q' + p' * q) = p * q' + p' * q ∧ IntKind.i64.wrap (q * q') = q * q' := by
  unfold frIn at *
  have a1 := mul_small (a := p) (b := q') (by omega) (by omega)
  have a2 := mul_small (a := p') (b := q) (by omega) (by omega)
  have a3 := mul_small (a := q) (b := q') (by omega) (by omega)
  have a4 : 0 < q * q' := Int.mul_pos (by omega) (by omega)
  exact ⟨by unfold in62; omega, by unfold in62; omega, by omega, wrapI64 (by omega) (by omega), wrapI64 (by omega) (by omega), wrapI64 (by omega) (by omega), wrapI64 (by omega) (by omega)⟩
theorem mul_pre {p q p' q' : Int} (h : frIn p q) (h' : frIn p' q') : in62 (p * p') ∧ in62 (q * q') ∧ q * q' ≠ 0 ∧ IntKind.i64.wrap (p * p') = p * p' ∧ IntKind.i64.wrap (q * q') = q * q' := by
  unfold frIn at *
  have a1 := mul_small (a := p) (b := p') (by omega) (by omega)
  have a3 := mul_small (a := q) (b := q') (by omega) (by omega)
  have a4 : 0 < q * q' := Int.mul_pos (by omega) (by omega)
  exact ⟨by unfold in62; omega, by unfold in62; omega, by omega, wrapI64 (by omega) (by omega), wrapI64 (by omega) (by omega)⟩
theorem div_pre {p q p' q' : Int} (h : frIn p q) (h' : frIn p' q') (h0 : p' ≠ 0) : in62 (p * q') ∧ in62 (q * p') ∧ q * p' ≠ 0 ∧ IntKind.i64.wrap (p * q') = p * q' ∧ IntKind.i64.wrap (q * p') = q * p' := by
  unfold frIn at *
  have a1 := mul_small (a := p) (b := q') (by omega) (by omega)
  have a3 := mul_small (a := q) (b := p') (by omega) (by omega)
  have a4 : q * p' ≠ 0 := Int.mul_ne_zero (by omega) h0
  exact ⟨by unfold in62; omega, by unfold in62; omega, a4, wrapI64 (by omega) (by omega), wrapI64 (by omega) (by omega)⟩

noncomputable def sp_small : List AV → Option (AV) := pf (ι := (Int) × (Int)) (α := AV) (fun ⟨p, q⟩ => in62 p) (fun ⟨p, q⟩ => [.agg [.int .i64 p, .int .i64 q]]) (fun ⟨p, q⟩ => .bool (smallB p q))
theorem sp_small_eq (p q : Int) (h : in62 p) : sp_small [.agg [.int .i64 p, .int .i64 q]] = some (.bool (smallB p q)) := by
  unfold sp_small
  exact pf_eq (ι := (Int) × (Int)) (α := AV) (p, q) h (by rintro ⟨p', q'⟩ _ e; simp_all [Int.natCast_inj])
theorem q_impl_Fraction_small : QP PP 117 sp_small := by
  refine QP_pf (fun i h => ?_) fun i h => ?_
  · obtain ⟨p, q⟩ := i; exact ⟨by first | rfl | simp, by first | rfl | simp⟩
  obtain ⟨p, q⟩ := i
  replace h : in62 p := h
  refine P_code (Quiet.q1 q_impl_size Quiet.nil) hmix k_impl_Fraction_small rfl ?_ ?_
  · first | rfl | simp
  show wpc 0 PP _ c_impl_Fraction_small (initSt [.agg [.int .i64 p, .int .i64 q]] .nil) (endP r_impl_Fraction_small (.bool (smallB p q)))
  simp -dsimp -implicitDefEqProofs [c_impl_Fraction_small, r_impl_Fraction_small, sp_size_eq p h]
  by_cases e1 : p.natAbs ≤ 1000000000
  · have e1' : (p.natAbs : Int) ≤ 1000000000 := by omega
    simp -dsimp -implicitDefEqProofs [e1', smallB, e1]
  · have e1' : ¬ (p.natAbs : Int) ≤ 1000000000 := by omega
    simp -dsimp -implicitDefEqProofs [e1', smallB, e1]
def keepF (p q : Int) : Fr := if smallB p q = true then ⟨p, q⟩ else ⟨0, 1⟩
noncomputable def sp_kept : List AV → List AV → Option (AV × List AV) := pm (pf (ι := (Bool) × (Int) × (Int)) (α := AV × List AV) (fun ⟨g, p, q⟩ => in62 p) (fun i => .agg ((fun ⟨g, p, q⟩ => [.bool g] : (Bool) × (Int) × (Int) → List AV) i) :: (fun ⟨g, p, q⟩ => [.agg [.int .i64 p, .int .i64 q]] : (Bool) × (Int) × (Int) → List AV) i) (fun ⟨g, p, q⟩ => (frA (keepF p q), [.bool (g || !smallB p q)])))
theorem sp_kept_eq (g : Bool) (p q : Int) (h : in62 p) : sp_kept [.bool g] [.agg [.int .i64 p, .int .i64 q]] = some (frA (keepF p q), [.bool (g || !smallB p q)]) := by
  unfold sp_kept pm
  exact pf_eq (ι := (Bool) × (Int) × (Int)) (α := AV × List AV) (g, p, q) h (by rintro ⟨g', p', q'⟩ _ e; simp_all [Int.natCast_inj])
theorem m_impl_sums_kept : QM PP 64 sp_kept := by
  refine QM_pf (fun i h => ?_) fun i h => ?_
  · obtain ⟨g, p, q⟩ := i; exact ⟨⟨by first | rfl | simp, by first | rfl | simp⟩, by first | rfl | simp, by first | rfl | simp⟩
  obtain ⟨g, p, q⟩ := i
  replace h : in62 p := h
  refine H_code (Quiet.q1 q_impl_Fraction_small (Quiet.q1 q_impl_zero Quiet.nil)) hmix k_impl_sums_kept rfl (fun b => b) (Nat.le_refl _) (fun _ _ => rfl) rfl (by first | rfl | simp) ?_
  show wpc 1 PP _ c_impl_sums_kept (initSt [.ptr 0 0, .agg [.int .i64 p, .int .i64 q]] ⟨[some [.bool g]]⟩) (endH (fun b => b) r_impl_sums_kept (frA (keepF p q)) [some [.bool (g || !smallB p q)]])
  simp -dsimp -implicitDefEqProofs [c_impl_sums_kept, r_impl_sums_kept, sp_small_eq p q h]
  cases e : smallB p q <;> simp -dsimp -implicitDefEqProofs [keepF, e, hsub]
theorem keepF_low (p q : Int) : keepF (lowP p q) (lowQ p q) = valO (lowO p q) := by unfold keepF valO lowO; split <;> rfl
theorem small_low (p q : Int) : (!smallB (lowP p q) (lowQ p q)) = (lowO p q).isNone := by unfold lowO; split <;> simp_all

noncomputable def sp_add : List AV → List AV → Option (AV × List AV) := pm (pf (ι := (Bool) × (Int) × (Int) × (Int) × (Int)) (α := AV × List AV) (fun ⟨g, p, q, p', q'⟩ => frIn p q ∧ frIn p' q') (fun i => .agg ((fun ⟨g, p, q, p', q'⟩ => [.bool g] : (Bool) × (Int) × (Int) × (Int) × (Int) → List AV) i) :: (fun ⟨g, p, q, p', q'⟩ => [.agg [.int .i64 p, .int .i64 q], .agg [.int .i64 p', .int .i64 q']] : (Bool) × (Int) × (Int) × (Int) × (Int) → List AV) i) (fun ⟨g, p, q, p', q'⟩ => (frA (valO (addO p q p' q')), [.bool (g || (addO p q p' q').isNone)])))
theorem sp_add_eq (g : Bool) (p q p' q' : Int) (h : frIn p q ∧ frIn p' q') : sp_add [.bool g] [.agg [.int .i64 p, .int .i64 q], .agg [.int .i64 p', .int .i64 q']] = some (frA (valO (addO p q p' q')), [.bool (g || (addO p q p' q').isNone)]) := by
  unfold sp_add pm
  exact pf_eq (ι := (Bool) × (Int) × (Int) × (Int) × (Int)) (α := AV × List AV) (g, p, q, p', q') h (by rintro ⟨g', p', q', p'', q''⟩ _ e; simp_all [Int.natCast_inj])
theorem m_impl_sums_add : QM PP 70 sp_add := by
  refine QM_pf (fun i h => ?_) fun i h => ?_
  · obtain ⟨g, p, q, p', q'⟩ := i; exact ⟨⟨by first | rfl | simp, by first | rfl | simp⟩, by first | rfl | simp, by first | rfl | simp⟩
  obtain ⟨g, p, q, p', q'⟩ := i
  replace h : frIn p q ∧ frIn p' q' := h
  refine H_code (Quiet.q1 q_impl_lowest (Quiet.e1 m_impl_sums_kept.toE Quiet.nil)) hmix k_impl_sums_add rfl (fun b => b) (Nat.le_refl _) (fun _ _ => rfl) rfl (by first | rfl | simp) ?_
  show wpc 1 PP _ c_impl_sums_add (initSt [.ptr 0 0, .agg [.int .i64 p, .int .i64 q], .agg [.int .i64 p', .int .i64 q']] ⟨[some [.bool g]]⟩) (endH (fun b => b) r_impl_sums_add (frA (valO (addO p q p' q'))) [some [.bool (g || (addO p q p' q').isNone)]])
  obtain ⟨d1, d2, d3, w1, w2, w3, w4⟩ := add_pre h.1 h.2
  simp -dsimp -implicitDefEqProofs [c_impl_sums_add, r_impl_sums_add, w1, w2, w3, w4, sp_lowest_eq _ _ ⟨d1, d2, d3⟩, sp_kept_eq _ _ _ (lowP_in d1), hsub, keepF_low, small_low, addO]
noncomputable def sp_mul : List AV → List AV → Option (AV × List AV) := pm (pf (ι := (Bool) × (Int) × (Int) × (Int) × (Int)) (α := AV × List AV) (fun ⟨g, p, q, p', q'⟩ => frIn p q ∧ frIn p' q') (fun i => .agg ((fun ⟨g, p, q, p', q'⟩ => [.bool g] : (Bool) × (Int) × (Int) × (Int) × (Int) → List AV) i) :: (fun ⟨g, p, q, p', q'⟩ => [.agg [.int .i64 p, .int .i64 q], .agg [.int .i64 p', .int .i64 q']] : (Bool) × (Int) × (Int) × (Int) × (Int) → List AV) i) (fun ⟨g, p, q, p', q'⟩ => (frA (valO (mulO p q p' q')), [.bool (g || (mulO p q p' q').isNone)])))
theorem sp_mul_eq (g : Bool) (p q p' q' : Int) (h : frIn p q ∧ frIn p' q') : sp_mul [.bool g] [.agg [.int .i64 p, .int .i64 q], .agg [.int .i64 p', .int .i64 q']] = some (frA (valO (mulO p q p' q')), [.bool (g || (mulO p q p' q').isNone)]) := by
  unfold sp_mul pm
  exact pf_eq (ι := (Bool) × (Int) × (Int) × (Int) × (Int)) (α := AV × List AV) (g, p, q, p', q') h (by rintro ⟨g', p', q', p'', q''⟩ _ e; simp_all [Int.natCast_inj])
theorem m_impl_sums_mul : QM PP 76 sp_mul := by
  refine QM_pf (fun i h => ?_) fun i h => ?_
  · obtain ⟨g, p, q, p', q'⟩ := i; exact ⟨⟨by first | rfl | simp, by first | rfl | simp⟩, by first | rfl | simp, by first | rfl | simp⟩
  obtain ⟨g, p, q, p', q'⟩ := i
  replace h : frIn p q ∧ frIn p' q' := h
  refine H_code (Quiet.q1 q_impl_lowest (Quiet.e1 m_impl_sums_kept.toE Quiet.nil)) hmix k_impl_sums_mul rfl (fun b => b) (Nat.le_refl _) (fun _ _ => rfl) rfl (by first | rfl | simp) ?_
  show wpc 1 PP _ c_impl_sums_mul (initSt [.ptr 0 0, .agg [.int .i64 p, .int .i64 q], .agg [.int .i64 p', .int .i64 q']] ⟨[some [.bool g]]⟩) (endH (fun b => b) r_impl_sums_mul (frA (valO (mulO p q p' q'))) [some [.bool (g || (mulO p q p' q').isNone)]])
  obtain ⟨d1, d2, d3, w1, w2⟩ := mul_pre h.1 h.2
  simp -dsimp -implicitDefEqProofs [c_impl_sums_mul, r_impl_sums_mul, w1, w2, sp_lowest_eq _ _ ⟨d1, d2, d3⟩, sp_kept_eq _ _ _ (lowP_in d1), hsub, keepF_low, small_low, mulO]
noncomputable def sp_div : List AV → List AV → Option (AV × List AV) := pm (pf (ι := (Bool) × (Int) × (Int) × (Int) × (Int)) (α := AV × List AV) (fun ⟨g, p, q, p', q'⟩ => frIn p q ∧ frIn p' q' ∧ p' ≠ 0) (fun i => .agg ((fun ⟨g, p, q, p', q'⟩ => [.bool g] : (Bool) × (Int) × (Int) × (Int) × (Int) → List AV) i) :: (fun ⟨g, p, q, p', q'⟩ => [.agg [.int .i64 p, .int .i64 q], .agg [.int .i64 p', .int .i64 q']] : (Bool) × (Int) × (Int) × (Int) × (Int) → List AV) i) (fun ⟨g, p, q, p', q'⟩ => (frA (valO (divO p q p' q')), [.bool (g || (divO p q p' q').isNone)])))
theorem sp_div_eq (g : Bool) (p q p' q' : Int) (h : frIn p q ∧ frIn p' q' ∧ p' ≠ 0) : sp_div [.bool g] [.agg [.int .i64 p, .int .i64 q], .agg [.int .i64 p', .int .i64 q']] = some (frA (valO (divO p q p' q')), [.bool (g || (divO p q p' q').isNone)]) := by
  unfold sp_div pm
  exact pf_eq (ι := (Bool) × (Int) × (Int) × (Int) × (Int)) (α := AV × List AV) (g, p, q, p', q') h (by rintro ⟨g', p', q', p'', q''⟩ _ e; simp_all [Int.natCast_inj])
theorem m_impl_sums_div : QM PP 79 sp_div := by
  refine QM_pf (fun i h => ?_) fun i h => ?_
  · obtain ⟨g, p, q, p', q'⟩ := i; exact ⟨⟨by first | rfl | simp, by first | rfl | simp⟩, by first | rfl | simp, by first | rfl | simp⟩
  obtain ⟨g, p, q, p', q'⟩ := i
  replace h : frIn p q ∧ frIn p' q' ∧ p' ≠ 0 := h
  refine H_code (Quiet.q1 q_impl_lowest (Quiet.e1 m_impl_sums_kept.toE Quiet.nil)) hmix k_impl_sums_div rfl (fun b => b) (Nat.le_refl _) (fun _ _ => rfl) rfl (by first | rfl | simp) ?_
  show wpc 1 PP _ c_impl_sums_div (initSt [.ptr 0 0, .agg [.int .i64 p, .int .i64 q], .agg [.int .i64 p', .int .i64 q']] ⟨[some [.bool g]]⟩) (endH (fun b => b) r_impl_sums_div (frA (valO (divO p q p' q'))) [some [.bool (g || (divO p q p' q').isNone)]])
  obtain ⟨d1, d2, d3, w1, w2⟩ := div_pre h.1 h.2.1 h.2.2
  simp -dsimp -implicitDefEqProofs [c_impl_sums_div, r_impl_sums_div, w1, w2, sp_lowest_eq _ _ ⟨d1, d2, d3⟩, sp_kept_eq _ _ _ (lowP_in d1), hsub, keepF_low, small_low, divO]
def subO (p q p' q' : Int) : Option Fr := addO p q (-p') q'
theorem frIn_neg {p q : Int} (h : frIn p q) : frIn (-p) q ∧ IntKind.i64.wrap (-p) = -p := by
  unfold frIn at *
  exact ⟨by omega, wrapI64 (by omega) (by omega)⟩
noncomputable def sp_sub : List AV → List AV → Option (AV × List AV) := pm (pf (ι := (Bool) × (Int) × (Int) × (Int) × (Int)) (α := AV × List AV) (fun ⟨g, p, q, p', q'⟩ => frIn p q ∧ frIn p' q') (fun i => .agg ((fun ⟨g, p, q, p', q'⟩ => [.bool g] : (Bool) × (Int) × (Int) × (Int) × (Int) → List AV) i) :: (fun ⟨g, p, q, p', q'⟩ => [.agg [.int .i64 p, .int .i64 q], .agg [.int .i64 p', .int .i64 q']] : (Bool) × (Int) × (Int) × (Int) × (Int) → List AV) i) (fun ⟨g, p, q, p', q'⟩ => (frA (valO (subO p q p' q')), [.bool (g || (subO p q p' q').isNone)])))
theorem sp_sub_eq (g : Bool) (p q p' q' : Int) (h : frIn p q ∧ frIn p' q') : sp_sub [.bool g] [.agg [.int .i64 p, .int .i64 q], .agg [.int .i64 p', .int .i64 q']] = some (frA (valO (subO p q p' q')), [.bool (g || (subO p q p' q').isNone)]) := by
  unfold sp_sub pm
  exact pf_eq (ι := (Bool) × (Int) × (Int) × (Int) × (Int)) (α := AV × List AV) (g, p, q, p', q') h (by rintro ⟨g', p', q', p'', q''⟩ _ e; simp_all [Int.natCast_inj])
theorem m_impl_sums_sub : QM PP 74 sp_sub := by
  refine QM_pf (fun i h => ?_) fun i h => ?_
  · obtain ⟨g, p, q, p', q'⟩ := i; exact ⟨⟨by first | rfl | simp, by first | rfl | simp⟩, by first | rfl | simp, by first | rfl | simp⟩
  obtain ⟨g, p, q, p', q'⟩ := i
  replace h : frIn p q ∧ frIn p' q' := h
  refine H_code (Quiet.e1 m_impl_sums_add.toE Quiet.nil) hmix k_impl_sums_sub rfl (fun b => b) (Nat.le_refl _) (fun _ _ => rfl) rfl (by first | rfl | simp) ?_
  show wpc 1 PP _ c_impl_sums_sub (initSt [.ptr 0 0, .agg [.int .i64 p, .int .i64 q], .agg [.int .i64 p', .int .i64 q']] ⟨[some [.bool g]]⟩) (endH (fun b => b) r_impl_sums_sub (frA (valO (subO p q p' q'))) [some [.bool (g || (subO p q p' q').isNone)]])
  simp -dsimp -implicitDefEqProofs [c_impl_sums_sub, r_impl_sums_sub, (frIn_neg h.2).2, sp_add_eq _ _ _ _ _ ⟨h.1, (frIn_neg h.2).1⟩, hsub, subO]
def toldA (g : Bool) (p q : Int) : AV := if g = true then .tup [.agg [.int .i64 0, .int .i64 0], .int .i64 3] else .tup [.agg [.int .i64 p, .int .i64 q], .int .i64 0]
@[simp] theorem toldA_ren (g : Bool) (p q : Int) (f : Nat → Nat) : (toldA g p q).ren f = toldA g p q := by cases g <;> rfl
@[simp] theorem toldA_lt (g : Bool) (p q : Int) (n : Nat) : (toldA g p q).lt n = true := by cases g <;> rfl
noncomputable def sp_told : List AV → List AV → Option (AV × List AV) := pm (pf (ι := (Bool) × (Int) × (Int)) (α := AV × List AV) (fun ⟨g, p, q⟩ => True) (fun i => .agg ((fun ⟨g, p, q⟩ => [.bool g] : (Bool) × (Int) × (Int) → List AV) i) :: (fun ⟨g, p, q⟩ => [.agg [.int .i64 p, .int .i64 q]] : (Bool) × (Int) × (Int) → List AV) i) (fun ⟨g, p, q⟩ => (toldA g p q, [.bool g])))
theorem sp_told_eq (g : Bool) (p q : Int) : sp_told [.bool g] [.agg [.int .i64 p, .int .i64 q]] = some (toldA g p q, [.bool g]) := by
  unfold sp_told pm
  exact pf_eq (ι := (Bool) × (Int) × (Int)) (α := AV × List AV) (g, p, q) trivial (by rintro ⟨g', p', q'⟩ _ e; simp_all [Int.natCast_inj])
attribute [simp] sp_told_eq
theorem m_impl_sums_told : QM PP 63 sp_told := by
  refine QM_pf (fun i h => ?_) fun i h => ?_
  · obtain ⟨g, p, q⟩ := i; exact ⟨⟨by first | rfl | simp, by first | rfl | simp⟩, by first | rfl | simp, by first | rfl | simp⟩
  obtain ⟨g, p, q⟩ := i
  replace h : True := h
  refine H_code Quiet.nil hmix k_impl_sums_told rfl (fun b => b) (Nat.le_refl _) (fun _ _ => rfl) rfl (by first | rfl | simp) ?_
  show wpc 1 PP _ c_impl_sums_told (initSt [.ptr 0 0, .agg [.int .i64 p, .int .i64 q]] ⟨[some [.bool g]]⟩) (endH (fun b => b) r_impl_sums_told (toldA g p q) [some [.bool g]])
  cases g <;> simp -dsimp -implicitDefEqProofs [c_impl_sums_told, r_impl_sums_told, hsub, toldA]

noncomputable def sp_l02Add : List AV → Option (AV) := pf (ι := (Int) × (Int) × (Int) × (Int)) (α := AV) (fun ⟨p, q, p', q'⟩ => frIn p q ∧ frIn p' q') (fun ⟨p, q, p', q'⟩ => [.agg [.int .i64 p, .int .i64 q], .agg [.int .i64 p', .int .i64 q']]) (fun ⟨p, q, p', q'⟩ => frO (addO p q p' q'))
theorem sp_l02Add_eq (p q p' q' : Int) (h : frIn p q ∧ frIn p' q') : sp_l02Add [.agg [.int .i64 p, .int .i64 q], .agg [.int .i64 p', .int .i64 q']] = some (frO (addO p q p' q')) := by
  unfold sp_l02Add
  exact pf_eq (ι := (Int) × (Int) × (Int) × (Int)) (α := AV) (p, q, p', q') h (by rintro ⟨p', q', p'', q''⟩ _ e; simp_all [Int.natCast_inj])
theorem q_spec_l02Add : QP PP 72 sp_l02Add := by
  refine QP_pf (fun i h => ?_) fun i h => ?_
  · obtain ⟨p, q, p', q'⟩ := i; exact ⟨by first | rfl | simp, by first | rfl | simp⟩
  obtain ⟨p, q, p', q'⟩ := i
  replace h : frIn p q ∧ frIn p' q' := h
  refine P_code (Quiet.q1 q_spec_l02Lowest Quiet.nil) hmix k_spec_l02Add rfl ?_ ?_
  · first | rfl | simp
  show wpc 0 PP _ c_spec_l02Add (initSt [.agg [.int .i64 p, .int .i64 q], .agg [.int .i64 p', .int .i64 q']] .nil) (endP r_spec_l02Add (frO (addO p q p' q')))
  obtain ⟨d1, d2, d3, w1, w2, w3, w4⟩ := add_pre h.1 h.2
  simp -dsimp -implicitDefEqProofs [c_spec_l02Add, r_spec_l02Add, w1, w2, w3, w4, sp_lowO_eq _ _ ⟨d1, d2, d3⟩, addO]
  cases lowO (p * q' + p' * q) (q * q') <;> simp -dsimp -implicitDefEqProofs [frO]
noncomputable def sp_l02Mul : List AV → Option (AV) := pf (ι := (Int) × (Int) × (Int) × (Int)) (α := AV) (fun ⟨p, q, p', q'⟩ => frIn p q ∧ frIn p' q') (fun ⟨p, q, p', q'⟩ => [.agg [.int .i64 p, .int .i64 q], .agg [.int .i64 p', .int .i64 q']]) (fun ⟨p, q, p', q'⟩ => frO (mulO p q p' q'))
theorem sp_l02Mul_eq (p q p' q' : Int) (h : frIn p q ∧ frIn p' q') : sp_l02Mul [.agg [.int .i64 p, .int .i64 q], .agg [.int .i64 p', .int .i64 q']] = some (frO (mulO p q p' q')) := by
  unfold sp_l02Mul
  exact pf_eq (ι := (Int) × (Int) × (Int) × (Int)) (α := AV) (p, q, p', q') h (by rintro ⟨p', q', p'', q''⟩ _ e; simp_all [Int.natCast_inj])
theorem q_spec_l02Mul : QP PP 77 sp_l02Mul := by
  refine QP_pf (fun i h => ?_) fun i h => ?_
  · obtain ⟨p, q, p', q'⟩ := i; exact ⟨by first | rfl | simp, by first | rfl | simp⟩
  obtain ⟨p, q, p', q'⟩ := i
  replace h : frIn p q ∧ frIn p' q' := h
  refine P_code (Quiet.q1 q_spec_l02Lowest Quiet.nil) hmix k_spec_l02Mul rfl ?_ ?_
  · first | rfl | simp
  show wpc 0 PP _ c_spec_l02Mul (initSt [.agg [.int .i64 p, .int .i64 q], .agg [.int .i64 p', .int .i64 q']] .nil) (endP r_spec_l02Mul (frO (mulO p q p' q')))
  obtain ⟨d1, d2, d3, w1, w2⟩ := mul_pre h.1 h.2
  simp -dsimp -implicitDefEqProofs [c_spec_l02Mul, r_spec_l02Mul, w1, w2, sp_lowO_eq _ _ ⟨d1, d2, d3⟩, mulO]
  cases lowO (p * p') (q * q') <;> simp -dsimp -implicitDefEqProofs [frO]
noncomputable def sp_l02Div : List AV → Option (AV) := pf (ι := (Int) × (Int) × (Int) × (Int)) (α := AV) (fun ⟨p, q, p', q'⟩ => frIn p q ∧ frIn p' q' ∧ p' ≠ 0) (fun ⟨p, q, p', q'⟩ => [.agg [.int .i64 p, .int .i64 q], .agg [.int .i64 p', .int .i64 q']]) (fun ⟨p, q, p', q'⟩ => frO (divO p q p' q'))
theorem sp_l02Div_eq (p q p' q' : Int) (h : frIn p q ∧ frIn p' q' ∧ p' ≠ 0) : sp_l02Div [.agg [.int .i64 p, .int .i64 q], .agg [.int .i64 p', .int .i64 q']] = some (frO (divO p q p' q')) := by
  unfold sp_l02Div
  exact pf_eq (ι := (Int) × (Int) × (Int) × (Int)) (α := AV) (p, q, p', q') h (by rintro ⟨p', q', p'', q''⟩ _ e; simp_all [Int.natCast_inj])
noncomputable def sp_opposite : List AV → Option (AV) := pf (ι := (Int) × (Int)) (α := AV) (fun ⟨p, q⟩ => frIn p q) (fun ⟨p, q⟩ => [.agg [.int .i64 p, .int .i64 q]]) (fun ⟨p, q⟩ => .agg [.int .i64 (-p), .int .i64 q])
theorem sp_opposite_eq (p q : Int) (h : frIn p q) : sp_opposite [.agg [.int .i64 p, .int .i64 q]] = some (.agg [.int .i64 (-p), .int .i64 q]) := by
  unfold sp_opposite
  exact pf_eq (ι := (Int) × (Int)) (α := AV) (p, q) h (by rintro ⟨p', q'⟩ _ e; simp_all [Int.natCast_inj])
noncomputable def sp_l02Sub : List AV → Option (AV) := pf (ι := (Int) × (Int) × (Int) × (Int)) (α := AV) (fun ⟨p, q, p', q'⟩ => frIn p q ∧ frIn p' q') (fun ⟨p, q, p', q'⟩ => [.agg [.int .i64 p, .int .i64 q], .agg [.int .i64 p', .int .i64 q']]) (fun ⟨p, q, p', q'⟩ => frO (subO p q p' q'))
theorem sp_l02Sub_eq (p q p' q' : Int) (h : frIn p q ∧ frIn p' q') : sp_l02Sub [.agg [.int .i64 p, .int .i64 q], .agg [.int .i64 p', .int .i64 q']] = some (frO (subO p q p' q')) := by
  unfold sp_l02Sub
  exact pf_eq (ι := (Int) × (Int) × (Int) × (Int)) (α := AV) (p, q, p', q') h (by rintro ⟨p', q', p'', q''⟩ _ e; simp_all [Int.natCast_inj])
end Go.Proofs.YtgophedkejgedaaDoorAi
end

section
/- Contracts: products of lists, sums of lists. -/
namespace Go.Proofs.YtgophedkejgedaaDoorAi
open Go Go.RowKit
set_option linter.unusedVariables false
set_option linter.unusedSimpArgs false

def allIn (l : List Fr) : Prop := ∀ x ∈ l, frIn x.p x.q
theorem allIn.get {l : List Fr} (h : allIn l) {i : Nat} (hi : i < l.length) : frIn l[i].p l[i].q := h _ (List.getElem_mem hi)
theorem drop_cons {α : Type} {l : List α} {i : Nat} (h : i < l.length) : l.drop i = l[i] :: l.drop (i + 1) := by simp
theorem drop_end {α : Type} {l : List α} {i : Nat} (h : ¬ i < l.length) : l.drop i = [] := List.drop_eq_nil_of_le (by omega)
def add2 (x y : Fr) : Option Fr := addO x.p x.q y.p y.q
def mul2 (x y : Fr) : Option Fr := mulO x.p x.q y.p y.q
theorem add2_in {x y : Fr} (h1 : frIn x.p x.q) (h2 : frIn y.p y.q) : frIn (valO (add2 x y)).p (valO (add2 x y)).q := valO_in (add_pre h1 h2).2.2.1
theorem mul2_in {x y : Fr} (h1 : frIn x.p x.q) (h2 : frIn y.p y.q) : frIn (valO (mul2 x y)).p (valO (mul2 x y)).q := valO_in (mul_pre h1 h2).2.2.1
theorem add2_some {x y z : Fr} (h1 : frIn x.p x.q) (h2 : frIn y.p y.q) (e : add2 x y = some z) : frIn z.p z.q := lowO_in (add_pre h1 h2).2.2.1 e
theorem mul2_some {x y z : Fr} (h1 : frIn x.p x.q) (h2 : frIn y.p y.q) (e : mul2 x y = some z) : frIn z.p z.q := lowO_in (mul_pre h1 h2).2.2.1 e
theorem zero_in : frIn 0 1 := by unfold frIn; decide

/-- The sum of products; whether one was too large. -/
def dotG : Fr → Bool → List Fr → List Fr → Fr × Bool
  | a, g, x :: xs, y :: ys => dotG (valO (add2 a (valO (mul2 x y)))) ((g || (mul2 x y).isNone) || (add2 a (valO (mul2 x y))).isNone) xs ys
  | a, g, [], _ => (a, g)
  | a, g, _ :: _, [] => (a, g)
theorem dotG_in : ∀ (xs ys : List Fr) (a : Fr) (g : Bool), frIn a.p a.q → allIn xs → allIn ys → frIn (dotG a g xs ys).1.p (dotG a g xs ys).1.q
  | [], ys, a, g, h, _, _ => by simpa [dotG] using h
  | x :: xs, [], a, g, h, _, _ => by simpa [dotG] using h
  | x :: xs, y :: ys, a, g, h, h1, h2 => by
    rw [dotG]
    exact dotG_in xs ys _ _ (add2_in h (mul2_in (h1 x (List.mem_cons_self ..)) (h2 y (List.mem_cons_self ..)))) (fun z hz => h1 z (List.mem_cons_of_mem _ hz)) (fun z hz => h2 z (List.mem_cons_of_mem _ hz))

noncomputable def sp_dot : List AV → List AV → Option (AV × List AV) := pm (pf (ι := (Bool) × (List Fr) × (List Fr)) (α := AV × List AV) (fun ⟨g, xs, ys⟩ => (allIn xs ∧ allIn ys) ∧ xs.length ≤ ys.length ∧ xs.length ≤ 1000000) (fun i => .agg ((fun ⟨g, xs, ys⟩ => [.bool g] : (Bool) × (List Fr) × (List Fr) → List AV) i) :: (fun ⟨g, xs, ys⟩ => [.sl (frsA xs) false, .sl (frsA ys) false] : (Bool) × (List Fr) × (List Fr) → List AV) i) (fun ⟨g, xs, ys⟩ => (frA (dotG ⟨0, 1⟩ g xs ys).1, [.bool (dotG ⟨0, 1⟩ g xs ys).2])))
theorem sp_dot_eq (g : Bool) (xs ys : List Fr) (h : (allIn xs ∧ allIn ys) ∧ xs.length ≤ ys.length ∧ xs.length ≤ 1000000) : sp_dot [.bool g] [.sl (frsA xs) false, .sl (frsA ys) false] = some (frA (dotG ⟨0, 1⟩ g xs ys).1, [.bool (dotG ⟨0, 1⟩ g xs ys).2]) := by
  unfold sp_dot pm
  exact pf_eq (ι := (Bool) × (List Fr) × (List Fr)) (α := AV × List AV) (g, xs, ys) h (by rintro ⟨g', xs', ys'⟩ _ e; simp_all [Int.natCast_inj])
/-- The sum of products, if none was too large. -/
def dotO : Fr → List Fr → List Fr → Option Fr
  | a, x :: xs, y :: ys => (mul2 x y).bind fun m => (add2 a m).bind fun s => dotO s xs ys
  | a, [], _ => some a
  | a, _ :: _, [] => some a
theorem dotO_G : ∀ (xs ys : List Fr) (a : Fr) (g : Bool), (∀ v, dotO a xs ys = some v → dotG a g xs ys = (v, g)) ∧ (dotO a xs ys = none → (dotG a g xs ys).2 = true)
  | [], ys, a, g => by simp [dotO, dotG]
  | x :: xs, [], a, g => by simp [dotO, dotG]
  | x :: xs, y :: ys, a, g => by
    have hg : ∀ (xs ys : List Fr) (a : Fr), (dotG a true xs ys).2 = true := by
      intro xs
      induction xs with
      | nil => intro ys a; rfl
      | cons x xs ih =>
        intro ys a
        cases ys with
        | nil => rfl
        | cons y ys => rw [dotG]; simpa using ih ys _
    rw [dotO, dotG]
    cases hm : mul2 x y with
    | none => simp [hg]
    | some m =>
      cases ha : add2 a m with
      | none => simp [valO, ha, hg]
      | some s => simpa [valO, ha] using dotO_G xs ys s g

noncomputable def sp_l02Dot : List AV → Option (AV) := pf (ι := (List Fr) × (List Fr)) (α := AV) (fun ⟨xs, ys⟩ => (allIn xs ∧ allIn ys) ∧ xs.length ≤ ys.length ∧ xs.length ≤ 1000000) (fun ⟨xs, ys⟩ => [.sl (frsA xs) false, .sl (frsA ys) false]) (fun ⟨xs, ys⟩ => frO (dotO ⟨0, 1⟩ xs ys))
theorem sp_l02Dot_eq (xs ys : List Fr) (h : (allIn xs ∧ allIn ys) ∧ xs.length ≤ ys.length ∧ xs.length ≤ 1000000) : sp_l02Dot [.sl (frsA xs) false, .sl (frsA ys) false] = some (frO (dotO ⟨0, 1⟩ xs ys)) := by
  unfold sp_l02Dot
  exact pf_eq (ι := (List Fr) × (List Fr)) (α := AV) (xs, ys) h (by rintro ⟨xs', ys'⟩ _ e; simp_all [Int.natCast_inj])
def allOk (l : List Fr) : Bool := l.all fun x => frOk x.p x.q
theorem frOk_in {p q : Int} (h : frOk p q = true) : frIn p q := by
  have := of_decide_eq_true h
  unfold frIn
  exact ⟨this.1, this.2.1⟩
theorem allOk_in {l : List Fr} (h : allOk l = true) : allIn l := fun x hx => frOk_in (List.all_eq_true.1 h x hx)
theorem allOk_false {l : List Fr} {i : Nat} (h : i < l.length) (hf : frOk l[i].p l[i].q = false) : allOk l = false := by
  unfold allOk
  rw [List.all_eq_false]
  exact ⟨l[i], List.getElem_mem h, by simp [hf]⟩
theorem allOk_step {l : List Fr} {i : Nat} (h : i < l.length) (h1 : allOk (l.take i) = true) (h2 : frOk l[i].p l[i].q = true) : allOk (l.take (i + 1)) = true := by
  rw [take_snoc l i h]
  unfold allOk at *
  rw [List.all_append, h1]
  simp [h2]

end Go.Proofs.YtgophedkejgedaaDoorAi
end

section
/- MADE BY PROGRAM (wip/tools/gen.py): the abstract code of functions. -/
namespace Go.Proofs.YtgophedkejgedaaDoorAi
open Go AC AOp Opd
set_option linter.unusedVariables false
set_option maxRecDepth 100000
def c_impl_compare : AC := seq (reg [⟨(some 2), box 2 (t 0), none⟩, ⟨(some 3), box 2 (t 1), none⟩, ⟨(some 4), mv (c (.int .i64 0)), none⟩]) (seq (reg [⟨(some 5), fad (t 2) 0, none⟩, ⟨(some 6), ld (t 5) 1 false, none⟩, ⟨(some 7), fad (t 3) 1, none⟩, ⟨(some 8), ld (t 7) 1 false, none⟩, ⟨(some 9), bin .mul (t 6) (t 8), none⟩, ⟨(some 10), fad (t 3) 0, none⟩, ⟨(some 11), ld (t 10) 1 false, none⟩, ⟨(some 12), fad (t 2) 1, none⟩, ⟨(some 13), ld (t 12) 1 false, none⟩, ⟨(some 14), bin .mul (t 11) (t 13), none⟩, ⟨(some 15), callq (c (.fn 120 [])) [t 9, t 14], none⟩, ⟨(some 4), mv (t 15), none⟩]) (ret))
def r_impl_compare : List ARes := [.tmp 4]
theorem k_impl_compare : acLin Go.Proofs.Tryd.prog 67 2 (inQ [120] []) [] = some (c_impl_compare, r_impl_compare) := by kernel_rfl
def c_cmp_Compare_int64 : AC := seq (reg [⟨(some 4), mv (c (.int .i64 0)), none⟩]) (seq (reg [⟨(some 7), mv (t 0), none⟩, ⟨(some 8), callq (c (.fn 152 [])) [t 7], none⟩, ⟨(some 5), mv (t 8), none⟩]) (seq (reg [⟨(some 9), mv (t 1), none⟩, ⟨(some 10), callq (c (.fn 152 [])) [t 9], none⟩, ⟨(some 6), mv (t 10), none⟩]) (seq (seq (reg [⟨(some 11), mv (t 5), none⟩]) (cond (t 11) (seq (seq (reg [⟨(some 12), mv (t 6), none⟩]) (cond (t 12) (seq (reg [⟨(some 4), mv (c (.int .i64 0)), none⟩]) (ret)) (skip))) (seq (reg [⟨(some 4), mv (c (.int .i64 (-1))), none⟩]) (ret))) (skip))) (seq (seq (reg [⟨(some 13), mv (t 6), none⟩]) (cond (t 13) (seq (reg [⟨(some 4), mv (c (.int .i64 1)), none⟩]) (ret)) (skip))) (seq (seq (reg [⟨(some 14), mv (t 0), none⟩, ⟨(some 15), mv (t 1), none⟩, ⟨(some 16), bin .lss (t 14) (t 15), none⟩]) (cond (t 16) (seq (reg [⟨(some 4), mv (c (.int .i64 (-1))), none⟩]) (ret)) (skip))) (seq (seq (reg [⟨(some 17), mv (t 0), none⟩, ⟨(some 18), mv (t 1), none⟩, ⟨(some 19), bin .gtr (t 17) (t 18), none⟩]) (cond (t 19) (seq (reg [⟨(some 4), mv (c (.int .i64 1)), none⟩]) (ret)) (skip))) (seq (reg [⟨(some 4), mv (c (.int .i64 0)), none⟩]) (ret))))))))
def r_cmp_Compare_int64 : List ARes := [.tmp 4]
theorem k_cmp_Compare_int64 : acLin Go.Proofs.Tryd.prog 120 2 (inQ [152] []) [] = some (c_cmp_Compare_int64, r_cmp_Compare_int64) := by kernel_rfl
def c_cmp_isNaN_int64 : AC := seq (reg [⟨(some 2), mv (c (.bool false)), none⟩]) (seq (reg [⟨(some 3), mv (t 0), none⟩, ⟨(some 4), mv (t 0), none⟩, ⟨(some 5), bin .neq (t 3) (t 4), none⟩, ⟨(some 2), mv (t 5), none⟩]) (ret))
def r_cmp_isNaN_int64 : List ARes := [.tmp 2]
theorem k_cmp_isNaN_int64 : acLin Go.Proofs.Tryd.prog 152 1 (inQ [] []) [] = some (c_cmp_isNaN_int64, r_cmp_isNaN_int64) := by kernel_rfl
end Go.Proofs.YtgophedkejgedaaDoorAi
end

section
/- Contracts: comparing fractions. -/
namespace Go.Proofs.YtgophedkejgedaaDoorAi
open Go Go.RowKit
set_option linter.unusedVariables false
set_option linter.unusedSimpArgs false
set_option maxRecDepth 20000

def signI (a b : Int) : Int := if a < b then -1 else if b < a then 1 else 0
noncomputable def sp_nan : List AV → Option (AV) := pf (ι := (Int)) (α := AV) (fun a => True) (fun a => [.int .i64 a]) (fun a => .bool false)
theorem sp_nan_eq (a : Int) : sp_nan [.int .i64 a] = some (.bool false) := by
  unfold sp_nan
  exact pf_eq (ι := (Int)) (α := AV) a trivial (by rintro a' _ e; simp_all [Int.natCast_inj])
attribute [simp] sp_nan_eq
theorem q_cmp_isNaN_int64 : QP PP 152 sp_nan := by
  refine QP_pf (fun a h => ?_) fun a h => ?_
  · exact ⟨by first | rfl | simp, by first | rfl | simp⟩
  replace h : True := h
  refine P_code Quiet.nil hmix k_cmp_isNaN_int64 rfl ?_ ?_
  · first | rfl | simp
  show wpc 0 PP _ c_cmp_isNaN_int64 (initSt [.int .i64 a] .nil) (endP r_cmp_isNaN_int64 (.bool false))
  simp -dsimp -implicitDefEqProofs [c_cmp_isNaN_int64, r_cmp_isNaN_int64]
noncomputable def sp_cmpI : List AV → Option (AV) := pf (ι := (Int) × (Int)) (α := AV) (fun ⟨a, b⟩ => True) (fun ⟨a, b⟩ => [.int .i64 a, .int .i64 b]) (fun ⟨a, b⟩ => .int .i64 (signI a b))
theorem sp_cmpI_eq (a b : Int) : sp_cmpI [.int .i64 a, .int .i64 b] = some (.int .i64 (signI a b)) := by
  unfold sp_cmpI
  exact pf_eq (ι := (Int) × (Int)) (α := AV) (a, b) trivial (by rintro ⟨a', b'⟩ _ e; simp_all [Int.natCast_inj])
attribute [simp] sp_cmpI_eq
theorem q_cmp_Compare_int64 : QP PP 120 sp_cmpI := by
  refine QP_pf (fun i h => ?_) fun i h => ?_
  · obtain ⟨a, b⟩ := i; exact ⟨by first | rfl | simp, by first | rfl | simp⟩
  obtain ⟨a, b⟩ := i
  replace h : True := h
  refine P_code (Quiet.q1 q_cmp_isNaN_int64 Quiet.nil) hmix k_cmp_Compare_int64 rfl ?_ ?_
  · first | rfl | simp
  show wpc 0 PP _ c_cmp_Compare_int64 (initSt [.int .i64 a, .int .i64 b] .nil) (endP r_cmp_Compare_int64 (.int .i64 (signI a b)))
  unfold signI
  have h1 := sp_nan_eq a
  have h2 := sp_nan_eq b
  by_cases c : a < b
  · simp -dsimp -implicitDefEqProofs [c_cmp_Compare_int64, r_cmp_Compare_int64, h1, h2, c]
  · by_cases d : b < a
    · simp -dsimp -implicitDefEqProofs [c_cmp_Compare_int64, r_cmp_Compare_int64, h1, h2, c, d]
    · simp -dsimp -implicitDefEqProofs [c_cmp_Compare_int64, r_cmp_Compare_int64, h1, h2, c, d]
def compF (p q p' q' : Int) : Int := signI (IntKind.i64.wrap (p * q')) (IntKind.i64.wrap (p' * q))
noncomputable def sp_comp : List AV → Option (AV) := pf (ι := (Int) × (Int) × (Int) × (Int)) (α := AV) (fun ⟨p, q, p', q'⟩ => True) (fun ⟨p, q, p', q'⟩ => [.agg [.int .i64 p, .int .i64 q], .agg [.int .i64 p', .int .i64 q']]) (fun ⟨p, q, p', q'⟩ => .int .i64 (compF p q p' q'))
theorem sp_comp_eq (p q p' q' : Int) : sp_comp [.agg [.int .i64 p, .int .i64 q], .agg [.int .i64 p', .int .i64 q']] = some (.int .i64 (compF p q p' q')) := by
  unfold sp_comp
  exact pf_eq (ι := (Int) × (Int) × (Int) × (Int)) (α := AV) (p, q, p', q') trivial (by rintro ⟨p', q', p'', q''⟩ _ e; simp_all [Int.natCast_inj])
attribute [simp] sp_comp_eq
theorem q_impl_compare : QP PP 67 sp_comp := by
  refine QP_pf (fun i h => ?_) fun i h => ?_
  · obtain ⟨p, q, p', q'⟩ := i; exact ⟨by first | rfl | simp, by first | rfl | simp⟩
  obtain ⟨p, q, p', q'⟩ := i
  replace h : True := h
  refine P_code (Quiet.q1 q_cmp_Compare_int64 Quiet.nil) hmix k_impl_compare rfl ?_ ?_
  · first | rfl | simp
  show wpc 0 PP _ c_impl_compare (initSt [.agg [.int .i64 p, .int .i64 q], .agg [.int .i64 p', .int .i64 q']] .nil) (endP r_impl_compare (.int .i64 (compF p q p' q')))
  unfold compF
  simp -dsimp -implicitDefEqProofs [c_impl_compare, r_impl_compare, sp_cmpI_eq]
end Go.Proofs.YtgophedkejgedaaDoorAi
end

section
/- Bits of numbers; copies of cells over and over. -/
namespace Go.Proofs.YtgophedkejgedaaDoorAi
open Go Go.RowKit
set_option linter.unusedVariables false
set_option linter.unusedSimpArgs false

theorem ofNat_toNat (w n : Nat) : (BitVec.ofInt w (n : Int)).toNat = n % 2 ^ w := by
  rw [BitVec.toNat_ofInt]
  omega
theorem wrapU {k : IntKind} (hk : k.signed = false) {n : Int} (h0 : 0 ≤ n) (h1 : n < 2 ^ k.bits) : k.wrap n = n := by
  simp only [IntKind.wrap, hk, Bool.false_and]
  rw [Int.emod_eq_of_lt h0 h1]
  simp
theorem wrap32 {n : Int} (h0 : 0 ≤ n) (h1 : n < 4294967296) : IntKind.u32.wrap n = n := wrapU rfl h0 h1
theorem wrapU64 {n : Int} (h0 : 0 ≤ n) (h1 : n < 18446744073709551616) : IntKind.u64.wrap n = n := wrapU rfl h0 h1
theorem and32 {a b : Nat} (ha : a < 4294967296) (hb : b < 4294967296) : IntKind.u32.wrap (BitVec.ofInt IntKind.u32.bits (a : Int) &&& BitVec.ofInt IntKind.u32.bits (b : Int)).toNat = ((a &&& b : Nat) : Int) := by
  rw [BitVec.toNat_and, ofNat_toNat, ofNat_toNat]
  simp only [IntKind.bits]
  rw [Nat.mod_eq_of_lt (by omega), Nat.mod_eq_of_lt (by omega)]
  exact wrap32 (by omega) (by have : a &&& b ≤ a := Nat.and_le_left; omega)
theorem or32 {a b : Nat} (ha : a < 4294967296) (hb : b < 4294967296) : IntKind.u32.wrap (BitVec.ofInt IntKind.u32.bits (a : Int) ||| BitVec.ofInt IntKind.u32.bits (b : Int)).toNat = ((a ||| b : Nat) : Int) := by
  rw [BitVec.toNat_or, ofNat_toNat, ofNat_toNat]
  simp only [IntKind.bits]
  rw [Nat.mod_eq_of_lt (by omega), Nat.mod_eq_of_lt (by omega)]
  exact wrap32 (by omega) (by have := Nat.or_lt_two_pow (n := 32) (x := a) (y := b) (by omega) (by omega); omega)
theorem xor32 {a b : Nat} (ha : a < 4294967296) (hb : b < 4294967296) : IntKind.u32.wrap (BitVec.ofInt IntKind.u32.bits (a : Int) ^^^ BitVec.ofInt IntKind.u32.bits (b : Int)).toNat = ((a ^^^ b : Nat) : Int) := by
  rw [BitVec.toNat_xor, ofNat_toNat, ofNat_toNat]
  simp only [IntKind.bits]
  rw [Nat.mod_eq_of_lt (by omega), Nat.mod_eq_of_lt (by omega)]
  exact wrap32 (by omega) (by have := Nat.xor_lt_two_pow (n := 32) (x := a) (y := b) (by omega) (by omega); omega)
theorem andN32 {a b : Nat} (ha : a < 4294967296) (hb : b < 4294967296) : IntKind.u32.wrap (BitVec.ofInt IntKind.u32.bits (a : Int) &&& ~~~(BitVec.ofInt IntKind.u32.bits (b : Int))).toNat = ((a &&& (4294967295 - b) : Nat) : Int) := by
  rw [BitVec.toNat_and, BitVec.toNat_not, ofNat_toNat, ofNat_toNat]
  simp only [IntKind.bits]
  rw [Nat.mod_eq_of_lt (by omega), Nat.mod_eq_of_lt (by omega)]
  exact wrap32 (by omega) (by have : a &&& (2 ^ 32 - 1 - b) ≤ a := Nat.and_le_left; omega)
theorem mask64 {a : Int} (h0 : 0 ≤ a) (ha : a < 4294967296) : IntKind.u64.wrap (BitVec.ofInt IntKind.u64.bits a &&& BitVec.ofInt IntKind.u64.bits 4294967295).toNat = a := by
  obtain ⟨n, rfl⟩ := Int.eq_ofNat_of_zero_le h0
  have e : (4294967295 : Int) = ((4294967295 : Nat) : Int) := rfl
  rw [BitVec.toNat_and, e, ofNat_toNat, ofNat_toNat]
  simp only [IntKind.bits]
  rw [Nat.mod_eq_of_lt (by omega), Nat.mod_eq_of_lt (by omega)]
  have : n &&& 4294967295 = n := by
    have := Nat.and_two_pow_sub_one_eq_mod n 32
    rw [show 2 ^ 32 - 1 = 4294967295 from rfl] at this
    rw [this, Nat.mod_eq_of_lt (by omega)]
  rw [this]
  exact wrapU64 (by omega) (by omega)
theorem shr0 {a : Int} {n : Nat} (h0 : 0 ≤ a) (ha : a < 2 ^ n) : a.fdiv (2 ^ n) = 0 := by
  rw [Int.fdiv_eq_ediv_of_nonneg _ (by have : (0 : Int) < 2 ^ n := Int.pow_pos (by omega); omega)]
  exact Int.ediv_eq_zero_of_lt h0 ha

/-! ### cells over and over -/
def rep (k : Nat) (x : List AV) : List AV := (List.replicate k x).flatten
theorem rep_len (k : Nat) (x : List AV) : (rep k x).length = k * x.length := flat_len x k
theorem rep_add (k j : Nat) (x : List AV) : rep (k + j) x = rep k x ++ rep j x := by
  unfold rep
  rw [← List.replicate_append_replicate, List.flatten_append]
theorem rep_take (k j : Nat) (x : List AV) (h : j ≤ k) : (rep k x).take (j * x.length) = rep j x := by
  obtain ⟨d, rfl⟩ : ∃ d, k = j + d := ⟨k - j, by omega⟩
  rw [rep_add, List.take_append_of_le_length (by rw [rep_len]; exact Nat.le_refl _), ← rep_len j x, List.take_length]
theorem rep_drop (k j : Nat) (x : List AV) (h : j ≤ k) : (rep k x).drop (j * x.length) = rep (k - j) x := by
  obtain ⟨d, rfl⟩ : ∃ d, k = j + d := ⟨k - j, by omega⟩
  rw [rep_add, ← rep_len j x, List.drop_left, show j + d - j = d by omega]
theorem rep_one (x : List AV) : rep 1 x = x := by simp [rep]
theorem reps_lt {n : Nat} (k : Nat) {x : List AV} (h : ltL n x = true) : ltL n (rep k x) = true := newCells_lt 0 k h
theorem setCells_splice : ∀ (vs cs : List AV) (off : Nat), off + vs.length ≤ cs.length → setCells cs off vs = cs.take off ++ vs ++ cs.drop (off + vs.length)
  | [], cs, off, h => by simp [setCells]
  | v :: vs, cs, off, h => by
    simp only [List.length_cons] at h
    rw [setCells, setCells_splice vs _ (off + 1) (by simp; omega)]
    rw [List.take_add_one, List.getElem?_set_self (by omega), List.take_set_of_le (Nat.le_refl _), List.drop_set_of_lt (by omega)]
    simp only [Option.toList_some, List.append_assoc, List.singleton_append, List.length_cons]
    rw [show off + 1 + vs.length = off + (vs.length + 1) by omega]
theorem rep_step {e N k j : Nat} {x z : List AV} (hx : x.length = e) (hz : z.length = e) (hk : k + j ≤ N) :
    setCells (rep k x ++ rep (N - k) z) (k * e) (rep j x) = rep (k + j) x ++ rep (N - (k + j)) z := by
  have l1 : (rep k x).length = k * e := by rw [rep_len, hx]
  have l2 : (rep j x).length = j * e := by rw [rep_len, hx]
  have l3 : (rep (N - k) z).length = (N - k) * e := by rw [rep_len, hz]
  have hle : k * e + j * e ≤ k * e + (N - k) * e := by
    have : j * e ≤ (N - k) * e := Nat.mul_le_mul_right _ (by omega)
    omega
  rw [setCells_splice _ _ _ (by rw [List.length_append, l1, l2, l3]; exact hle), ← l1, List.take_left, List.drop_append, l1, l2, show k * e + j * e - k * e = j * e by omega, List.drop_of_length_le (by rw [l1]; omega), rep_add]
  rw [show j * e = j * z.length by rw [hz], rep_drop _ _ _ (by omega), show N - k - j = N - (k + j) by omega]
  simp
theorem rep_pre {e N k j : Nat} {x z : List AV} (hx : x.length = e) (hj : j ≤ k) : (List.take (k * e) (rep k x ++ rep (N - k) z)).take (j * e) = rep j x := by
  have l1 : (rep k x).length = k * e := by rw [rep_len, hx]
  rw [← l1, List.take_left, ← hx, rep_take _ _ _ hj]
theorem reps_all {e N k : Nat} {x z : List AV} (hx : x.length = e) (hz : z.length = e) (hk : k ≤ N) : (rep k x ++ rep (N - k) z).length = N * e := by
  rw [List.length_append, rep_len, rep_len, hx, hz, ← Nat.add_mul, show k + (N - k) = N by omega]
theorem rep_zero (x : List AV) : rep 0 x = [] := by simp [rep]

end Go.Proofs.YtgophedkejgedaaDoorAi
end

section
/- Cells of lists of data. -/
namespace Go.Proofs.YtgophedkejgedaaDoorAi
open Go Go.RowKit
set_option linter.unusedVariables false
set_option linter.unusedSimpArgs false
set_option linter.unusedSectionVars false

/-- Data that take so many plain cells. -/
class Plain {α : Type} (f : α → AV) (e : outParam Nat) : Prop where
  len : ∀ x, (f x).cells.length = e
  pos : 0 < e
  low : ∀ x, ltL 0 (f x).cells = true
  flat : ∀ x, flatL (f x).cells = true
  loose : ∀ x, looseL (f x).cells = (f x).cells
  elem : ∀ x r, elemA e ((f x).cells ++ r) = f x
instance : Plain frA 2 := ⟨fun _ => rfl, by omega, fun _ => rfl, fun _ => rfl, fun _ => rfl, fun _ _ => rfl⟩
instance : Plain grA 2 := ⟨fun _ => rfl, by omega, fun _ => rfl, fun _ => rfl, fun _ => rfl, fun _ _ => rfl⟩
instance : Plain flA 3 := ⟨fun _ => rfl, by omega, fun _ => rfl, fun _ => rfl, fun _ => rfl, fun _ _ => rfl⟩
instance : Plain inA 1 := ⟨fun _ => rfl, by omega, fun _ => rfl, fun _ => rfl, fun _ => rfl, fun _ _ => rfl⟩

def flatA (xs : List AV) : List AV := xs.flatMap AV.cells
section
variable {α : Type} {f : α → AV} {e : Nat} [hP : Plain f e]
include hP
theorem flatA_mem (l : List α) : ∀ x ∈ mapA f l, x.cells.length = e := by
  intro x hx
  obtain ⟨a, _, rfl⟩ := List.mem_map.1 hx
  exact hP.len a
@[simp] theorem flatA_len (l : List α) : (flatA (mapA f l)).length = l.length * e := by
  unfold flatA
  rw [flatMap_len e _ (flatA_mem l), mapA_length]
theorem flatA_at (l : List α) (k : Nat) : (flatA (mapA f l))[k]? = (l[k / e]?).bind fun x => (f x).cells[k % e]? := by
  unfold flatA
  rw [flatMap_get e _ k (flatA_mem l) hP.pos, mapA_get]
  cases l[k / e]? <;> rfl
theorem flatA_get (l : List α) (i j : Nat) (hj : j < e) : (flatA (mapA f l))[i * e + j]? = (l[i]?).bind fun x => (f x).cells[j]? := by
  rw [flatA_at, Nat.mul_comm, Nat.mul_add_div hP.pos, Nat.div_eq_of_lt hj, Nat.add_zero, Nat.mul_add_mod, Nat.mod_eq_of_lt hj]
omit hP in
theorem flatA_append (l k : List α) : flatA (mapA f (l ++ k)) = flatA (mapA f l) ++ flatA (mapA f k) := by simp [flatA, mapA]
omit hP in
theorem flatA_one (x : α) : flatA (mapA f [x]) = (f x).cells := by simp [flatA, mapA]
omit hP in
@[simp] theorem flatA_nil : flatA (mapA f []) = [] := rfl
omit hP in
theorem flatA_cons (x : α) (l : List α) : flatA (mapA f (x :: l)) = (f x).cells ++ flatA (mapA f l) := by simp [flatA, mapA]
theorem flatA_take (l : List α) (k : Nat) : (flatA (mapA f l)).take (k * e) = flatA (mapA f (l.take k)) := by
  rcases Nat.le_total k l.length with h | h
  · conv => lhs; rw [← List.take_append_drop k l]
    rw [flatA_append, List.take_left' (by rw [flatA_len, List.length_take, Nat.min_eq_left h])]
  · rw [List.take_of_length_le (by rw [flatA_len]; exact Nat.mul_le_mul_right _ h), List.take_of_length_le h]
theorem flatA_drop (l : List α) (k : Nat) : (flatA (mapA f l)).drop (k * e) = flatA (mapA f (l.drop k)) := by
  rcases Nat.le_total k l.length with h | h
  · conv => lhs; rw [← List.take_append_drop k l]
    rw [flatA_append, List.drop_left' (by rw [flatA_len, List.length_take, Nat.min_eq_left h])]
  · rw [List.drop_of_length_le (by rw [flatA_len]; exact Nat.mul_le_mul_right _ h), List.drop_of_length_le h]; rfl
theorem flatA_lt (n : Nat) : ∀ l : List α, ltL n (flatA (mapA f l)) = true
  | [] => rfl
  | x :: l => by rw [flatA_cons, ltL_append, flatA_lt n l, ltL_mono (Nat.zero_le n) _ (hP.low x)]; rfl
theorem flatA_flat : ∀ l : List α, flatL (flatA (mapA f l)) = true
  | [] => rfl
  | x :: l => by
    rw [flatA_cons]
    have : ∀ a b : List AV, flatL a = true → flatL b = true → flatL (a ++ b) = true := by
      intro a b ha hb
      induction a with
      | nil => exact hb
      | cons y a ih =>
        simp only [List.cons_append, flatL, Bool.and_eq_true] at *
        exact ⟨ha.1, ih ha.2⟩
    exact this _ _ (hP.flat x) (flatA_flat l)
theorem flatA_loose : ∀ l : List α, looseL (flatA (mapA f l)) = flatA (mapA f l)
  | [] => rfl
  | x :: l => by
    rw [flatA_cons, looseL_map, List.map_append, ← looseL_map, ← looseL_map, hP.loose, flatA_loose l]
theorem flatA_ren (g : Nat → Nat) (l : List α) : renL g (flatA (mapA f l)) = flatA (mapA f l) := renL_low _ _ (flatA_lt 0 l)
theorem flatA_gath : ∀ (l : List α) (n : Nat), n = l.length → gath e n (flatA (mapA f l)) = mapA f l
  | [], n, h => by subst h; rfl
  | x :: l, n, h => by
    subst h
    rw [List.length_cons, gath, flatA_cons, hP.elem, List.drop_left' (hP.len x), flatA_gath l _ rfl]
    rfl
theorem flatA_set (l : List α) (i : Nat) (x : α) (hi : i < l.length) : setCells (flatA (mapA f l)) (i * e) (f x).cells = flatA (mapA f (l.set i x)) := by
  have h1 : (i + 1) * e ≤ l.length * e := Nat.mul_le_mul_right _ hi
  rw [Nat.add_mul, Nat.one_mul] at h1
  rw [setCells_splice _ _ _ (by rw [flatA_len, hP.len]; exact h1), hP.len, flatA_take, show i * e + e = (i + 1) * e by rw [Nat.add_mul, Nat.one_mul], flatA_drop, ← flatA_one x, ← flatA_append, ← flatA_append, List.set_eq_take_append_cons_drop, if_pos hi]
  simp
omit hP in
theorem flatA_rep (n : Nat) (x : α) : (List.replicate n (f x).cells).flatten = flatA (mapA f (List.replicate n x)) := by
  induction n with
  | zero => rfl
  | succ n ih => rw [List.replicate_succ, List.flatten_cons, ih, List.replicate_succ, flatA_cons]
end
@[simp] theorem flatA_nms {α : Type} {f : α → AV} {e : Nat} [Plain f e] (l : List α) : nmsL (flatA (mapA f l)) = [] := nmsL_low _ (flatA_lt 0 l)
attribute [simp] flatA_lt flatA_flat flatA_loose flatA_ren
@[simp] theorem all_plain {α : Type} {f : α → AV} {e : Nat} [hP : Plain f e] (l : List α) : (mapA f l).all (fun x => x.cells.length == e) = true := by
  rw [List.all_eq_true]
  intro x hx
  exact beq_iff_eq.2 (flatA_mem l x hx)
@[simp] theorem fm_plain {α : Type} {f : α → AV} {e : Nat} [hP : Plain f e] (l : List α) : (mapA f l).flatMap AV.cells = flatA (mapA f l) := rfl
@[simp 2000] theorem sliceCells_plain {α : Type} {f : α → AV} {e : Nat} [hP : Plain f e] (A : AHeap) (l : List α) (t : Bool) : sliceCells A e (.sl (mapA f l) t) = some (flatA (mapA f l)) := by
  show (if ((mapA f l).all fun x => x.cells.length == e) = true then some (List.flatMap AV.cells (mapA f l)) else none) = _
  rw [if_pos (all_plain l)]
  rfl
@[simp 2000] theorem sliceA_plain {α : Type} {f : α → AV} {e : Nat} [hP : Plain f e] (l : List α) (t : Bool) (lo hi : Nat) (mx : Option Nat) : sliceA e (.sl (mapA f l) t) lo hi mx = if lo ≤ hi ∧ hi ≤ l.length ∧ maxOk hi l.length mx = true then some (.sl (mapA f ((l.take hi).drop lo)) (maxTight hi l.length t mx)) else none := by
  have h1 := all_plain (f := f) (e := e) l
  unfold sliceA
  dsimp only
  rw [mapA_length]
  by_cases c : lo ≤ hi ∧ hi ≤ l.length ∧ maxOk hi l.length mx = true
  · rw [if_pos ⟨c.1, c.2.1, c.2.2, h1⟩, if_pos c]
    simp [mapA, List.map_drop, List.map_take]
  · rw [if_neg (fun h => c ⟨h.1, h.2.1, h.2.2.1⟩), if_neg c]
@[simp] theorem gath_fr (l : List Fr) (n : Nat) (h : n = l.length) : gath 2 n (flatA (mapA frA l)) = mapA frA l := flatA_gath l n h
@[simp] theorem gath_gr (l : List Gr) (n : Nat) (h : n = l.length) : gath 2 n (flatA (mapA grA l)) = mapA grA l := flatA_gath l n h
@[simp] theorem gath_fl (l : List Fl) (n : Nat) (h : n = l.length) : gath 3 n (flatA (mapA flA l)) = mapA flA l := flatA_gath l n h
@[simp] theorem gath_in (l : List Int) (n : Nat) (h : n = l.length) : gath 1 n (flatA (mapA inA l)) = mapA inA l := flatA_gath l n h
@[simp] theorem news_fr (n : Nat) (p q : Int) : (List.replicate n [.int .i64 p, .int .i64 q]).flatten = flatA (mapA frA (List.replicate n ⟨p, q⟩)) := flatA_rep (f := frA) n ⟨p, q⟩
@[simp] theorem news_gr (n : Nat) (p q : Int) : (List.replicate n [.int .i64 p, .int .u32 q]).flatten = flatA (mapA grA (List.replicate n ⟨p, q⟩)) := flatA_rep (f := grA) n ⟨p, q⟩
@[simp] theorem news_fl (n : Nat) (m p q : Int) : (List.replicate n [.int .i64 m, .int .i64 p, .int .u32 q]).flatten = flatA (mapA flA (List.replicate n ⟨m, p, q⟩)) := flatA_rep (f := flA) n ⟨m, p, q⟩
@[simp] theorem news_in (n : Nat) (p : Int) : (List.replicate n [.int .i64 p]).flatten = flatA (mapA inA (List.replicate n p)) := flatA_rep (f := inA) n p
theorem set_fr (l : List Fr) (i : Nat) (p q : Int) (h : i < l.length) : ((flatA (mapA frA l)).set (i * 2) (.int .i64 p)).set (i * 2 + 1) (.int .i64 q) = flatA (mapA frA (l.set i ⟨p, q⟩)) := flatA_set (f := frA) l i ⟨p, q⟩ h
theorem set_gr (l : List Gr) (i : Nat) (p q : Int) (h : i < l.length) : ((flatA (mapA grA l)).set (i * 2) (.int .i64 p)).set (i * 2 + 1) (.int .u32 q) = flatA (mapA grA (l.set i ⟨p, q⟩)) := flatA_set (f := grA) l i ⟨p, q⟩ h
theorem set_fl (l : List Fl) (i : Nat) (m p q : Int) (h : i < l.length) : (((flatA (mapA flA l)).set (i * 3) (.int .i64 m)).set (i * 3 + 1) (.int .i64 p)).set (i * 3 + 1 + 1) (.int .u32 q) = flatA (mapA flA (l.set i ⟨m, p, q⟩)) := flatA_set (f := flA) l i ⟨m, p, q⟩ h
theorem set_in (l : List Int) (i : Nat) (p : Int) (h : i < l.length) : (flatA (mapA inA l)).set i (.int .i64 p) = flatA (mapA inA (l.set i p)) := by
  have := flatA_set (f := inA) l i p h
  rw [Nat.mul_one] at this
  exact this
theorem get_fr0 (l : List Fr) (i : Nat) (h : i < l.length) : (flatA (mapA frA l))[i * 2]? = some (.int .i64 l[i].p) := by
  have := flatA_get (f := frA) l i 0 (by omega)
  rw [Nat.add_zero] at this
  rw [this]; simp [h]
theorem get_fr1 (l : List Fr) (i : Nat) (h : i < l.length) : (flatA (mapA frA l))[i * 2 + 1]? = some (.int .i64 l[i].q) := by
  rw [flatA_get (f := frA) l i 1 (by omega)]; simp [h]
theorem get_gr0 (l : List Gr) (i : Nat) (h : i < l.length) : (flatA (mapA grA l))[i * 2]? = some (.int .i64 l[i].n) := by
  have := flatA_get (f := grA) l i 0 (by omega)
  rw [Nat.add_zero] at this
  rw [this]; simp [h]
theorem get_gr1 (l : List Gr) (i : Nat) (h : i < l.length) : (flatA (mapA grA l))[i * 2 + 1]? = some (.int .u32 l[i].e) := by
  rw [flatA_get (f := grA) l i 1 (by omega)]; simp [h]
theorem get_in (l : List Int) (i : Nat) (h : i < l.length) : (flatA (mapA inA l))[i]? = some (.int .i64 l[i]) := by
  have := flatA_get (f := inA) l i 0 (by omega)
  rw [Nat.add_zero, Nat.mul_one] at this
  rw [this]; simp [h]
theorem flatA_cells (x : Fr) : flatA [frA x] = [.int .i64 x.p, .int .i64 x.q] := rfl

/-! ### marks -/
def marksF : Nat → Int → List Fr
  | 0, _ => []
  | n + 1, k => ⟨k, k + 1⟩ :: marksF n (k + 2)
@[simp] theorem marksF_len : ∀ (n : Nat) (k : Int), (marksF n k).length = n
  | 0, _ => rfl
  | n + 1, k => by simp [marksF, marksF_len n]
theorem marksF_get : ∀ (n : Nat) (k : Int) (i : Nat) (h : i < (marksF n k).length), (marksF n k)[i] = ⟨k + 2 * i, k + 2 * i + 1⟩
  | 0, _, i, h => by simp [marksF] at h
  | n + 1, k, 0, h => by simp [marksF]
  | n + 1, k, i + 1, h => by
    simp only [marksF, List.getElem_cons_succ]
    rw [marksF_get n (k + 2) i]
    simp only [Fr.mk.injEq]
    omega
@[simp] theorem marksF_inj (n n' : Nat) (k k' : Int) : marksF n k = marksF n' k' ↔ n = n' ∧ (n = 0 ∨ k = k') := by
  constructor
  · intro h
    have hn : n = n' := by have := congrArg List.length h; simpa using this
    subst hn
    refine ⟨rfl, ?_⟩
    cases n with
    | zero => exact .inl rfl
    | succ n =>
      simp only [marksF, List.cons.injEq, Fr.mk.injEq] at h
      exact .inr h.1.1
  · rintro ⟨rfl, rfl | rfl⟩ <;> rfl
theorem marks_start (l : List Fr) (k : Int) : l = (marksF l.length k).take 0 ++ l.drop 0 := by simp
theorem marks_step (l : List Fr) (k : Int) (i : Nat) (h : i < l.length) : ((marksF l.length k).take i ++ l.drop i).set i ⟨k + 2 * i, k + 2 * i + 1⟩ = (marksF l.length k).take (i + 1) ++ l.drop (i + 1) := by
  rw [List.set_append_right _ _ (by simp; omega)]
  have e : i - ((marksF l.length k).take i).length = 0 := by simp; omega
  rw [e, List.drop_eq_getElem_cons h, List.set_cons_zero, take_snoc _ i (by simpa using h), marksF_get, List.append_assoc]
  rfl
theorem marks_end (l : List Fr) (k : Int) : (marksF l.length k).take l.length ++ l.drop l.length = marksF l.length k := by
  simp [List.take_of_length_le]

end Go.Proofs.YtgophedkejgedaaDoorAi
end

section
/- MADE BY PROGRAM (wip/tools/gen.py): the abstract code of functions. -/
namespace Go.Proofs.YtgophedkejgedaaDoorAi
open Go AC AOp Opd
set_option linter.unusedVariables false
set_option maxRecDepth 100000
def c_laws_a2Long : AC := seq (reg [⟨(some 4), mv (c (.bool false)), none⟩]) (seq (reg [⟨(some 5), mv (t 0), none⟩, ⟨(some 6), len (t 5), none⟩, ⟨(some 7), bin .gtr (t 6) (c (.int .i64 3000)), none⟩, ⟨(some 8), mv (t 7), none⟩, ⟨(some 9), mv (t 1), some (8, false)⟩, ⟨(some 10), len (t 9), some (8, false)⟩, ⟨(some 11), bin .gtr (t 10) (c (.int .i64 3000)), some (8, false)⟩, ⟨(some 12), pick (t 8) (c (.bool true)) (t 11), none⟩, ⟨(some 4), mv (t 12), none⟩]) (ret))
def r_laws_a2Long : List ARes := [.tmp 4]
theorem k_laws_a2Long : acLin Go.Proofs.Tryd.prog 15 2 (inQ [] []) [] = some (c_laws_a2Long, r_laws_a2Long) := by kernel_rfl
def c_spec_l00From : AC := seq (reg [⟨(some 2), mv (c (.nilp)), none⟩]) (seq (reg [⟨(some 3), mv (t 0), none⟩, ⟨(some 4), bld [.sl [] true, .int .i64 0, .int .u64 0] [(0, 1, t 3)], none⟩, ⟨(some 5), box 3 (t 4), none⟩, ⟨(some 2), mv (t 5), none⟩]) (ret))
def r_spec_l00From : List ARes := [.tmp 2]
theorem k_spec_l00From : acLin Go.Proofs.Tryd.prog 58 1 (inQ [] []) [] = some (c_spec_l00From, r_spec_l00From) := by kernel_rfl
def c_spec_l00Src_next : AC := seq (reg [⟨(some 2), mv (c (.int .i64 0)), none⟩]) (seq (reg [⟨(some 3), mv (c (.int .i64 0)), none⟩]) (seq (seq (reg [⟨(some 4), mv (t 0), none⟩, ⟨(some 5), nilc (t 4), none⟩, ⟨(some 6), fad (t 5) 1, none⟩, ⟨(some 7), ld (t 6) 1 false, none⟩, ⟨(some 8), mv (t 0), none⟩, ⟨(some 9), nilc (t 8), none⟩, ⟨(some 10), fad (t 9) 0, none⟩, ⟨(some 11), ld (t 10) 1 false, none⟩, ⟨(some 12), len (t 11), none⟩, ⟨(some 13), bin .lss (t 7) (t 12), none⟩]) (cond (t 13) (reg [⟨(some 14), mv (t 0), none⟩, ⟨(some 15), nilc (t 14), none⟩, ⟨(some 16), fad (t 15) 0, none⟩, ⟨(some 17), ld (t 16) 1 false, none⟩, ⟨(some 18), mv (t 0), none⟩, ⟨(some 19), nilc (t 18), none⟩, ⟨(some 20), fad (t 19) 1, none⟩, ⟨(some 21), ld (t 20) 1 false, none⟩, ⟨(some 22), iad 1 (t 17) (t 21), none⟩, ⟨(some 23), ld (t 22) 1 false, none⟩, ⟨(some 24), conv .i64 (t 23), none⟩, ⟨(some 3), mv (t 24), none⟩]) (skip))) (seq (reg [⟨(some 25), mv (t 0), none⟩, ⟨(some 26), nilc (t 25), none⟩, ⟨(some 27), fad (t 26) 1, none⟩, ⟨(some 28), ld (t 27) 1 false, none⟩, ⟨(some 29), bin .add (t 28) (c (.int .i64 1)), none⟩, ⟨(some 30), nilc (t 25), none⟩, ⟨(some 31), fad (t 30) 1, none⟩, ⟨none, st (t 31) 1 (t 29), none⟩]) (seq (reg [⟨(some 32), mv (t 0), none⟩, ⟨(some 33), mv (t 0), none⟩, ⟨(some 34), nilc (t 33), none⟩, ⟨(some 35), fad (t 34) 2, none⟩, ⟨(some 36), ld (t 35) 1 false, none⟩, ⟨(some 37), bin .mul (t 36) (c (.int .u64 6364136223846793005)), none⟩, ⟨(some 38), mv (t 3), none⟩, ⟨(some 39), conv .u64 (t 38), none⟩, ⟨(some 40), bin .add (t 37) (t 39), none⟩, ⟨(some 41), bin .add (t 40) (c (.int .u64 1442695040888963407)), none⟩, ⟨(some 42), nilc (t 32), none⟩, ⟨(some 43), fad (t 42) 2, none⟩, ⟨none, st (t 43) 1 (t 41), none⟩]) (seq (seq (reg [⟨(some 44), mv (t 0), none⟩, ⟨(some 45), nilc (t 44), none⟩, ⟨(some 46), fad (t 45) 1, none⟩, ⟨(some 47), ld (t 46) 1 false, none⟩, ⟨(some 48), mv (t 0), none⟩, ⟨(some 49), nilc (t 48), none⟩, ⟨(some 50), fad (t 49) 0, none⟩, ⟨(some 51), ld (t 50) 1 false, none⟩, ⟨(some 52), len (t 51), none⟩, ⟨(some 53), bin .leq (t 47) (t 52), none⟩]) (cond (t 53) (seq (reg [⟨(some 54), mv (t 3), none⟩, ⟨(some 2), mv (t 54), none⟩]) (ret)) (skip))) (seq (reg [⟨(some 55), mv (t 0), none⟩, ⟨(some 56), nilc (t 55), none⟩, ⟨(some 57), fad (t 56) 2, none⟩, ⟨(some 58), ld (t 57) 1 false, none⟩, ⟨(some 59), bin .shr (t 58) (c (.int .u64 40)), none⟩, ⟨(some 60), bin .and (t 59) (c (.int .u64 255)), none⟩, ⟨(some 61), conv .i64 (t 60), none⟩, ⟨(some 2), mv (t 61), none⟩]) (ret)))))))
def r_spec_l00Src_next : List ARes := [.tmp 2]
theorem k_spec_l00Src_next : acLin Go.Proofs.Tryd.prog 150 1 (inQ [] []) [⟨false, none, [], [], none⟩, ⟨false, none, [], [], none⟩, ⟨false, some [0, 1, 2, 3, 4, 5, 6, 7, 8, 9], [], [], none⟩, ⟨false, some [0, 1, 2, 3, 4, 5, 6, 7, 8, 9, 10, 11], [], [], none⟩, ⟨false, none, [], [], none⟩, ⟨false, none, [], [], none⟩, ⟨false, some [0, 1, 2, 3, 4, 5, 6, 7, 8, 9], [], [], none⟩] = some (c_spec_l00Src_next, r_spec_l00Src_next) := by kernel_rfl
def c_spec_l00Src_pick : AC := seq (reg [⟨(some 4), mv (c (.int .i64 0)), none⟩]) (seq (seq (reg [⟨(some 6), mv (t 1), none⟩, ⟨(some 7), bin .leq (t 6) (c (.int .i64 1)), none⟩]) (cond (t 7) (seq (reg [⟨(some 4), mv (c (.int .i64 0)), none⟩]) (ret)) (skip))) (seq (reg [⟨(some 8), mv (t 0), none⟩, ⟨(some 9), calle (c (.fn 150 [])) [t 8] [], none⟩, ⟨(some 5), mv (t 9), none⟩]) (seq (seq (reg [⟨(some 10), mv (t 1), none⟩, ⟨(some 11), bin .gtr (t 10) (c (.int .i64 200)), none⟩]) (cond (t 11) (reg [⟨(some 12), mv (t 5), none⟩, ⟨(some 13), bin .mul (t 12) (c (.int .i64 256)), none⟩, ⟨(some 14), mv (t 0), none⟩, ⟨(some 15), calle (c (.fn 150 [])) [t 14] [], none⟩, ⟨(some 16), bin .add (t 13) (t 15), none⟩, ⟨(some 5), mv (t 16), none⟩]) (skip))) (seq (reg [⟨(some 17), mv (t 5), none⟩, ⟨(some 18), mv (t 1), none⟩, ⟨(some 19), bin .rem (t 17) (t 18), none⟩, ⟨(some 4), mv (t 19), none⟩]) (ret)))))
def r_spec_l00Src_pick : List ARes := [.tmp 4]
theorem k_spec_l00Src_pick : acLin Go.Proofs.Tryd.prog 112 2 (inQ [] [150]) [] = some (c_spec_l00Src_pick, r_spec_l00Src_pick) := by kernel_rfl
def c_spec_l00Src_one : AC := seq (reg [⟨(some 4), mv (c (.bool false)), none⟩]) (seq (reg [⟨(some 5), mv (t 0), none⟩, ⟨(some 6), mv (t 1), none⟩, ⟨(some 7), calle (c (.fn 112 [])) [t 5, t 6] [], none⟩, ⟨(some 8), bin .eql (t 7) (c (.int .i64 0)), none⟩, ⟨(some 4), mv (t 8), none⟩]) (ret))
def r_spec_l00Src_one : List ARes := [.tmp 4]
theorem k_spec_l00Src_one : acLin Go.Proofs.Tryd.prog 113 2 (inQ [] [112]) [] = some (c_spec_l00Src_one, r_spec_l00Src_one) := by kernel_rfl
def c_spec_l00Src_among : AC := seq (reg [⟨(some 4), mv (c (.int .i64 0)), none⟩]) (seq (reg [⟨(some 5), mv (t 1), none⟩, ⟨(some 6), mv (t 0), none⟩, ⟨(some 7), mv (t 1), none⟩, ⟨(some 8), len (t 7), none⟩, ⟨(some 9), calle (c (.fn 112 [])) [t 6, t 8] [], none⟩, ⟨(some 10), iad 1 (t 5) (t 9), none⟩, ⟨(some 11), ld (t 10) 1 false, none⟩, ⟨(some 4), mv (t 11), none⟩]) (ret))
def r_spec_l00Src_among : List ARes := [.tmp 4]
theorem k_spec_l00Src_among : acLin Go.Proofs.Tryd.prog 114 2 (inQ [] [112]) [] = some (c_spec_l00Src_among, r_spec_l00Src_among) := by kernel_rfl
def c_spec_l02Drawn : AC := seq (reg [⟨(some 2), alloc [.int .i64 0, .int .i64 0], none⟩]) (seq (reg [⟨(some 7), mv (t 0), none⟩, ⟨(some 8), calle (c (.fn 112 [])) [t 7, c (.int .i64 19)] [], none⟩, ⟨(some 9), bin .sub (t 8) (c (.int .i64 9)), none⟩, ⟨(some 3), mv (t 9), none⟩]) (seq (reg [⟨(some 10), mv (t 0), none⟩, ⟨(some 11), calle (c (.fn 112 [])) [t 10, c (.int .i64 8)] [], none⟩, ⟨(some 12), bin .add (c (.int .i64 1)) (t 11), none⟩, ⟨(some 4), mv (t 12), none⟩]) (seq (seq (reg [⟨(some 13), mv (t 0), none⟩, ⟨(some 14), calle (c (.fn 113 [])) [t 13, c (.int .i64 16)] [], none⟩]) (cond (t 14) (reg [⟨(some 15), mv (t 0), none⟩, ⟨(some 16), bsl 1 4 [.int .i64 0] [(0, c (.int .i64 1000000000)), (1, c (.int .i64 (-1000000000))), (2, c (.int .i64 999999999)), (3, c (.int .i64 123456789))], none⟩, ⟨(some 17), calle (c (.fn 114 [])) [t 15, t 16] [], none⟩, ⟨(some 3), mv (t 17), none⟩]) (skip))) (seq (seq (reg [⟨(some 18), mv (t 0), none⟩, ⟨(some 19), calle (c (.fn 113 [])) [t 18, c (.int .i64 20)] [], none⟩]) (cond (t 19) (reg [⟨(some 20), mv (t 0), none⟩, ⟨(some 21), bsl 1 3 [.int .i64 0] [(0, c (.int .i64 1000000000)), (1, c (.int .i64 999999937)), (2, c (.int .i64 65536))], none⟩, ⟨(some 22), calle (c (.fn 114 [])) [t 20, t 21] [], none⟩, ⟨(some 4), mv (t 22), none⟩]) (skip))) (seq (reg [⟨(some 24), mv (t 3), none⟩, ⟨(some 25), mv (t 4), none⟩, ⟨(some 26), callq (c (.fn 115 [])) [t 24, t 25], none⟩, ⟨(some 23), mv (t 26), none⟩, ⟨(some 27), ext (t 23) 0, none⟩, ⟨(some 28), ext (t 23) 1, none⟩, ⟨(some 5), alloc [.int .i64 0, .int .i64 0], none⟩, ⟨none, st (t 5) 2 (t 27), none⟩, ⟨(some 6), mv (t 28), none⟩]) (seq (reg [⟨(some 29), ld (t 5) 2 true, none⟩, ⟨none, st (t 2) 2 (t 29), none⟩]) (ret)))))))
def r_spec_l02Drawn : List ARes := [.cell 2 2 true]
theorem k_spec_l02Drawn : acLin Go.Proofs.Tryd.prog 57 1 (inQ [115] [112, 113, 114]) [] = some (c_spec_l02Drawn, r_spec_l02Drawn) := by kernel_rfl
def c_spec_A2Wild : AC := seq (reg [⟨(some 2), alloc [.int .i64 0, .int .i64 0], none⟩]) (seq (reg [⟨(some 3), mv (t 0), none⟩, ⟨(some 4), calle (c (.fn 58 [])) [t 3] [], none⟩, ⟨(some 5), calle (c (.fn 57 [])) [t 4] [], none⟩, ⟨none, st (t 2) 2 (t 5), none⟩]) (ret))
def r_spec_A2Wild : List ARes := [.cell 2 2 true]
theorem k_spec_A2Wild : acLin Go.Proofs.Tryd.prog 16 1 (inQ [] [57, 58]) [] = some (c_spec_A2Wild, r_spec_A2Wild) := by kernel_rfl
def c_impl_FractionOf : AC := seq (reg [⟨(some 4), alloc [.int .i64 0, .int .i64 0], none⟩, ⟨(some 5), mv (c (.int .i64 0)), none⟩]) (seq (seq (reg [⟨(some 7), mv (t 1), none⟩, ⟨(some 8), bin .eql (t 7) (c (.int .i64 0)), none⟩, ⟨(some 9), mv (t 8), none⟩, ⟨(some 10), mv (t 0), some (9, false)⟩, ⟨(some 11), callq (c (.fn 62 [])) [t 10, c (.int .i64 (-1000000000000000000)), c (.int .i64 1000000000000000000)], some (9, false)⟩, ⟨(some 12), un .not (t 11), some (9, false)⟩, ⟨(some 13), pick (t 9) (c (.bool true)) (t 12), none⟩, ⟨(some 14), mv (t 13), none⟩, ⟨(some 15), mv (t 1), some (14, false)⟩, ⟨(some 16), callq (c (.fn 62 [])) [t 15, c (.int .i64 (-1000000000000000000)), c (.int .i64 1000000000000000000)], some (14, false)⟩, ⟨(some 17), un .not (t 16), some (14, false)⟩, ⟨(some 18), pick (t 14) (c (.bool true)) (t 17), none⟩]) (cond (t 18) (seq (reg [⟨(some 19), bld [.int .i64 0, .int .i64 0] [], none⟩, ⟨none, st (t 4) 2 (t 19), none⟩, ⟨(some 5), mv (c (.int .i64 2)), none⟩]) (ret)) (skip))) (seq (reg [⟨(some 20), bld [.bool false] [], none⟩, ⟨(some 6), alloc [.bool false], none⟩, ⟨none, st (t 6) 1 (t 20), none⟩]) (seq (reg [⟨(some 21), mv (t 0), none⟩, ⟨(some 22), mv (t 1), none⟩, ⟨(some 23), callq (c (.fn 65 [])) [t 21, t 22], none⟩, ⟨(some 24), calle (c (.fn 64 [])) [t 6, t 23] [], none⟩, ⟨(some 25), calle (c (.fn 63 [])) [t 6, t 24] [], none⟩, ⟨(some 26), ext (t 25) 0, none⟩, ⟨(some 27), ext (t 25) 1, none⟩, ⟨none, st (t 4) 2 (t 26), none⟩, ⟨(some 5), mv (t 27), none⟩]) (ret))))
def r_impl_FractionOf : List ARes := [.cell 4 2 true, .tmp 5]
theorem k_impl_FractionOf : acLin Go.Proofs.Tryd.prog 19 2 (inQ [62, 65] [63, 64]) [] = some (c_impl_FractionOf, r_impl_FractionOf) := by kernel_rfl
def c_impl_worked : AC := seq (reg [⟨(some 3), box 2 (t 0), none⟩, ⟨(some 4), box 2 (t 1), none⟩, ⟨(some 6), alloc [.int .i64 0, .int .i64 0], none⟩, ⟨(some 7), mv (c (.int .i64 0)), none⟩]) (seq (seq (reg [⟨(some 9), ld (t 3) 2 true, none⟩, ⟨(some 10), callq (c (.fn 20 [])) [t 9], none⟩, ⟨(some 11), un .not (t 10), none⟩, ⟨(some 12), mv (t 11), none⟩, ⟨(some 13), ld (t 4) 2 true, some (12, false)⟩, ⟨(some 14), callq (c (.fn 20 [])) [t 13], some (12, false)⟩, ⟨(some 15), un .not (t 14), some (12, false)⟩, ⟨(some 16), pick (t 12) (c (.bool true)) (t 15), none⟩]) (cond (t 16) (seq (reg [⟨(some 17), bld [.int .i64 0, .int .i64 0] [], none⟩, ⟨none, st (t 6) 2 (t 17), none⟩, ⟨(some 7), mv (c (.int .i64 1)), none⟩]) (ret)) (skip))) (seq (reg [⟨(some 18), bld [.bool false] [], none⟩, ⟨(some 8), alloc [.bool false], none⟩, ⟨none, st (t 8) 1 (t 18), none⟩]) (seq (reg [⟨(some 19), mv (t 2), none⟩, ⟨(some 20), call (t 19) [t 8], none⟩, ⟨(some 21), calle (c (.fn 63 [])) [t 8, t 20] [], none⟩, ⟨(some 22), ext (t 21) 0, none⟩, ⟨(some 23), ext (t 21) 1, none⟩, ⟨none, st (t 6) 2 (t 22), none⟩, ⟨(some 7), mv (t 23), none⟩]) (ret))))
def r_impl_worked : List ARes := [.cell 6 2 true, .tmp 7]
theorem k_impl_worked : acLin Go.Proofs.Tryd.prog 68 3 (inQ [20] [63]) [] = some (c_impl_worked, r_impl_worked) := by kernel_rfl
def c_impl_AddFractions_1 : AC := seq (reg [⟨(some 4), alloc [.int .i64 0, .int .i64 0], none⟩]) (seq (reg [⟨(some 5), mv (t 0), none⟩, ⟨(some 6), ld (t 1) 2 true, none⟩, ⟨(some 7), ld (t 2) 2 true, none⟩, ⟨(some 8), calle (c (.fn 70 [])) [t 5, t 6, t 7] [], none⟩, ⟨none, st (t 4) 2 (t 8), none⟩]) (ret))
def r_impl_AddFractions_1 : List ARes := [.cell 4 2 true]
theorem k_impl_AddFractions_1 : acLin Go.Proofs.Tryd.prog 69 3 (inQ [] [70]) [] = some (c_impl_AddFractions_1, r_impl_AddFractions_1) := by kernel_rfl
def c_impl_AddFractions : AC := seq (reg [⟨(some 2), box 2 (t 0), none⟩, ⟨(some 3), box 2 (t 1), none⟩, ⟨(some 4), alloc [.int .i64 0, .int .i64 0], none⟩, ⟨(some 5), mv (c (.int .i64 0)), none⟩]) (seq (reg [⟨(some 6), ld (t 2) 2 true, none⟩, ⟨(some 7), ld (t 3) 2 true, none⟩, ⟨(some 8), mkf 69 [t 2, t 3], none⟩, ⟨(some 9), calle (c (.fn 68 [])) [t 6, t 7, t 8] [], none⟩, ⟨(some 10), ext (t 9) 0, none⟩, ⟨(some 11), ext (t 9) 1, none⟩, ⟨none, st (t 4) 2 (t 10), none⟩, ⟨(some 5), mv (t 11), none⟩]) (ret))
def r_impl_AddFractions : List ARes := [.cell 4 2 true, .tmp 5]
theorem k_impl_AddFractions : acLin Go.Proofs.Tryd.prog 22 2 (inQ [] [68]) [] = some (c_impl_AddFractions, r_impl_AddFractions) := by kernel_rfl
def c_impl_SubFractions_1 : AC := seq (reg [⟨(some 4), alloc [.int .i64 0, .int .i64 0], none⟩]) (seq (reg [⟨(some 5), mv (t 0), none⟩, ⟨(some 6), ld (t 1) 2 true, none⟩, ⟨(some 7), ld (t 2) 2 true, none⟩, ⟨(some 8), calle (c (.fn 74 [])) [t 5, t 6, t 7] [], none⟩, ⟨none, st (t 4) 2 (t 8), none⟩]) (ret))
def r_impl_SubFractions_1 : List ARes := [.cell 4 2 true]
theorem k_impl_SubFractions_1 : acLin Go.Proofs.Tryd.prog 73 3 (inQ [] [74]) [] = some (c_impl_SubFractions_1, r_impl_SubFractions_1) := by kernel_rfl
def c_impl_SubFractions : AC := seq (reg [⟨(some 2), box 2 (t 0), none⟩, ⟨(some 3), box 2 (t 1), none⟩, ⟨(some 4), alloc [.int .i64 0, .int .i64 0], none⟩, ⟨(some 5), mv (c (.int .i64 0)), none⟩]) (seq (reg [⟨(some 6), ld (t 2) 2 true, none⟩, ⟨(some 7), ld (t 3) 2 true, none⟩, ⟨(some 8), mkf 73 [t 2, t 3], none⟩, ⟨(some 9), calle (c (.fn 68 [])) [t 6, t 7, t 8] [], none⟩, ⟨(some 10), ext (t 9) 0, none⟩, ⟨(some 11), ext (t 9) 1, none⟩, ⟨none, st (t 4) 2 (t 10), none⟩, ⟨(some 5), mv (t 11), none⟩]) (ret))
def r_impl_SubFractions : List ARes := [.cell 4 2 true, .tmp 5]
theorem k_impl_SubFractions : acLin Go.Proofs.Tryd.prog 24 2 (inQ [] [68]) [] = some (c_impl_SubFractions, r_impl_SubFractions) := by kernel_rfl
def c_impl_MulFractions_1 : AC := seq (reg [⟨(some 4), alloc [.int .i64 0, .int .i64 0], none⟩]) (seq (reg [⟨(some 5), mv (t 0), none⟩, ⟨(some 6), ld (t 1) 2 true, none⟩, ⟨(some 7), ld (t 2) 2 true, none⟩, ⟨(some 8), calle (c (.fn 76 [])) [t 5, t 6, t 7] [], none⟩, ⟨none, st (t 4) 2 (t 8), none⟩]) (ret))
def r_impl_MulFractions_1 : List ARes := [.cell 4 2 true]
theorem k_impl_MulFractions_1 : acLin Go.Proofs.Tryd.prog 75 3 (inQ [] [76]) [] = some (c_impl_MulFractions_1, r_impl_MulFractions_1) := by kernel_rfl
def c_impl_MulFractions : AC := seq (reg [⟨(some 2), box 2 (t 0), none⟩, ⟨(some 3), box 2 (t 1), none⟩, ⟨(some 4), alloc [.int .i64 0, .int .i64 0], none⟩, ⟨(some 5), mv (c (.int .i64 0)), none⟩]) (seq (reg [⟨(some 6), ld (t 2) 2 true, none⟩, ⟨(some 7), ld (t 3) 2 true, none⟩, ⟨(some 8), mkf 75 [t 2, t 3], none⟩, ⟨(some 9), calle (c (.fn 68 [])) [t 6, t 7, t 8] [], none⟩, ⟨(some 10), ext (t 9) 0, none⟩, ⟨(some 11), ext (t 9) 1, none⟩, ⟨none, st (t 4) 2 (t 10), none⟩, ⟨(some 5), mv (t 11), none⟩]) (ret))
def r_impl_MulFractions : List ARes := [.cell 4 2 true, .tmp 5]
theorem k_impl_MulFractions : acLin Go.Proofs.Tryd.prog 25 2 (inQ [] [68]) [] = some (c_impl_MulFractions, r_impl_MulFractions) := by kernel_rfl
def c_impl_DivFractions_1 : AC := seq (reg [⟨(some 4), alloc [.int .i64 0, .int .i64 0], none⟩]) (seq (reg [⟨(some 5), mv (t 0), none⟩, ⟨(some 6), ld (t 1) 2 true, none⟩, ⟨(some 7), ld (t 2) 2 true, none⟩, ⟨(some 8), calle (c (.fn 79 [])) [t 5, t 6, t 7] [], none⟩, ⟨none, st (t 4) 2 (t 8), none⟩]) (ret))
def r_impl_DivFractions_1 : List ARes := [.cell 4 2 true]
theorem k_impl_DivFractions_1 : acLin Go.Proofs.Tryd.prog 78 3 (inQ [] [79]) [] = some (c_impl_DivFractions_1, r_impl_DivFractions_1) := by kernel_rfl
def c_impl_DivFractions : AC := seq (reg [⟨(some 2), box 2 (t 0), none⟩, ⟨(some 3), box 2 (t 1), none⟩, ⟨(some 4), alloc [.int .i64 0, .int .i64 0], none⟩, ⟨(some 5), mv (c (.int .i64 0)), none⟩]) (seq (seq (reg [⟨(some 6), ld (t 2) 2 true, none⟩, ⟨(some 7), callq (c (.fn 20 [])) [t 6], none⟩, ⟨(some 8), mv (t 7), none⟩, ⟨(some 9), ld (t 3) 2 true, some (8, true)⟩, ⟨(some 10), callq (c (.fn 20 [])) [t 9], some (8, true)⟩, ⟨(some 11), pick (t 8) (t 10) (c (.bool false)), none⟩, ⟨(some 12), mv (t 11), none⟩, ⟨(some 13), fad (t 3) 0, some (12, true)⟩, ⟨(some 14), ld (t 13) 1 false, some (12, true)⟩, ⟨(some 15), bin .eql (t 14) (c (.int .i64 0)), some (12, true)⟩, ⟨(some 16), pick (t 12) (t 15) (c (.bool false)), none⟩]) (cond (t 16) (seq (reg [⟨(some 17), bld [.int .i64 0, .int .i64 0] [], none⟩, ⟨none, st (t 4) 2 (t 17), none⟩, ⟨(some 5), mv (c (.int .i64 4)), none⟩]) (ret)) (skip))) (seq (reg [⟨(some 18), ld (t 2) 2 true, none⟩, ⟨(some 19), ld (t 3) 2 true, none⟩, ⟨(some 20), mkf 78 [t 2, t 3], none⟩, ⟨(some 21), calle (c (.fn 68 [])) [t 18, t 19, t 20] [], none⟩, ⟨(some 22), ext (t 21) 0, none⟩, ⟨(some 23), ext (t 21) 1, none⟩, ⟨none, st (t 4) 2 (t 22), none⟩, ⟨(some 5), mv (t 23), none⟩]) (ret)))
def r_impl_DivFractions : List ARes := [.cell 4 2 true, .tmp 5]
theorem k_impl_DivFractions : acLin Go.Proofs.Tryd.prog 27 2 (inQ [20] [68]) [] = some (c_impl_DivFractions, r_impl_DivFractions) := by kernel_rfl
def c_impl_CompareFractions : AC := seq (reg [⟨(some 2), box 2 (t 0), none⟩, ⟨(some 3), box 2 (t 1), none⟩, ⟨(some 4), mv (c (.int .i64 0)), none⟩, ⟨(some 5), mv (c (.int .i64 0)), none⟩]) (seq (seq (reg [⟨(some 6), ld (t 2) 2 true, none⟩, ⟨(some 7), callq (c (.fn 20 [])) [t 6], none⟩, ⟨(some 8), un .not (t 7), none⟩, ⟨(some 9), mv (t 8), none⟩, ⟨(some 10), ld (t 3) 2 true, some (9, false)⟩, ⟨(some 11), callq (c (.fn 20 [])) [t 10], some (9, false)⟩, ⟨(some 12), un .not (t 11), some (9, false)⟩, ⟨(some 13), pick (t 9) (c (.bool true)) (t 12), none⟩]) (cond (t 13) (seq (reg [⟨(some 4), mv (c (.int .i64 0)), none⟩, ⟨(some 5), mv (c (.int .i64 1)), none⟩]) (ret)) (skip))) (seq (reg [⟨(some 14), ld (t 2) 2 true, none⟩, ⟨(some 15), ld (t 3) 2 true, none⟩, ⟨(some 16), callq (c (.fn 67 [])) [t 14, t 15], none⟩, ⟨(some 4), mv (t 16), none⟩, ⟨(some 5), mv (c (.int .i64 0)), none⟩]) (ret)))
def r_impl_CompareFractions : List ARes := [.tmp 4, .tmp 5]
theorem k_impl_CompareFractions : acLin Go.Proofs.Tryd.prog 21 2 (inQ [20, 67] []) [] = some (c_impl_CompareFractions, r_impl_CompareFractions) := by kernel_rfl
def c_spec_AddFractions : AC := seq (reg [⟨(some 2), box 2 (t 0), none⟩, ⟨(some 3), box 2 (t 1), none⟩, ⟨(some 4), alloc [.int .i64 0, .int .i64 0], none⟩, ⟨(some 5), mv (c (.int .i64 0)), none⟩]) (seq (seq (reg [⟨(some 6), ld (t 2) 2 true, none⟩, ⟨(some 7), callq (c (.fn 71 [])) [t 6], none⟩, ⟨(some 8), un .not (t 7), none⟩, ⟨(some 9), mv (t 8), none⟩, ⟨(some 10), ld (t 3) 2 true, some (9, false)⟩, ⟨(some 11), callq (c (.fn 71 [])) [t 10], some (9, false)⟩, ⟨(some 12), un .not (t 11), some (9, false)⟩, ⟨(some 13), pick (t 9) (c (.bool true)) (t 12), none⟩]) (cond (t 13) (seq (reg [⟨(some 14), bld [.int .i64 0, .int .i64 0] [], none⟩, ⟨none, st (t 4) 2 (t 14), none⟩, ⟨(some 5), mv (c (.int .i64 1)), none⟩]) (ret)) (skip))) (seq (reg [⟨(some 15), ld (t 2) 2 true, none⟩, ⟨(some 16), ld (t 3) 2 true, none⟩, ⟨(some 17), callq (c (.fn 72 [])) [t 15, t 16], none⟩, ⟨(some 18), ext (t 17) 0, none⟩, ⟨(some 19), ext (t 17) 1, none⟩, ⟨none, st (t 4) 2 (t 18), none⟩, ⟨(some 5), mv (t 19), none⟩]) (ret)))
def r_spec_AddFractions : List ARes := [.cell 4 2 true, .tmp 5]
theorem k_spec_AddFractions : acLin Go.Proofs.Tryd.prog 23 2 (inQ [71, 72] []) [] = some (c_spec_AddFractions, r_spec_AddFractions) := by kernel_rfl
def c_spec_MulFractions : AC := seq (reg [⟨(some 2), box 2 (t 0), none⟩, ⟨(some 3), box 2 (t 1), none⟩, ⟨(some 4), alloc [.int .i64 0, .int .i64 0], none⟩, ⟨(some 5), mv (c (.int .i64 0)), none⟩]) (seq (seq (reg [⟨(some 6), ld (t 2) 2 true, none⟩, ⟨(some 7), callq (c (.fn 71 [])) [t 6], none⟩, ⟨(some 8), un .not (t 7), none⟩, ⟨(some 9), mv (t 8), none⟩, ⟨(some 10), ld (t 3) 2 true, some (9, false)⟩, ⟨(some 11), callq (c (.fn 71 [])) [t 10], some (9, false)⟩, ⟨(some 12), un .not (t 11), some (9, false)⟩, ⟨(some 13), pick (t 9) (c (.bool true)) (t 12), none⟩]) (cond (t 13) (seq (reg [⟨(some 14), bld [.int .i64 0, .int .i64 0] [], none⟩, ⟨none, st (t 4) 2 (t 14), none⟩, ⟨(some 5), mv (c (.int .i64 1)), none⟩]) (ret)) (skip))) (seq (reg [⟨(some 15), ld (t 2) 2 true, none⟩, ⟨(some 16), ld (t 3) 2 true, none⟩, ⟨(some 17), callq (c (.fn 77 [])) [t 15, t 16], none⟩, ⟨(some 18), ext (t 17) 0, none⟩, ⟨(some 19), ext (t 17) 1, none⟩, ⟨none, st (t 4) 2 (t 18), none⟩, ⟨(some 5), mv (t 19), none⟩]) (ret)))
def r_spec_MulFractions : List ARes := [.cell 4 2 true, .tmp 5]
theorem k_spec_MulFractions : acLin Go.Proofs.Tryd.prog 26 2 (inQ [71, 77] []) [] = some (c_spec_MulFractions, r_spec_MulFractions) := by kernel_rfl
def c_laws_FnFractions : AC := seq (reg [⟨(some 4), mv (c (.bool false)), none⟩]) (seq (seq (reg [⟨(some 33), mv (t 0), none⟩, ⟨(some 34), mv (t 1), none⟩, ⟨(some 35), callq (c (.fn 15 [])) [t 33, t 34], none⟩]) (cond (t 35) (seq (reg [⟨(some 4), mv (c (.bool true)), none⟩]) (ret)) (skip))) (seq (reg [⟨(some 36), mv (t 0), none⟩, ⟨(some 37), callq (c (.fn 16 [])) [t 36], none⟩, ⟨(some 5), alloc [.int .i64 0, .int .i64 0], none⟩, ⟨none, st (t 5) 2 (t 37), none⟩]) (seq (reg [⟨(some 38), mv (t 1), none⟩, ⟨(some 39), callq (c (.fn 16 [])) [t 38], none⟩, ⟨(some 6), alloc [.int .i64 0, .int .i64 0], none⟩, ⟨none, st (t 6) 2 (t 39), none⟩]) (seq (reg [⟨(some 41), ld (t 5) 2 true, none⟩, ⟨(some 42), callq (c (.fn 18 [])) [t 41], none⟩, ⟨(some 43), callq (c (.fn 17 [])) [t 42], none⟩, ⟨(some 40), mv (t 43), none⟩, ⟨(some 44), ext (t 40) 0, none⟩, ⟨(some 45), ext (t 40) 1, none⟩, ⟨(some 7), alloc [.int .i64 0, .int .i64 0], none⟩, ⟨none, st (t 7) 2 (t 44), none⟩, ⟨(some 8), mv (t 45), none⟩]) (seq (reg [⟨(some 47), fad (t 5) 0, none⟩, ⟨(some 48), ld (t 47) 1 false, none⟩, ⟨(some 49), bin .mul (t 48) (c (.int .i64 3)), none⟩, ⟨(some 50), fad (t 5) 1, none⟩, ⟨(some 51), ld (t 50) 1 false, none⟩, ⟨(some 52), bin .mul (t 51) (c (.int .i64 3)), none⟩, ⟨(some 53), callq (c (.fn 19 [])) [t 49, t 52], none⟩, ⟨(some 46), mv (t 53), none⟩, ⟨(some 54), ext (t 46) 0, none⟩, ⟨(some 55), ext (t 46) 1, none⟩, ⟨(some 9), alloc [.int .i64 0, .int .i64 0], none⟩, ⟨none, st (t 9) 2 (t 54), none⟩, ⟨(some 10), mv (t 55), none⟩]) (seq (reg [⟨(some 57), fad (t 5) 0, none⟩, ⟨(some 58), ld (t 57) 1 false, none⟩, ⟨(some 59), un .neg (t 58), none⟩, ⟨(some 60), fad (t 5) 1, none⟩, ⟨(some 61), ld (t 60) 1 false, none⟩, ⟨(some 62), un .neg (t 61), none⟩, ⟨(some 63), callq (c (.fn 19 [])) [t 59, t 62], none⟩, ⟨(some 56), mv (t 63), none⟩, ⟨(some 64), ext (t 56) 0, none⟩, ⟨(some 65), ext (t 56) 1, none⟩, ⟨(some 11), alloc [.int .i64 0, .int .i64 0], none⟩, ⟨none, st (t 11) 2 (t 64), none⟩, ⟨(some 12), mv (t 65), none⟩]) (seq (seq (reg [⟨(some 66), mv (t 8), none⟩, ⟨(some 67), bin .neq (t 66) (c (.int .i64 0)), none⟩, ⟨(some 68), mv (t 67), none⟩, ⟨(some 69), ld (t 7) 2 true, some (68, false)⟩, ⟨(some 70), ld (t 5) 2 true, some (68, false)⟩, ⟨(some 71), eqs true [.i .i64, .i .i64] (t 69) (t 70), some (68, false)⟩, ⟨(some 72), pick (t 68) (c (.bool true)) (t 71), none⟩, ⟨(some 73), mv (t 72), none⟩, ⟨(some 74), mv (t 10), some (73, false)⟩, ⟨(some 75), bin .neq (t 74) (c (.int .i64 0)), some (73, false)⟩, ⟨(some 76), pick (t 73) (c (.bool true)) (t 75), none⟩, ⟨(some 77), mv (t 76), none⟩, ⟨(some 78), ld (t 9) 2 true, some (77, false)⟩, ⟨(some 79), ld (t 5) 2 true, some (77, false)⟩, ⟨(some 80), eqs true [.i .i64, .i .i64] (t 78) (t 79), some (77, false)⟩, ⟨(some 81), pick (t 77) (c (.bool true)) (t 80), none⟩, ⟨(some 82), mv (t 81), none⟩, ⟨(some 83), mv (t 12), some (82, false)⟩, ⟨(some 84), bin .neq (t 83) (c (.int .i64 0)), some (82, false)⟩, ⟨(some 85), pick (t 82) (c (.bool true)) (t 84), none⟩, ⟨(some 86), mv (t 85), none⟩, ⟨(some 87), ld (t 11) 2 true, some (86, false)⟩, ⟨(some 88), ld (t 5) 2 true, some (86, false)⟩, ⟨(some 89), eqs true [.i .i64, .i .i64] (t 87) (t 88), some (86, false)⟩, ⟨(some 90), pick (t 86) (c (.bool true)) (t 89), none⟩, ⟨(some 91), mv (t 90), none⟩, ⟨(some 92), ld (t 5) 2 true, some (91, false)⟩, ⟨(some 93), callq (c (.fn 20 [])) [t 92], some (91, false)⟩, ⟨(some 94), un .not (t 93), some (91, false)⟩, ⟨(some 95), pick (t 91) (c (.bool true)) (t 94), none⟩]) (cond (t 95) (seq (reg [⟨(some 4), mv (c (.bool false)), none⟩]) (ret)) (skip))) (seq (reg [⟨(some 97), ld (t 5) 2 true, none⟩, ⟨(some 98), ld (t 6) 2 true, none⟩, ⟨(some 99), callq (c (.fn 21 [])) [t 97, t 98], none⟩, ⟨(some 96), mv (t 99), none⟩, ⟨(some 100), ext (t 96) 0, none⟩, ⟨(some 101), ext (t 96) 1, none⟩, ⟨(some 13), mv (t 100), none⟩, ⟨(some 14), mv (t 101), none⟩]) (seq (reg [⟨(some 103), ld (t 6) 2 true, none⟩, ⟨(some 104), ld (t 5) 2 true, none⟩, ⟨(some 105), callq (c (.fn 21 [])) [t 103, t 104], none⟩, ⟨(some 102), mv (t 105), none⟩, ⟨(some 106), ext (t 102) 0, none⟩, ⟨(some 107), ext (t 102) 1, none⟩, ⟨(some 15), mv (t 106), none⟩, ⟨(some 16), mv (t 107), none⟩]) (seq (seq (reg [⟨(some 108), mv (t 14), none⟩, ⟨(some 109), bin .neq (t 108) (c (.int .i64 0)), none⟩, ⟨(some 110), mv (t 109), none⟩, ⟨(some 111), mv (t 16), some (110, false)⟩, ⟨(some 112), bin .neq (t 111) (c (.int .i64 0)), some (110, false)⟩, ⟨(some 113), pick (t 110) (c (.bool true)) (t 112), none⟩, ⟨(some 114), mv (t 113), none⟩, ⟨(some 115), mv (t 13), some (114, false)⟩, ⟨(some 116), mv (t 15), some (114, false)⟩, ⟨(some 117), un .neg (t 116), some (114, false)⟩, ⟨(some 118), bin .neq (t 115) (t 117), some (114, false)⟩, ⟨(some 119), pick (t 114) (c (.bool true)) (t 118), none⟩, ⟨(some 120), mv (t 119), none⟩, ⟨(some 121), mv (t 13), some (120, false)⟩, ⟨(some 122), bin .eql (t 121) (c (.int .i64 0)), some (120, false)⟩, ⟨(some 123), ld (t 5) 2 true, some (120, false)⟩, ⟨(some 124), ld (t 6) 2 true, some (120, false)⟩, ⟨(some 125), eqs false [.i .i64, .i .i64] (t 123) (t 124), some (120, false)⟩, ⟨(some 126), eqb true (t 122) (t 125), some (120, false)⟩, ⟨(some 127), pick (t 120) (c (.bool true)) (t 126), none⟩]) (cond (t 127) (seq (reg [⟨(some 4), mv (c (.bool false)), none⟩]) (ret)) (skip))) (seq (reg [⟨(some 129), ld (t 5) 2 true, none⟩, ⟨(some 130), ld (t 6) 2 true, none⟩, ⟨(some 131), callq (c (.fn 22 [])) [t 129, t 130], none⟩, ⟨(some 128), mv (t 131), none⟩, ⟨(some 132), ext (t 128) 0, none⟩, ⟨(some 133), ext (t 128) 1, none⟩, ⟨(some 17), alloc [.int .i64 0, .int .i64 0], none⟩, ⟨none, st (t 17) 2 (t 132), none⟩, ⟨(some 18), mv (t 133), none⟩]) (seq (reg [⟨(some 135), ld (t 5) 2 true, none⟩, ⟨(some 136), ld (t 6) 2 true, none⟩, ⟨(some 137), callq (c (.fn 23 [])) [t 135, t 136], none⟩, ⟨(some 134), mv (t 137), none⟩, ⟨(some 138), ext (t 134) 0, none⟩, ⟨(some 139), ext (t 134) 1, none⟩, ⟨(some 19), alloc [.int .i64 0, .int .i64 0], none⟩, ⟨none, st (t 19) 2 (t 138), none⟩, ⟨(some 20), mv (t 139), none⟩]) (seq (seq (reg [⟨(some 140), mv (t 18), none⟩, ⟨(some 141), mv (t 20), none⟩, ⟨(some 142), bin .neq (t 140) (t 141), none⟩, ⟨(some 143), mv (t 142), none⟩, ⟨(some 144), ld (t 17) 2 true, some (143, false)⟩, ⟨(some 145), ld (t 19) 2 true, some (143, false)⟩, ⟨(some 146), eqs true [.i .i64, .i .i64] (t 144) (t 145), some (143, false)⟩, ⟨(some 147), pick (t 143) (c (.bool true)) (t 146), none⟩]) (cond (t 147) (seq (reg [⟨(some 4), mv (c (.bool false)), none⟩]) (ret)) (skip))) (seq (seq (reg [⟨(some 148), mv (t 18), none⟩, ⟨(some 149), bin .eql (t 148) (c (.int .i64 0)), none⟩]) (cond (t 149) (seq (reg [⟨(some 151), ld (t 17) 2 true, none⟩, ⟨(some 152), ld (t 6) 2 true, none⟩, ⟨(some 153), callq (c (.fn 24 [])) [t 151, t 152], none⟩, ⟨(some 150), mv (t 153), none⟩, ⟨(some 154), ext (t 150) 0, none⟩, ⟨(some 155), ext (t 150) 1, none⟩, ⟨(some 21), alloc [.int .i64 0, .int .i64 0], none⟩, ⟨none, st (t 21) 2 (t 154), none⟩, ⟨(some 22), mv (t 155), none⟩]) (seq (reg [⟨(some 157), ld (t 6) 2 true, none⟩, ⟨(some 158), ld (t 5) 2 true, none⟩, ⟨(some 159), callq (c (.fn 22 [])) [t 157, t 158], none⟩, ⟨(some 156), mv (t 159), none⟩, ⟨(some 160), ext (t 156) 0, none⟩, ⟨(some 161), ext (t 156) 1, none⟩, ⟨(some 23), alloc [.int .i64 0, .int .i64 0], none⟩, ⟨none, st (t 23) 2 (t 160), none⟩, ⟨(some 24), mv (t 161), none⟩]) (seq (reg [⟨(some 162), mv (t 22), none⟩, ⟨(some 163), bin .neq (t 162) (c (.int .i64 0)), none⟩, ⟨(some 164), mv (t 163), none⟩, ⟨(some 165), ld (t 21) 2 true, some (164, false)⟩, ⟨(some 166), ld (t 5) 2 true, some (164, false)⟩, ⟨(some 167), eqs true [.i .i64, .i .i64] (t 165) (t 166), some (164, false)⟩, ⟨(some 168), pick (t 164) (c (.bool true)) (t 167), none⟩, ⟨(some 169), mv (t 168), none⟩, ⟨(some 170), mv (t 24), some (169, false)⟩, ⟨(some 171), bin .neq (t 170) (c (.int .i64 0)), some (169, false)⟩, ⟨(some 172), pick (t 169) (c (.bool true)) (t 171), none⟩, ⟨(some 173), mv (t 172), none⟩, ⟨(some 174), ld (t 23) 2 true, some (173, false)⟩, ⟨(some 175), ld (t 17) 2 true, some (173, false)⟩, ⟨(some 176), eqs true [.i .i64, .i .i64] (t 174) (t 175), some (173, false)⟩, ⟨(some 177), pick (t 173) (c (.bool true)) (t 176), none⟩, ⟨(some 178), mv (t 177), none⟩, ⟨(some 179), ld (t 17) 2 true, some (178, false)⟩, ⟨(some 180), callq (c (.fn 20 [])) [t 179], some (178, false)⟩, ⟨(some 181), un .not (t 180), some (178, false)⟩, ⟨(some 182), pick (t 178) (c (.bool true)) (t 181), none⟩]) (cond (t 182) (seq (reg [⟨(some 4), mv (c (.bool false)), none⟩]) (ret)) (skip))))) (skip))) (seq (reg [⟨(some 184), ld (t 5) 2 true, none⟩, ⟨(some 185), ld (t 6) 2 true, none⟩, ⟨(some 186), callq (c (.fn 25 [])) [t 184, t 185], none⟩, ⟨(some 183), mv (t 186), none⟩, ⟨(some 187), ext (t 183) 0, none⟩, ⟨(some 188), ext (t 183) 1, none⟩, ⟨(some 25), alloc [.int .i64 0, .int .i64 0], none⟩, ⟨none, st (t 25) 2 (t 187), none⟩, ⟨(some 26), mv (t 188), none⟩]) (seq (reg [⟨(some 190), ld (t 5) 2 true, none⟩, ⟨(some 191), ld (t 6) 2 true, none⟩, ⟨(some 192), callq (c (.fn 26 [])) [t 190, t 191], none⟩, ⟨(some 189), mv (t 192), none⟩, ⟨(some 193), ext (t 189) 0, none⟩, ⟨(some 194), ext (t 189) 1, none⟩, ⟨(some 27), alloc [.int .i64 0, .int .i64 0], none⟩, ⟨none, st (t 27) 2 (t 193), none⟩, ⟨(some 28), mv (t 194), none⟩]) (seq (seq (reg [⟨(some 195), mv (t 26), none⟩, ⟨(some 196), mv (t 28), none⟩, ⟨(some 197), bin .neq (t 195) (t 196), none⟩, ⟨(some 198), mv (t 197), none⟩, ⟨(some 199), ld (t 25) 2 true, some (198, false)⟩, ⟨(some 200), ld (t 27) 2 true, some (198, false)⟩, ⟨(some 201), eqs true [.i .i64, .i .i64] (t 199) (t 200), some (198, false)⟩, ⟨(some 202), pick (t 198) (c (.bool true)) (t 201), none⟩]) (cond (t 202) (seq (reg [⟨(some 4), mv (c (.bool false)), none⟩]) (ret)) (skip))) (seq (seq (reg [⟨(some 203), mv (t 26), none⟩, ⟨(some 204), bin .eql (t 203) (c (.int .i64 0)), none⟩, ⟨(some 205), mv (t 204), none⟩, ⟨(some 206), fad (t 6) 0, some (205, true)⟩, ⟨(some 207), ld (t 206) 1 false, some (205, true)⟩, ⟨(some 208), bin .neq (t 207) (c (.int .i64 0)), some (205, true)⟩, ⟨(some 209), pick (t 205) (t 208) (c (.bool false)), none⟩]) (cond (t 209) (seq (reg [⟨(some 211), ld (t 25) 2 true, none⟩, ⟨(some 212), ld (t 6) 2 true, none⟩, ⟨(some 213), callq (c (.fn 27 [])) [t 211, t 212], none⟩, ⟨(some 210), mv (t 213), none⟩, ⟨(some 214), ext (t 210) 0, none⟩, ⟨(some 215), ext (t 210) 1, none⟩, ⟨(some 29), alloc [.int .i64 0, .int .i64 0], none⟩, ⟨none, st (t 29) 2 (t 214), none⟩, ⟨(some 30), mv (t 215), none⟩]) (seq (reg [⟨(some 216), mv (t 30), none⟩, ⟨(some 217), bin .neq (t 216) (c (.int .i64 0)), none⟩, ⟨(some 218), mv (t 217), none⟩, ⟨(some 219), ld (t 29) 2 true, some (218, false)⟩, ⟨(some 220), ld (t 5) 2 true, some (218, false)⟩, ⟨(some 221), eqs true [.i .i64, .i .i64] (t 219) (t 220), some (218, false)⟩, ⟨(some 222), pick (t 218) (c (.bool true)) (t 221), none⟩]) (cond (t 222) (seq (reg [⟨(some 4), mv (c (.bool false)), none⟩]) (ret)) (skip)))) (skip))) (seq (reg [⟨(some 224), ld (t 5) 2 true, none⟩, ⟨(some 225), ld (t 6) 2 true, none⟩, ⟨(some 226), callq (c (.fn 24 [])) [t 224, t 225], none⟩, ⟨(some 223), mv (t 226), none⟩, ⟨(some 227), ext (t 223) 0, none⟩, ⟨(some 228), ext (t 223) 1, none⟩, ⟨(some 31), alloc [.int .i64 0, .int .i64 0], none⟩, ⟨none, st (t 31) 2 (t 227), none⟩, ⟨(some 32), mv (t 228), none⟩]) (seq (reg [⟨(some 229), mv (t 32), none⟩, ⟨(some 230), bin .eql (t 229) (c (.int .i64 3)), none⟩, ⟨(some 231), mv (t 230), none⟩, ⟨(some 232), mv (t 32), some (231, false)⟩, ⟨(some 233), bin .eql (t 232) (c (.int .i64 0)), some (231, false)⟩, ⟨(some 234), mv (t 233), some (231, false)⟩, ⟨(some 235), fad (t 31) 0, some (234, true)⟩, ⟨(some 236), ld (t 235) 1 false, some (234, true)⟩, ⟨(some 237), bin .gtr (t 236) (c (.int .i64 0)), some (234, true)⟩, ⟨(some 238), mv (t 13), some (234, true)⟩, ⟨(some 239), bin .gtr (t 238) (c (.int .i64 0)), some (234, true)⟩, ⟨(some 240), eqb false (t 237) (t 239), some (234, true)⟩, ⟨(some 241), pick (t 234) (t 240) (c (.bool false)), some (231, false)⟩, ⟨(some 242), mv (t 241), some (231, false)⟩, ⟨(some 243), fad (t 31) 0, some (242, true)⟩, ⟨(some 244), ld (t 243) 1 false, some (242, true)⟩, ⟨(some 245), bin .lss (t 244) (c (.int .i64 0)), some (242, true)⟩, ⟨(some 246), mv (t 13), some (242, true)⟩, ⟨(some 247), bin .lss (t 246) (c (.int .i64 0)), some (242, true)⟩, ⟨(some 248), eqb false (t 245) (t 247), some (242, true)⟩, ⟨(some 249), pick (t 242) (t 248) (c (.bool false)), some (231, false)⟩, ⟨(some 250), pick (t 231) (c (.bool true)) (t 249), none⟩, ⟨(some 4), mv (t 250), none⟩]) (ret)))))))))))))))))))))
def r_laws_FnFractions : List ARes := [.tmp 4]
theorem k_laws_FnFractions : acLin Go.Proofs.Tryd.prog 5 2 (inQ [15, 16, 17, 18, 19, 20, 21, 22, 23, 24, 25, 26, 27] []) [] = some (c_laws_FnFractions, r_laws_FnFractions) := by kernel_rfl
end Go.Proofs.YtgophedkejgedaaDoorAi
end

section
/- Contracts: the source of draws. -/
namespace Go.Proofs.YtgophedkejgedaaDoorAi
open Go Go.RowKit
set_option linter.unusedVariables false
set_option linter.unusedSimpArgs false
set_option maxRecDepth 20000

abbrev byA (x : Int) : AV := .int .u8 x
instance : Plain byA 1 := ⟨fun _ => rfl, by omega, fun _ => rfl, fun _ => rfl, fun _ => rfl, fun _ _ => rfl⟩
theorem byA_inj (x y : Int) (h : byA x = byA y) : x = y := by simpa using h
abbrev bysA (l : List Int) : List AV := mapA byA l
@[simp] theorem bysA_inj {l k : List Int} : mapA byA l = mapA byA k ↔ l = k := ⟨mapA_inj byA_inj, fun h => by rw [h]⟩
def inB8 (l : List Int) : Prop := (∀ x ∈ l, 0 ≤ x ∧ x ≤ 255) ∧ l.length ≤ 3000
def byteAt (l : List Int) (a : Nat) : Int := l[a]?.getD 0
theorem byteAt_in {l : List Int} (h : inB8 l) (a : Nat) : 0 ≤ byteAt l a ∧ byteAt l a ≤ 255 := by
  unfold byteAt
  cases e : l[a]? with
  | none => simp
  | some x => exact h.1 x (List.mem_of_getElem? e)
def seedN (l : List Int) (a : Nat) (sd : Int) : Int := IntKind.wrap .u64 (IntKind.wrap .u64 (IntKind.wrap .u64 (sd * 6364136223846793005) + byteAt l a) + 1442695040888963407)
def nextV (l : List Int) (a : Nat) (sd : Int) : Int := if a + 1 ≤ l.length then byteAt l a else seedN l a sd / 1099511627776 % 256
theorem seedN_in (l : List Int) (a : Nat) (sd : Int) : 0 ≤ seedN l a sd ∧ seedN l a sd ≤ 18446744073709551615 := by
  unfold seedN
  generalize IntKind.wrap .u64 (IntKind.wrap .u64 (sd * 6364136223846793005) + byteAt l a) + 1442695040888963407 = x
  simp [IntKind.wrap, IntKind.signed, IntKind.bits]
  omega
theorem draw_bits (x : Int) (h : 0 ≤ x ∧ x ≤ 18446744073709551615) : IntKind.wrap .i64 (IntKind.wrap .u64 (((x.fdiv (2 ^ min 40 IntKind.u64.bits) % 2 ^ IntKind.u64.bits).toNat &&& 255 % 2 ^ IntKind.u64.bits : Nat) : Int)) = x / 1099511627776 % 256 := by
  obtain ⟨n, rfl⟩ := Int.eq_ofNat_of_zero_le h.1
  have e1 : ((n : Int).fdiv (2 ^ min 40 IntKind.u64.bits) % 2 ^ IntKind.u64.bits).toNat = n / 1099511627776 := by
    have b : IntKind.u64.bits = 64 := rfl
    rw [b, Int.fdiv_eq_ediv_of_nonneg _ (by decide)]
    have : (2 : Int) ^ min 40 64 = 1099511627776 := by decide
    rw [this]
    have : (2 : Int) ^ 64 = 18446744073709551616 := by decide
    rw [this]
    omega
  have e2 : (255 % 2 ^ IntKind.u64.bits : Nat) = 2 ^ 8 - 1 := by decide
  rw [e1, e2, Nat.and_two_pow_sub_one_eq_mod]
  have e3 : (n / 1099511627776 % 2 ^ 8 : Nat) < 256 := Nat.mod_lt _ (by decide)
  have w1 : IntKind.wrap .u64 ((n / 1099511627776 % 2 ^ 8 : Nat) : Int) = ((n / 1099511627776 % 2 ^ 8 : Nat) : Int) := by
    simp [IntKind.wrap, IntKind.signed, IntKind.bits]; omega
  rw [w1, wrapI64 (by omega) (by omega)]
  omega
abbrev srcA (l : List Int) (a : Nat) (sd : Int) : List AV := [.sl (bysA l) false, .int .i64 a, .int .u64 sd]
noncomputable def sp_next : List AV → List AV → Option (AV × List AV) := pm (pf (ι := (List Int) × (Nat) × (Int)) (α := AV × List AV) (fun ⟨l, a, sd⟩ => inB8 l ∧ a ≤ 100000 ∧ 0 ≤ sd ∧ sd ≤ 18446744073709551615) (fun i => .agg ((fun ⟨l, a, sd⟩ => [.sl (bysA l) false, .int .i64 a, .int .u64 sd] : (List Int) × (Nat) × (Int) → List AV) i) :: (fun ⟨l, a, sd⟩ => [] : (List Int) × (Nat) × (Int) → List AV) i) (fun ⟨l, a, sd⟩ => (.int .i64 (nextV l a sd), [.sl (bysA l) false, .int .i64 ((a + 1 : Nat) : Int), .int .u64 (seedN l a sd)])))
theorem sp_next_eq (l : List Int) (a : Nat) (sd : Int) (h : inB8 l ∧ a ≤ 100000 ∧ 0 ≤ sd ∧ sd ≤ 18446744073709551615) : sp_next [.sl (bysA l) false, .int .i64 a, .int .u64 sd] [] = some (.int .i64 (nextV l a sd), [.sl (bysA l) false, .int .i64 ((a + 1 : Nat) : Int), .int .u64 (seedN l a sd)]) := by
  unfold sp_next pm
  exact pf_eq (ι := (List Int) × (Nat) × (Int)) (α := AV × List AV) (l, a, sd) h (by rintro ⟨l', a', sd'⟩ _ e; simp_all [Int.natCast_inj])
theorem m_spec_l00Src_next : QM PP 150 sp_next := by
  refine QM_pf (fun i h => ?_) fun i h => ?_
  · obtain ⟨l, a, sd⟩ := i; exact ⟨⟨by first | rfl | simp, by first | rfl | simp⟩, by first | rfl | simp, by first | rfl | simp⟩
  obtain ⟨l, a, sd⟩ := i
  replace h : inB8 l ∧ a ≤ 100000 ∧ 0 ≤ sd ∧ sd ≤ 18446744073709551615 := h
  refine H_code Quiet.nil hmix k_spec_l00Src_next rfl (fun b => b) (Nat.le_refl _) (fun _ _ => rfl) rfl (by first | rfl | simp) ?_
  show wpc 1 PP _ c_spec_l00Src_next (initSt [.ptr 0 0] ⟨[some [.sl (bysA l) false, .int .i64 a, .int .u64 sd]]⟩) (endH (fun b => b) r_spec_l00Src_next (.int .i64 (nextV l a sd)) [some [.sl (bysA l) false, .int .i64 ((a + 1 : Nat) : Int), .int .u64 (seedN l a sd)]])
  obtain ⟨hl, ha, hs⟩ := h
  have hb := byteAt_in hl a
  have hll := hl.2
  have w1 : IntKind.wrap .i64 ((a : Int) + 1) = (a : Int) + 1 := wrapI64 (by omega) (by omega)
  have w2 : IntKind.wrap .i64 (byteAt l a) = byteAt l a := wrapI64 (by omega) (by omega)
  have w3 : IntKind.wrap .u64 (byteAt l a) = byteAt l a := by simp [IntKind.wrap, IntKind.signed, IntKind.bits]; omega
  by_cases c : a < l.length
  · have ci : (a : Int) < l.length := by omega
    have c2 : a + 1 ≤ l.length := by omega
    have c3 : (a : Int) + 1 ≤ l.length := by omega
    have e : l[a] = byteAt l a := by unfold byteAt; rw [List.getElem?_eq_getElem c]; rfl
    have hn : nextV l a sd = byteAt l a := by unfold nextV; rw [if_pos c2]
    have hd : IntKind.wrap .u64 (IntKind.wrap .u64 (IntKind.wrap .u64 (sd * 6364136223846793005) + byteAt l a) + 1442695040888963407) = seedN l a sd := rfl
    rw [hn]
    simp -dsimp -implicitDefEqProofs [c_spec_l00Src_next, r_spec_l00Src_next, c, ci, c2, c3, e, w1, w2, w3, hd, hsub]
  · have ci : ¬ (a : Int) < l.length := by omega
    have c2 : ¬ a + 1 ≤ l.length := by omega
    have c3 : ¬ (a : Int) + 1 ≤ l.length := by omega
    have hz : byteAt l a = 0 := by unfold byteAt; rw [List.getElem?_eq_none (by omega)]; rfl
    have hn : nextV l a sd = seedN l a sd / 1099511627776 % 256 := by unfold nextV; rw [if_neg c2]
    have hd : IntKind.wrap .u64 (IntKind.wrap .u64 (IntKind.wrap .u64 (sd * 6364136223846793005)) + 1442695040888963407) = seedN l a sd := by unfold seedN; rw [hz, Int.add_zero]
    have w0 : IntKind.wrap .u64 0 = 0 := rfl
    have hx := draw_bits (seedN l a sd) (seedN_in l a sd)
    rw [hn]
    simp -dsimp -implicitDefEqProofs [c_spec_l00Src_next, r_spec_l00Src_next, c, ci, c2, c3, w1, w0, hd, hx, hsub]
end Go.Proofs.YtgophedkejgedaaDoorAi
end

section
/- Contracts: picks from the source of draws, drawn fractions. -/
namespace Go.Proofs.YtgophedkejgedaaDoorAi
open Go Go.RowKit
set_option linter.unusedVariables false
set_option linter.unusedSimpArgs false
set_option maxRecDepth 20000

theorem nextV_in {l : List Int} (h : inB8 l) (a : Nat) (sd : Int) : 0 ≤ nextV l a sd ∧ nextV l a sd ≤ 255 := by
  unfold nextV
  split
  · exact byteAt_in h a
  · omega
abbrev Src := Nat × Int
def okQ (l : List Int) (q : Src) (k : Nat) : Prop := inB8 l ∧ q.1 ≤ k ∧ 0 ≤ q.2 ∧ q.2 ≤ 18446744073709551615
def stepQ (l : List Int) (q : Src) : Src := (q.1 + 1, seedN l q.1 q.2)
def pickV (l : List Int) (q : Src) (n : Int) : Int := if n ≤ 1 then 0 else if 200 < n then (nextV l q.1 q.2 * 256 + nextV l (stepQ l q).1 (stepQ l q).2).tmod n else (nextV l q.1 q.2).tmod n
def pickQ (l : List Int) (q : Src) (n : Int) : Src := if n ≤ 1 then q else if 200 < n then stepQ l (stepQ l q) else stepQ l q
theorem okQ_step {l : List Int} {q : Src} {k : Nat} (h : okQ l q k) : okQ l (stepQ l q) (k + 1) := by
  obtain ⟨h1, h2, h3⟩ := h
  have := seedN_in l q.1 q.2
  exact ⟨h1, Nat.succ_le_succ h2, this⟩
theorem okQ_le {l : List Int} {q : Src} {k k' : Nat} (h : okQ l q k) (hk : k ≤ k') : okQ l q k' := ⟨h.1, Nat.le_trans h.2.1 hk, h.2.2⟩
theorem okQ_pick {l : List Int} {q : Src} {k : Nat} (h : okQ l q k) (n : Int) : okQ l (pickQ l q n) (k + 2) := by
  unfold pickQ
  split
  · exact okQ_le h (by omega)
  · split
    · exact okQ_step (okQ_step h)
    · exact okQ_le (okQ_step h) (by omega)
theorem pickV_in {l : List Int} {q : Src} {k : Nat} (h : okQ l q k) (n : Int) (hn : 1 ≤ n) : 0 ≤ pickV l q n ∧ pickV l q n < n := by
  have h1 := nextV_in h.1 q.1 q.2
  have h2 := nextV_in h.1 (stepQ l q).1 (stepQ l q).2
  unfold pickV
  split
  · omega
  · split
    · exact ⟨Int.tmod_nonneg _ (by omega), Int.tmod_lt_of_pos _ (by omega)⟩
    · exact ⟨Int.tmod_nonneg _ (by omega), Int.tmod_lt_of_pos _ (by omega)⟩
noncomputable def sp_pick : List AV → List AV → Option (AV × List AV) := pm (pf (ι := (List Int) × (Nat) × (Int) × (Int)) (α := AV × List AV) (fun ⟨l, a, sd, n⟩ => okQ l (a, sd) 90000 ∧ n ≤ 1048576) (fun i => .agg ((fun ⟨l, a, sd, n⟩ => [.sl (bysA l) false, .int .i64 a, .int .u64 sd] : (List Int) × (Nat) × (Int) × (Int) → List AV) i) :: (fun ⟨l, a, sd, n⟩ => [.int .i64 n] : (List Int) × (Nat) × (Int) × (Int) → List AV) i) (fun ⟨l, a, sd, n⟩ => (.int .i64 (pickV l (a, sd) n), [.sl (bysA l) false, .int .i64 ((pickQ l (a, sd) n).1 : Int), .int .u64 (pickQ l (a, sd) n).2])))
theorem sp_pick_eq (l : List Int) (a : Nat) (sd : Int) (n : Int) (h : okQ l (a, sd) 90000 ∧ n ≤ 1048576) : sp_pick [.sl (bysA l) false, .int .i64 a, .int .u64 sd] [.int .i64 n] = some (.int .i64 (pickV l (a, sd) n), [.sl (bysA l) false, .int .i64 ((pickQ l (a, sd) n).1 : Int), .int .u64 (pickQ l (a, sd) n).2]) := by
  unfold sp_pick pm
  exact pf_eq (ι := (List Int) × (Nat) × (Int) × (Int)) (α := AV × List AV) (l, a, sd, n) h (by rintro ⟨l', a', sd', n'⟩ _ e; simp_all [Int.natCast_inj])
theorem m_spec_l00Src_pick : QM PP 112 sp_pick := by
  refine QM_pf (fun i h => ?_) fun i h => ?_
  · obtain ⟨l, a, sd, n⟩ := i; exact ⟨⟨by first | rfl | simp, by first | rfl | simp⟩, by first | rfl | simp, by first | rfl | simp⟩
  obtain ⟨l, a, sd, n⟩ := i
  replace h : okQ l (a, sd) 90000 ∧ n ≤ 1048576 := h
  refine H_code (Quiet.e1 m_spec_l00Src_next.toE Quiet.nil) hmix k_spec_l00Src_pick rfl (fun b => b) (Nat.le_refl _) (fun _ _ => rfl) rfl (by first | rfl | simp) ?_
  show wpc 1 PP _ c_spec_l00Src_pick (initSt [.ptr 0 0, .int .i64 n] ⟨[some [.sl (bysA l) false, .int .i64 a, .int .u64 sd]]⟩) (endH (fun b => b) r_spec_l00Src_pick (.int .i64 (pickV l (a, sd) n)) [some [.sl (bysA l) false, .int .i64 ((pickQ l (a, sd) n).1 : Int), .int .u64 (pickQ l (a, sd) n).2]])
  obtain ⟨hq, hn⟩ := h
  have hq' := hq
  obtain ⟨hl, ha, hs⟩ := hq
  simp only at ha hs
  have e1 := sp_next_eq l a sd ⟨hl, by omega, hs⟩
  have v1 := nextV_in hl a sd
  have e2 := sp_next_eq l (a + 1) (seedN l a sd) ⟨hl, by omega, seedN_in l a sd⟩
  have v2 := nextV_in hl (a + 1) (seedN l a sd)
  have ec : ((a + 1 : Nat) : Int) = (a : Int) + 1 := by omega
  rw [ec] at e1 e2
  by_cases c : n ≤ 1
  · have r1 : pickV l (a, sd) n = 0 := by unfold pickV; rw [if_pos c]
    have r2 : pickQ l (a, sd) n = (a, sd) := by unfold pickQ; rw [if_pos c]
    simp -dsimp -implicitDefEqProofs [c_spec_l00Src_pick, r_spec_l00Src_pick, c, r1, r2, hsub]
  · have n0 : n ≠ 0 := by omega
    by_cases d : 200 < n
    · have r1 : pickV l (a, sd) n = (nextV l a sd * 256 + nextV l (a + 1) (seedN l a sd)).tmod n := by unfold pickV; rw [if_neg c, if_pos d]; rfl
      have r2 : pickQ l (a, sd) n = (a + 1 + 1, seedN l (a + 1) (seedN l a sd)) := by unfold pickQ; rw [if_neg c, if_pos d]; rfl
      have w1 : IntKind.wrap .i64 (nextV l a sd * 256) = nextV l a sd * 256 := wrapI64 (by omega) (by omega)
      have w2 : IntKind.wrap .i64 (nextV l a sd * 256 + nextV l (a + 1) (seedN l a sd)) = nextV l a sd * 256 + nextV l (a + 1) (seedN l a sd) := wrapI64 (by omega) (by omega)
      have w3 : IntKind.wrap .i64 ((nextV l a sd * 256 + nextV l (a + 1) (seedN l a sd)).tmod n) = (nextV l a sd * 256 + nextV l (a + 1) (seedN l a sd)).tmod n := by
        have h1 := Int.tmod_nonneg (a := nextV l a sd * 256 + nextV l (a + 1) (seedN l a sd)) n (by omega)
        have h2 := Int.tmod_lt_of_pos (nextV l a sd * 256 + nextV l (a + 1) (seedN l a sd)) (b := n) (by omega)
        exact wrapI64 (by omega) (by omega)
      simp -dsimp -implicitDefEqProofs [c_spec_l00Src_pick, r_spec_l00Src_pick, c, d, n0, e1, e2, w1, w2, w3, r1, r2, hsub]
    · have r1 : pickV l (a, sd) n = (nextV l a sd).tmod n := by unfold pickV; rw [if_neg c, if_neg d]
      have r2 : pickQ l (a, sd) n = (a + 1, seedN l a sd) := by unfold pickQ; rw [if_neg c, if_neg d]; rfl
      have w3 : IntKind.wrap .i64 ((nextV l a sd).tmod n) = (nextV l a sd).tmod n := by
        have h1 := Int.tmod_nonneg (a := nextV l a sd) n (by omega)
        have h2 := Int.tmod_lt_of_pos (nextV l a sd) (b := n) (by omega)
        exact wrapI64 (by omega) (by omega)
      simp -dsimp -implicitDefEqProofs [c_spec_l00Src_pick, r_spec_l00Src_pick, c, d, n0, e1, e2, w3, r1, r2, hsub]
noncomputable def sp_oneD : List AV → List AV → Option (AV × List AV) := pm (pf (ι := (List Int) × (Nat) × (Int) × (Int)) (α := AV × List AV) (fun ⟨l, a, sd, n⟩ => okQ l (a, sd) 90000 ∧ n ≤ 1048576) (fun i => .agg ((fun ⟨l, a, sd, n⟩ => [.sl (bysA l) false, .int .i64 a, .int .u64 sd] : (List Int) × (Nat) × (Int) × (Int) → List AV) i) :: (fun ⟨l, a, sd, n⟩ => [.int .i64 n] : (List Int) × (Nat) × (Int) × (Int) → List AV) i) (fun ⟨l, a, sd, n⟩ => (.bool (pickV l (a, sd) n == 0), [.sl (bysA l) false, .int .i64 ((pickQ l (a, sd) n).1 : Int), .int .u64 (pickQ l (a, sd) n).2])))
theorem sp_oneD_eq (l : List Int) (a : Nat) (sd : Int) (n : Int) (h : okQ l (a, sd) 90000 ∧ n ≤ 1048576) : sp_oneD [.sl (bysA l) false, .int .i64 a, .int .u64 sd] [.int .i64 n] = some (.bool (pickV l (a, sd) n == 0), [.sl (bysA l) false, .int .i64 ((pickQ l (a, sd) n).1 : Int), .int .u64 (pickQ l (a, sd) n).2]) := by
  unfold sp_oneD pm
  exact pf_eq (ι := (List Int) × (Nat) × (Int) × (Int)) (α := AV × List AV) (l, a, sd, n) h (by rintro ⟨l', a', sd', n'⟩ _ e; simp_all [Int.natCast_inj])
theorem m_spec_l00Src_one : QM PP 113 sp_oneD := by
  refine QM_pf (fun i h => ?_) fun i h => ?_
  · obtain ⟨l, a, sd, n⟩ := i; exact ⟨⟨by first | rfl | simp, by first | rfl | simp⟩, by first | rfl | simp, by first | rfl | simp⟩
  obtain ⟨l, a, sd, n⟩ := i
  replace h : okQ l (a, sd) 90000 ∧ n ≤ 1048576 := h
  refine H_code (Quiet.e1 m_spec_l00Src_pick.toE Quiet.nil) hmix k_spec_l00Src_one rfl (fun b => b) (Nat.le_refl _) (fun _ _ => rfl) rfl (by first | rfl | simp) ?_
  show wpc 1 PP _ c_spec_l00Src_one (initSt [.ptr 0 0, .int .i64 n] ⟨[some [.sl (bysA l) false, .int .i64 a, .int .u64 sd]]⟩) (endH (fun b => b) r_spec_l00Src_one (.bool (pickV l (a, sd) n == 0)) [some [.sl (bysA l) false, .int .i64 ((pickQ l (a, sd) n).1 : Int), .int .u64 (pickQ l (a, sd) n).2]])
  have e1 := sp_pick_eq l a sd n h
  simp -dsimp -implicitDefEqProofs [c_spec_l00Src_one, r_spec_l00Src_one, e1, hsub]
theorem flat_insL : ∀ (L : List Int), flatA (insA L) = insA L
  | [] => rfl
  | x :: L => by rw [flatA_cons, flat_insL L]; rfl
@[simp] theorem flat_ins_inj {L L' : List Int} : flatA (insA L') = flatA (insA L) ↔ L' = L := by rw [flat_insL, flat_insL, insA_inj]
theorem flat_insG {L : List Int} {i : Nat} (h : i < L.length) (h2 : i < (flatA (insA L)).length) : (flatA (insA L))[i]'h2 = .int .i64 L[i] := by
  simp only [flat_insL]; simp
def amongV (L : List Int) (l : List Int) (q : Src) : Int := L[(pickV l q L.length).toNat]?.getD 0
noncomputable def sp_among : List (Option (List AV)) → List AV → Option (AV × List (Option (List AV))) := pv (pf (ι := (List Int) × (Nat) × (Int) × (List Int)) (α := AV × List (Option (List AV))) (fun ⟨l, a, sd, L⟩ => okQ l (a, sd) 90000 ∧ 1 ≤ L.length ∧ L.length ≤ 200) (fun i => .agg (((fun ⟨l, a, sd, L⟩ => [some [.sl (bysA l) false, .int .i64 a, .int .u64 sd], some (flatA (insA L))] : (List Int) × (Nat) × (Int) × (List Int) → List (Option (List AV))) i).map enO) :: (fun ⟨l, a, sd, L⟩ => [.ptr 0 0, .ref 1 1 0 L.length .tight] : (List Int) × (Nat) × (Int) × (List Int) → List AV) i) (fun ⟨l, a, sd, L⟩ => (.int .i64 (amongV L l (a, sd)), [some [.sl (bysA l) false, .int .i64 ((pickQ l (a, sd) L.length).1 : Int), .int .u64 (pickQ l (a, sd) L.length).2], some (flatA (insA L))])))
theorem sp_among_eq (l : List Int) (a : Nat) (sd : Int) (L : List Int) (h : okQ l (a, sd) 90000 ∧ 1 ≤ L.length ∧ L.length ≤ 200) : sp_among [some [.sl (bysA l) false, .int .i64 a, .int .u64 sd], some (flatA (insA L))] [.ptr 0 0, .ref 1 1 0 L.length .tight] = some (.int .i64 (amongV L l (a, sd)), [some [.sl (bysA l) false, .int .i64 ((pickQ l (a, sd) L.length).1 : Int), .int .u64 (pickQ l (a, sd) L.length).2], some (flatA (insA L))]) := by
  unfold sp_among pv
  exact pf_eq (ι := (List Int) × (Nat) × (Int) × (List Int)) (α := AV × List (Option (List AV))) (l, a, sd, L) h (by rintro ⟨l', a', sd', L'⟩ _ e; simp_all [enO, Int.natCast_inj])
theorem v_spec_l00Src_among : QV PP 114 sp_among := by
  refine QV_pf fun i h => ?_
  obtain ⟨l, a, sd, L⟩ := i
  replace h : okQ l (a, sd) 90000 ∧ 1 ≤ L.length ∧ L.length ≤ 200 := h
  refine H_code (Quiet.e1 m_spec_l00Src_pick.toE Quiet.nil) hmix k_spec_l00Src_among rfl (fun b => b) (by simp [AHeap.n]) (fun _ _ => rfl) (by rfl) (by first | rfl | simp) ?_
  show wpc _ PP _ c_spec_l00Src_among (initSt [.ptr 0 0, .ref 1 1 0 L.length .tight] ⟨[some [.sl (bysA l) false, .int .i64 a, .int .u64 sd], some (flatA (insA L))]⟩) (endH (fun b => b) r_spec_l00Src_among (.int .i64 (amongV L l (a, sd))) [some [.sl (bysA l) false, .int .i64 ((pickQ l (a, sd) L.length).1 : Int), .int .u64 (pickQ l (a, sd) L.length).2], some (flatA (insA L))])
  obtain ⟨hq, h1, h2⟩ := h
  have e1 := sp_pick_eq l a sd L.length ⟨hq, by omega⟩
  have hv := pickV_in hq L.length (by omega)
  unfold amongV
  obtain ⟨i, hi⟩ := Int.eq_ofNat_of_zero_le hv.1
  rw [hi] at e1 hv
  have hx : i < L.length := by omega
  have hxi : (i : Int) < L.length := by omega
  have g : (L[i]?).getD 0 = L[i] := by rw [List.getElem?_eq_getElem hx]; rfl
  simp -dsimp -implicitDefEqProofs [c_spec_l00Src_among, r_spec_l00Src_among, e1, hi, hx, hxi, g, flat_insG hx, hsub]
theorem sp_pickq (l : List Int) (q : Src) (n : Int) (h : okQ l q 90000 ∧ n ≤ 1048576) : sp_pick [.sl (bysA l) false, .int .i64 q.1, .int .u64 q.2] [.int .i64 n] = some (.int .i64 (pickV l q n), [.sl (bysA l) false, .int .i64 ((pickQ l q n).1 : Int), .int .u64 (pickQ l q n).2]) := sp_pick_eq l q.1 q.2 n h
theorem sp_oneq (l : List Int) (q : Src) (n : Int) (h : okQ l q 90000 ∧ n ≤ 1048576) : sp_oneD [.sl (bysA l) false, .int .i64 q.1, .int .u64 q.2] [.int .i64 n] = some (.bool (pickV l q n == 0), [.sl (bysA l) false, .int .i64 ((pickQ l q n).1 : Int), .int .u64 (pickQ l q n).2]) := sp_oneD_eq l q.1 q.2 n h
theorem sp_amongq (l : List Int) (q : Src) (L : List Int) (h : okQ l q 90000 ∧ 1 ≤ L.length ∧ L.length ≤ 200) : sp_among [some [.sl (bysA l) false, .int .i64 q.1, .int .u64 q.2], some (flatA (insA L))] [.ptr 0 0, .ref 1 1 0 L.length .tight] = some (.int .i64 (amongV L l q), [some [.sl (bysA l) false, .int .i64 ((pickQ l q L.length).1 : Int), .int .u64 (pickQ l q L.length).2], some (flatA (insA L))]) := sp_among_eq l q.1 q.2 L h
end Go.Proofs.YtgophedkejgedaaDoorAi
end

section
/- Contracts: drawn fractions. -/
namespace Go.Proofs.YtgophedkejgedaaDoorAi
open Go Go.RowKit
set_option linter.unusedVariables false
set_option linter.unusedSimpArgs false
set_option maxRecDepth 20000

theorem amongV_in {L l : List Int} {q : Src} {k : Nat} (h : okQ l q k) (hL : 1 ≤ L.length) {p : Int → Prop} (hp : ∀ x ∈ L, p x) : p (amongV L l q) := by
  have hv := pickV_in h L.length (by omega)
  unfold amongV
  have : (pickV l q L.length).toNat < L.length := by omega
  rw [List.getElem?_eq_getElem this, Option.getD_some]
  exact hp _ (List.getElem_mem this)
def bigP : List Int := [1000000000, -1000000000, 999999999, 123456789]
def bigQ : List Int := [1000000000, 999999937, 65536]
def dq1 (l : List Int) (q : Src) : Src := pickQ l q 19
def dq2 (l : List Int) (q : Src) : Src := pickQ l (dq1 l q) 8
def dq3 (l : List Int) (q : Src) : Src := pickQ l (dq2 l q) 16
def do1 (l : List Int) (q : Src) : Bool := pickV l (dq2 l q) 16 == 0
def dq4 (l : List Int) (q : Src) : Src := if do1 l q = true then pickQ l (dq3 l q) 4 else dq3 l q
def dq5 (l : List Int) (q : Src) : Src := pickQ l (dq4 l q) 20
def do2 (l : List Int) (q : Src) : Bool := pickV l (dq4 l q) 20 == 0
def dq6 (l : List Int) (q : Src) : Src := if do2 l q = true then pickQ l (dq5 l q) 3 else dq5 l q
def drP (l : List Int) (q : Src) : Int := if do1 l q = true then amongV bigP l (dq3 l q) else pickV l q 19 - 9
def drD (l : List Int) (q : Src) : Int := if do2 l q = true then amongV bigQ l (dq5 l q) else 1 + pickV l (dq1 l q) 8
theorem dr_facts {l : List Int} {q : Src} {k : Nat} (h : okQ l q k) : okQ l (dq1 l q) (k + 2) ∧ okQ l (dq2 l q) (k + 4) ∧ okQ l (dq3 l q) (k + 6) ∧ okQ l (dq4 l q) (k + 8) ∧ okQ l (dq5 l q) (k + 10) ∧ okQ l (dq6 l q) (k + 12) := by
  have h1 : okQ l (dq1 l q) (k + 2) := okQ_pick h 19
  have h2 : okQ l (dq2 l q) (k + 4) := okQ_pick h1 8
  have h3 : okQ l (dq3 l q) (k + 6) := okQ_pick h2 16
  have h4 : okQ l (dq4 l q) (k + 8) := by
    unfold dq4; split
    · exact okQ_pick h3 4
    · exact okQ_le h3 (by omega)
  have h5 : okQ l (dq5 l q) (k + 10) := okQ_pick h4 20
  have h6 : okQ l (dq6 l q) (k + 12) := by
    unfold dq6; split
    · exact okQ_pick h5 3
    · exact okQ_le h5 (by omega)
  exact ⟨h1, h2, h3, h4, h5, h6⟩
theorem dr_in {l : List Int} {q : Src} {k : Nat} (h : okQ l q k) : (-1000000000 ≤ drP l q ∧ drP l q ≤ 1000000000) ∧ (1 ≤ drD l q ∧ drD l q ≤ 1000000000) := by
  obtain ⟨h1, h2, h3, h4, h5, h6⟩ := dr_facts h
  constructor
  · unfold drP; split
    · exact amongV_in (p := fun x => -1000000000 ≤ x ∧ x ≤ 1000000000) h3 (by decide) (by decide)
    · have := pickV_in h 19 (by omega); omega
  · unfold drD; split
    · exact amongV_in (p := fun x => 1 ≤ x ∧ x ≤ 1000000000) h5 (by decide) (by decide)
    · have := pickV_in h1 8 (by omega); omega
theorem low_some {p d : Int} (hp : -1000000000 ≤ p ∧ p ≤ 1000000000) (hd : 1 ≤ d ∧ d ≤ 1000000000) : lowO p d = some ⟨lowP p d, lowQ p d⟩ := by
  unfold lowO
  rw [if_pos]
  unfold smallB lowP lowQ
  rw [if_neg (by omega), if_neg (by omega)]
  have h1 := tdiv_small p (Int.gcd p d)
  have h2 := tdiv_small d (Int.gcd p d)
  simp only [Bool.and_eq_true, decide_eq_true_eq]
  omega
noncomputable def sp_drawn : List AV → List AV → Option (AV × List AV) := pm (pf (ι := (List Int) × (Nat) × (Int)) (α := AV × List AV) (fun ⟨l, a, sd⟩ => okQ l (a, sd) 1000) (fun i => .agg ((fun ⟨l, a, sd⟩ => [.sl (bysA l) false, .int .i64 a, .int .u64 sd] : (List Int) × (Nat) × (Int) → List AV) i) :: (fun ⟨l, a, sd⟩ => [] : (List Int) × (Nat) × (Int) → List AV) i) (fun ⟨l, a, sd⟩ => (.agg [.int .i64 (lowP (drP l (a, sd)) (drD l (a, sd))), .int .i64 (lowQ (drP l (a, sd)) (drD l (a, sd)))], [.sl (bysA l) false, .int .i64 ((dq6 l (a, sd)).1 : Int), .int .u64 (dq6 l (a, sd)).2])))
theorem sp_drawn_eq (l : List Int) (a : Nat) (sd : Int) (h : okQ l (a, sd) 1000) : sp_drawn [.sl (bysA l) false, .int .i64 a, .int .u64 sd] [] = some (.agg [.int .i64 (lowP (drP l (a, sd)) (drD l (a, sd))), .int .i64 (lowQ (drP l (a, sd)) (drD l (a, sd)))], [.sl (bysA l) false, .int .i64 ((dq6 l (a, sd)).1 : Int), .int .u64 (dq6 l (a, sd)).2]) := by
  unfold sp_drawn pm
  exact pf_eq (ι := (List Int) × (Nat) × (Int)) (α := AV × List AV) (l, a, sd) h (by rintro ⟨l', a', sd'⟩ _ e; simp_all [Int.natCast_inj])
set_option maxHeartbeats 2000000 in
theorem m_spec_l02Drawn : QM PP 57 sp_drawn := by
  refine QM_pf (fun i h => ?_) fun i h => ?_
  · obtain ⟨l, a, sd⟩ := i; exact ⟨⟨by first | rfl | simp, by first | rfl | simp⟩, by first | rfl | simp, by first | rfl | simp⟩
  obtain ⟨l, a, sd⟩ := i
  replace h : okQ l (a, sd) 1000 := h
  refine H_code (Quiet.q1 q_spec_l02Lowest (Quiet.e1 m_spec_l00Src_pick.toE (Quiet.e1 m_spec_l00Src_one.toE (Quiet.e1 v_spec_l00Src_among.toE Quiet.nil)))) hmix k_spec_l02Drawn rfl (fun b => b) (Nat.le_refl _) (fun _ _ => rfl) rfl (by first | rfl | simp) ?_
  show wpc 1 PP _ c_spec_l02Drawn (initSt [.ptr 0 0] ⟨[some [.sl (bysA l) false, .int .i64 a, .int .u64 sd]]⟩) (endH (fun b => b) r_spec_l02Drawn (.agg [.int .i64 (lowP (drP l (a, sd)) (drD l (a, sd))), .int .i64 (lowQ (drP l (a, sd)) (drD l (a, sd)))]) [some [.sl (bysA l) false, .int .i64 ((dq6 l (a, sd)).1 : Int), .int .u64 (dq6 l (a, sd)).2]])
  obtain ⟨h1, h2, h3, h4, h5, h6⟩ := dr_facts h
  have hin := dr_in h
  have hlow := sp_lowO_eq (drP l (a, sd)) (drD l (a, sd)) ⟨by unfold in62; omega, by unfold in62; omega, by omega⟩
  rw [low_some hin.1 hin.2] at hlow
  have e1 := sp_pick_eq l a sd 19 ⟨okQ_le h (by omega), by omega⟩
  have p1 := pickV_in h 19 (by omega)
  have p2 := pickV_in h1 8 (by omega)
  have e2 := sp_pickq l (dq1 l (a, sd)) 8 ⟨okQ_le h1 (by omega), by omega⟩
  have e3 := sp_oneq l (dq2 l (a, sd)) 16 ⟨okQ_le h2 (by omega), by omega⟩
  have e4 := sp_amongq l (dq3 l (a, sd)) bigP ⟨okQ_le h3 (by omega), by decide, by decide⟩
  have e5 := sp_oneq l (dq4 l (a, sd)) 20 ⟨okQ_le h4 (by omega), by omega⟩
  have e6 := sp_amongq l (dq5 l (a, sd)) bigQ ⟨okQ_le h5 (by omega), by decide, by decide⟩
  have c1 : pickQ l (a, sd) 19 = dq1 l (a, sd) := rfl
  have c2 : pickQ l (dq1 l (a, sd)) 8 = dq2 l (a, sd) := rfl
  have c3 : pickQ l (dq2 l (a, sd)) 16 = dq3 l (a, sd) := rfl
  have c5 : pickQ l (dq4 l (a, sd)) 20 = dq5 l (a, sd) := rfl
  have c4 : dq4 l (a, sd) = if do1 l (a, sd) = true then pickQ l (dq3 l (a, sd)) 4 else dq3 l (a, sd) := rfl
  have c6 : dq6 l (a, sd) = if do2 l (a, sd) = true then pickQ l (dq5 l (a, sd)) 3 else dq5 l (a, sd) := rfl
  have b1 : (pickV l (dq2 l (a, sd)) 16 == 0) = do1 l (a, sd) := rfl
  have b2 : (pickV l (dq4 l (a, sd)) 20 == 0) = do2 l (a, sd) := rfl
  have fP : drP l (a, sd) = if do1 l (a, sd) = true then amongV bigP l (dq3 l (a, sd)) else pickV l (a, sd) 19 - 9 := rfl
  have fD : drD l (a, sd) = if do2 l (a, sd) = true then amongV bigQ l (dq5 l (a, sd)) else 1 + pickV l (dq1 l (a, sd)) 8 := rfl
  rw [c1] at e1
  rw [c2] at e2
  rw [c3, b1] at e3
  rw [c5, b2] at e5
  clear c1 c2 c3 c5 b1 b2
  generalize dq1 l (a, sd) = q1 at *
  generalize dq2 l (a, sd) = q2 at *
  generalize dq3 l (a, sd) = q3 at *
  generalize dq4 l (a, sd) = q4 at *
  generalize dq5 l (a, sd) = q5 at *
  generalize dq6 l (a, sd) = q6 at *
  generalize drP l (a, sd) = P at *
  generalize drD l (a, sd) = D at *
  generalize pickV l (a, sd) 19 = v1 at *
  generalize pickV l q1 8 = v2 at *
  generalize amongV bigP l q3 = A1 at *
  generalize amongV bigQ l q5 = A2 at *
  have w1 : IntKind.wrap .i64 (v1 - 9) = v1 - 9 := wrapI64 (by omega) (by omega)
  have w2 : IntKind.wrap .i64 (1 + v2) = 1 + v2 := wrapI64 (by omega) (by omega)
  have hb1 : bigP.length = 4 := rfl
  have hb2 : bigQ.length = 3 := rfl
  have hc1 : flatA (insA bigP) = [.int .i64 1000000000, .int .i64 (-1000000000), .int .i64 999999999, .int .i64 123456789] := rfl
  have hc2 : flatA (insA bigQ) = [.int .i64 1000000000, .int .i64 999999937, .int .i64 65536] := rfl
  have n4 : ((4 : Nat) : Int) = 4 := rfl
  have n3 : ((3 : Nat) : Int) = 3 := rfl
  rw [hb1, hc1, n4] at e4
  rw [hb2, hc2, n3] at e6
  cases o1 : do1 l (a, sd) <;> cases o2 : do2 l (a, sd) <;> rw [o1] at e3 c4 fP <;> rw [o2] at e5 c6 fD <;> simp only [Bool.false_eq_true, if_false, if_true] at c4 c6 fP fD <;> subst c4 c6 fP fD
  · simp -dsimp -implicitDefEqProofs [c_spec_l02Drawn, r_spec_l02Drawn, e1, e2, e3, e4, e5, e6, w1, w2, hlow, frO, hsub]
  · simp -dsimp -implicitDefEqProofs [c_spec_l02Drawn, r_spec_l02Drawn, e1, e2, e3, e4, e5, e6, w1, w2, hlow, frO, hsub]
  · simp -dsimp -implicitDefEqProofs [c_spec_l02Drawn, r_spec_l02Drawn, e1, e2, e3, e4, e5, e6, w1, w2, hlow, frO, hsub]
  · simp -dsimp -implicitDefEqProofs [c_spec_l02Drawn, r_spec_l02Drawn, e1, e2, e3, e4, e5, e6, w1, w2, hlow, frO, hsub]
end Go.Proofs.YtgophedkejgedaaDoorAi
end

section
/- MADE BY PROGRAM (wip/tools/gen.py): the abstract code of functions. -/
namespace Go.Proofs.YtgophedkejgedaaDoorAi
open Go AC AOp Opd
set_option linter.unusedVariables false
set_option maxRecDepth 100000
def c_laws_toFraction : AC := seq (reg [⟨(some 1), box 2 (t 0), none⟩, ⟨(some 2), alloc [.int .i64 0, .int .i64 0], none⟩]) (seq (reg [⟨(some 3), alloc [.int .i64 0, .int .i64 0], none⟩]) (seq (reg [⟨(some 4), fad (t 1) 0, none⟩, ⟨(some 5), ld (t 4) 1 false, none⟩, ⟨(some 6), fad (t 3) 0, none⟩, ⟨none, st (t 6) 1 (t 5), none⟩]) (seq (reg [⟨(some 7), fad (t 1) 1, none⟩, ⟨(some 8), ld (t 7) 1 false, none⟩, ⟨(some 9), fad (t 3) 1, none⟩, ⟨none, st (t 9) 1 (t 8), none⟩]) (seq (reg [⟨(some 10), ld (t 3) 2 true, none⟩, ⟨none, st (t 2) 2 (t 10), none⟩]) (ret)))))
def r_laws_toFraction : List ARes := [.cell 2 2 true]
theorem k_laws_toFraction : acLin Go.Proofs.Tryd.prog 135 1 (inQ [] []) [] = some (c_laws_toFraction, r_laws_toFraction) := by kernel_rfl
def c_laws_toGraph : AC := seq (reg [⟨(some 1), box 2 (t 0), none⟩, ⟨(some 2), alloc [.int .i64 0, .int .u32 0], none⟩]) (seq (reg [⟨(some 3), alloc [.int .i64 0, .int .u32 0], none⟩]) (seq (reg [⟨(some 4), fad (t 1) 0, none⟩, ⟨(some 5), ld (t 4) 1 false, none⟩, ⟨(some 6), fad (t 3) 0, none⟩, ⟨none, st (t 6) 1 (t 5), none⟩]) (seq (reg [⟨(some 7), fad (t 1) 1, none⟩, ⟨(some 8), ld (t 7) 1 false, none⟩, ⟨(some 9), fad (t 3) 1, none⟩, ⟨none, st (t 9) 1 (t 8), none⟩]) (seq (reg [⟨(some 10), ld (t 3) 2 true, none⟩, ⟨none, st (t 2) 2 (t 10), none⟩]) (ret)))))
def r_laws_toGraph : List ARes := [.cell 2 2 true]
theorem k_laws_toGraph : acLin Go.Proofs.Tryd.prog 42 1 (inQ [] []) [] = some (c_laws_toGraph, r_laws_toGraph) := by kernel_rfl
def c_laws_eqFraction : AC := seq (reg [⟨(some 2), box 2 (t 0), none⟩, ⟨(some 3), box 2 (t 1), none⟩, ⟨(some 4), mv (c (.bool false)), none⟩]) (seq (seq (reg [⟨(some 5), fad (t 2) 0, none⟩, ⟨(some 6), ld (t 5) 1 false, none⟩, ⟨(some 7), fad (t 3) 0, none⟩, ⟨(some 8), ld (t 7) 1 false, none⟩, ⟨(some 9), bin .neq (t 6) (t 8), none⟩]) (cond (t 9) (seq (reg [⟨(some 4), mv (c (.bool false)), none⟩]) (ret)) (skip))) (seq (seq (reg [⟨(some 10), fad (t 2) 1, none⟩, ⟨(some 11), ld (t 10) 1 false, none⟩, ⟨(some 12), fad (t 3) 1, none⟩, ⟨(some 13), ld (t 12) 1 false, none⟩, ⟨(some 14), bin .neq (t 11) (t 13), none⟩]) (cond (t 14) (seq (reg [⟨(some 4), mv (c (.bool false)), none⟩]) (ret)) (skip))) (seq (reg [⟨(some 4), mv (c (.bool true)), none⟩]) (ret))))
def r_laws_eqFraction : List ARes := [.tmp 4]
theorem k_laws_eqFraction : acLin Go.Proofs.Tryd.prog 141 2 (inQ [] []) [] = some (c_laws_eqFraction, r_laws_eqFraction) := by kernel_rfl
def c_laws_eqGraph : AC := seq (reg [⟨(some 2), box 2 (t 0), none⟩, ⟨(some 3), box 2 (t 1), none⟩, ⟨(some 4), mv (c (.bool false)), none⟩]) (seq (seq (reg [⟨(some 5), fad (t 2) 0, none⟩, ⟨(some 6), ld (t 5) 1 false, none⟩, ⟨(some 7), fad (t 3) 0, none⟩, ⟨(some 8), ld (t 7) 1 false, none⟩, ⟨(some 9), bin .neq (t 6) (t 8), none⟩]) (cond (t 9) (seq (reg [⟨(some 4), mv (c (.bool false)), none⟩]) (ret)) (skip))) (seq (seq (reg [⟨(some 10), fad (t 2) 1, none⟩, ⟨(some 11), ld (t 10) 1 false, none⟩, ⟨(some 12), fad (t 3) 1, none⟩, ⟨(some 13), ld (t 12) 1 false, none⟩, ⟨(some 14), bin .neq (t 11) (t 13), none⟩]) (cond (t 14) (seq (reg [⟨(some 4), mv (c (.bool false)), none⟩]) (ret)) (skip))) (seq (reg [⟨(some 4), mv (c (.bool true)), none⟩]) (ret))))
def r_laws_eqGraph : List ARes := [.tmp 4]
theorem k_laws_eqGraph : acLin Go.Proofs.Tryd.prog 46 2 (inQ [] []) [] = some (c_laws_eqGraph, r_laws_eqGraph) := by kernel_rfl
end Go.Proofs.YtgophedkejgedaaDoorAi
end
