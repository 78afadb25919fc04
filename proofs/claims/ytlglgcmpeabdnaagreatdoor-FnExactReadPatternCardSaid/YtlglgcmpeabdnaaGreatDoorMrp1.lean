/- Contracts, joined. -/
import Derived.Test.YtlglgcmpeabdnaaGreatDoorAiZ
import Derived.Test.YtlglgcmpeabdnaaGreatDoorProg
import Derived.Test.YtlglgcmpeabdnaaGreatDoorAiX
import Derived.Test.YtlglgcmpeabdnaaGreatDoorShelfA
import Derived.Test.YtlglgcmpeabdnaaGreatDoorShelfC
section
/- The program, for contracts. -/
namespace Go.Proofs.YtlglgcmpeabdnaaGreatDoorAi
open Go Go.RowKit
noncomputable abbrev PP : Program := Go.Proofs.Tryz.prog
theorem hmix : PP.follows .mixedOrders = true := by kernel_rfl
end Go.Proofs.YtlglgcmpeabdnaaGreatDoorAi
end

section
/- Data of the program, and how they lie. -/
namespace Go.Proofs.YtlglgcmpeabdnaaGreatDoorAi
open Go Go.RowKit
set_option linter.unusedVariables false
set_option linter.unusedSimpArgs false

structure Fr where
  p : Int
  q : Int
  deriving DecidableEq
structure Gr where
  n : Int
  e : Int
  deriving DecidableEq
structure Fl where
  l : Int
  g : Gr
  deriving DecidableEq

abbrev frA (x : Fr) : AV := .agg [.int .i64 x.p, .int .i64 x.q]
abbrev grA (x : Gr) : AV := .agg [.int .i64 x.n, .int .u32 x.e]
abbrev flA (x : Fl) : AV := .agg [.int .i64 x.l, .int .i64 x.g.n, .int .u32 x.g.e]
abbrev inA (n : Int) : AV := .int .i64 n

/-- A list of encoded data. -/
def mapA {α : Type} (f : α → AV) (l : List α) : List AV := l.map f
@[simp] theorem mapA_length {α : Type} (f : α → AV) (l : List α) : (mapA f l).length = l.length := by simp [mapA]
@[simp] theorem mapA_get {α : Type} (f : α → AV) (l : List α) (i : Nat) : (mapA f l)[i]? = (l[i]?).map f := by simp [mapA]
@[simp] theorem mapA_getElem {α : Type} (f : α → AV) (l : List α) (i : Nat) (h : i < (mapA f l).length) : (mapA f l)[i] = f (l[i]'(by simpa using h)) := by simp [mapA]
theorem mapA_inj {α : Type} {f : α → AV} (hf : ∀ x y, f x = f y → x = y) : ∀ {l k : List α}, mapA f l = mapA f k → l = k
  | [], [], _ => rfl
  | [], _ :: _, h => by simp [mapA] at h
  | _ :: _, [], h => by simp [mapA] at h
  | x :: l, y :: k, h => by
    simp only [mapA, List.map_cons, List.cons.injEq] at h
    rw [hf _ _ h.1, mapA_inj hf (show mapA f l = mapA f k from h.2)]
theorem frA_inj (x y : Fr) (h : frA x = frA y) : x = y := by cases x; cases y; simp_all
theorem grA_inj (x y : Gr) (h : grA x = grA y) : x = y := by cases x; cases y; simp_all
theorem flA_inj (x y : Fl) (h : flA x = flA y) : x = y := by rcases x with ⟨_, _, _⟩; rcases y with ⟨_, _, _⟩; simp_all
theorem inA_inj (x y : Int) (h : inA x = inA y) : x = y := by simpa using h
abbrev frsA (l : List Fr) : List AV := mapA frA l
@[simp] theorem frsA_inj {l k : List Fr} : mapA frA l = mapA frA k ↔ l = k := ⟨mapA_inj frA_inj, fun h => by rw [h]⟩
@[simp] theorem grsA_inj {l k : List Gr} : mapA grA l = mapA grA k ↔ l = k := ⟨mapA_inj grA_inj, fun h => by rw [h]⟩
@[simp] theorem flsA_inj {l k : List Fl} : mapA flA l = mapA flA k ↔ l = k := ⟨mapA_inj flA_inj, fun h => by rw [h]⟩
@[simp] theorem insA_inj {l k : List Int} : mapA inA l = mapA inA k ↔ l = k := ⟨mapA_inj inA_inj, fun h => by rw [h]⟩

theorem take_snoc {α : Type} (ps : List α) (i : Nat) (h : i < ps.length) : ps.take (i + 1) = ps.take i ++ [ps[i]] := by
  rw [List.take_add_one, List.getElem?_eq_getElem h]; rfl
theorem wrapNat {i : Nat} (h : i < 9223372036854775807) : IntKind.i64.wrap ((i : Int) + 1) = (i : Int) + 1 := wrapI64 (by omega) (by omega)

/-- Nothing is forgotten but temporaries: the first objects are the same. -/
theorem Sub.keep {N : Nat} {s : St} {l : List (Nat × AV)} {os : List (Option (List AV))} (hN : N ≤ os.length) (hs : hsub (fun b => b) os.length s.A 0 os) (ht : ∀ p ∈ l, p.2.lt os.length = true ∧ s.t p.1 = p.2) : Sub N s ⟨tl l, ⟨os⟩⟩ := by
  obtain ⟨h1, h2⟩ := hsub_get hs
  refine ⟨fun b => b, hN, fun _ _ => rfl, ⟨fun b hb => by simpa using h1 b hb, fun b cs hb => by simpa using h2 b cs hb, fun b b' cs cs' e1 e2 e => e⟩, tl_sub fun p hp => ⟨(ht p hp).1, by rw [ren_id]; exact (ht p hp).2⟩⟩

end Go.Proofs.YtlglgcmpeabdnaaGreatDoorAi
end

section
/- MADE BY PROGRAM (wip/tools/gen.py): the abstract code of functions. -/
namespace Go.Proofs.YtlglgcmpeabdnaaGreatDoorAi
open Go AC AOp Opd
set_option linter.unusedVariables false
set_option maxRecDepth 100000
def c_impl_in : AC := seq (reg [⟨(some 6), mv (c (.bool false)), none⟩]) (seq (reg [⟨(some 7), mv (t 0), none⟩, ⟨(some 8), mv (t 1), none⟩, ⟨(some 9), bin .geq (t 7) (t 8), none⟩, ⟨(some 10), mv (t 9), none⟩, ⟨(some 11), mv (t 0), some (10, true)⟩, ⟨(some 12), mv (t 2), some (10, true)⟩, ⟨(some 13), bin .leq (t 11) (t 12), some (10, true)⟩, ⟨(some 14), pick (t 10) (t 13) (c (.bool false)), none⟩, ⟨(some 6), mv (t 14), none⟩]) (ret))
def r_impl_in : List ARes := [.tmp 6]
theorem k_impl_in : acLin Go.Proofs.Tryz.prog 37 3 (inQ [] []) [] = some (c_impl_in, r_impl_in) := by kernel_rfl
def c_spec_l00In : AC := seq (reg [⟨(some 6), mv (c (.bool false)), none⟩]) (seq (reg [⟨(some 7), mv (t 0), none⟩, ⟨(some 8), mv (t 1), none⟩, ⟨(some 9), bin .geq (t 7) (t 8), none⟩, ⟨(some 10), mv (t 9), none⟩, ⟨(some 11), mv (t 0), some (10, true)⟩, ⟨(some 12), mv (t 2), some (10, true)⟩, ⟨(some 13), bin .leq (t 11) (t 12), some (10, true)⟩, ⟨(some 14), pick (t 10) (t 13) (c (.bool false)), none⟩, ⟨(some 6), mv (t 14), none⟩]) (ret))
def r_spec_l00In : List ARes := [.tmp 6]
theorem k_spec_l00In : acLin Go.Proofs.Tryz.prog 98 3 (inQ [] []) [] = some (c_spec_l00In, r_spec_l00In) := by kernel_rfl
def c_impl_pairs : AC := seq (reg [⟨(some 2), mv (c (.int .i64 0)), none⟩]) (seq (reg [⟨(some 3), mv (t 0), none⟩, ⟨(some 4), mv (t 0), none⟩, ⟨(some 5), bin .sub (t 4) (c (.int .i64 1)), none⟩, ⟨(some 6), bin .mul (t 3) (t 5), none⟩, ⟨(some 7), bin .quo (t 6) (c (.int .i64 2)), none⟩, ⟨(some 2), mv (t 7), none⟩]) (ret))
def r_impl_pairs : List ARes := [.tmp 2]
theorem k_impl_pairs : acLin Go.Proofs.Tryz.prog 130 1 (inQ [] []) [] = some (c_impl_pairs, r_impl_pairs) := by kernel_rfl
def c_spec_l01Bits : AC := seq (reg [⟨(some 2), mv (c (.int .i64 0)), none⟩]) (seq (reg [⟨(some 3), mv (t 0), none⟩, ⟨(some 4), mv (t 0), none⟩, ⟨(some 5), bin .sub (t 4) (c (.int .i64 1)), none⟩, ⟨(some 6), bin .mul (t 3) (t 5), none⟩, ⟨(some 7), bin .quo (t 6) (c (.int .i64 2)), none⟩, ⟨(some 2), mv (t 7), none⟩]) (ret))
def r_spec_l01Bits : List ARes := [.tmp 2]
theorem k_spec_l01Bits : acLin Go.Proofs.Tryz.prog 119 1 (inQ [] []) [] = some (c_spec_l01Bits, r_spec_l01Bits) := by kernel_rfl
def c_impl_ValidGraph : AC := seq (reg [⟨(some 1), box 2 (t 0), none⟩, ⟨(some 2), mv (c (.bool false)), none⟩]) (seq (reg [⟨(some 3), fad (t 1) 0, none⟩, ⟨(some 4), ld (t 3) 1 false, none⟩, ⟨(some 5), callq (c (.fn 37 [])) [t 4, c (.int .i64 0), c (.int .i64 5)], none⟩, ⟨(some 6), mv (t 5), none⟩, ⟨(some 7), fad (t 1) 1, some (6, true)⟩, ⟨(some 8), ld (t 7) 1 false, some (6, true)⟩, ⟨(some 9), fad (t 1) 0, some (6, true)⟩, ⟨(some 10), ld (t 9) 1 false, some (6, true)⟩, ⟨(some 11), callq (c (.fn 130 [])) [t 10], some (6, true)⟩, ⟨(some 12), bin .shr (t 8) (t 11), some (6, true)⟩, ⟨(some 13), bin .eql (t 12) (c (.int .u32 0)), some (6, true)⟩, ⟨(some 14), pick (t 6) (t 13) (c (.bool false)), none⟩, ⟨(some 2), mv (t 14), none⟩]) (ret))
def r_impl_ValidGraph : List ARes := [.tmp 2]
theorem k_impl_ValidGraph : acLin Go.Proofs.Tryz.prog 137 1 (inQ [37, 130] []) [⟨false, none, [], [], none⟩, ⟨false, some [0, 1, 2, 3, 4, 5, 6, 7, 8, 9, 10, 11, 12], [], [], none⟩] = some (c_impl_ValidGraph, r_impl_ValidGraph) := by kernel_rfl
def c_spec_l01Ok : AC := seq (reg [⟨(some 1), box 2 (t 0), none⟩, ⟨(some 2), mv (c (.bool false)), none⟩]) (seq (reg [⟨(some 3), fad (t 1) 0, none⟩, ⟨(some 4), ld (t 3) 1 false, none⟩, ⟨(some 5), callq (c (.fn 98 [])) [t 4, c (.int .i64 0), c (.int .i64 5)], none⟩, ⟨(some 6), mv (t 5), none⟩, ⟨(some 7), fad (t 1) 1, some (6, true)⟩, ⟨(some 8), ld (t 7) 1 false, some (6, true)⟩, ⟨(some 9), conv .i64 (t 8), some (6, true)⟩, ⟨(some 10), fad (t 1) 0, some (6, true)⟩, ⟨(some 11), ld (t 10) 1 false, some (6, true)⟩, ⟨(some 12), callq (c (.fn 119 [])) [t 11], some (6, true)⟩, ⟨(some 13), conv .u64 (t 12), some (6, true)⟩, ⟨(some 14), bin .shl (c (.int .i64 1)) (t 13), some (6, true)⟩, ⟨(some 15), bin .lss (t 9) (t 14), some (6, true)⟩, ⟨(some 16), pick (t 6) (t 15) (c (.bool false)), none⟩, ⟨(some 2), mv (t 16), none⟩]) (ret))
def r_spec_l01Ok : List ARes := [.tmp 2]
theorem k_spec_l01Ok : acLin Go.Proofs.Tryz.prog 72 1 (inQ [98, 119] []) [⟨false, none, [], [], none⟩, ⟨false, some [0, 1, 2, 3, 4, 5, 6, 7, 8, 9, 10, 11, 12, 13, 14], [], [], none⟩] = some (c_spec_l01Ok, r_spec_l01Ok) := by kernel_rfl
def c_impl_size : AC := seq (reg [⟨(some 2), mv (c (.int .i64 0)), none⟩]) (seq (reg [⟨(some 3), mv (t 0), none⟩, ⟨(some 4), mv (t 0), none⟩, ⟨(some 5), un .neg (t 4), none⟩, ⟨(some 6), max (t 3) (t 5), none⟩, ⟨(some 2), mv (t 6), none⟩]) (ret))
def r_impl_size : List ARes := [.tmp 2]
theorem k_impl_size : acLin Go.Proofs.Tryz.prog 187 1 (inQ [] []) [] = some (c_impl_size, r_impl_size) := by kernel_rfl
def c_impl_gcd : AC := seq (reg [⟨(some 4), mv (c (.int .i64 0)), none⟩]) (seq (block 0 (loop (seq (seq (reg [⟨(some 5), mv (t 1), none⟩, ⟨(some 6), bin .neq (t 5) (c (.int .i64 0)), none⟩]) (cond (t 6) (skip) (exit 0))) (block 1 (reg [⟨(some 7), mv (t 1), none⟩, ⟨(some 8), mv (t 0), none⟩, ⟨(some 9), mv (t 1), none⟩, ⟨(some 10), bin .rem (t 8) (t 9), none⟩, ⟨(some 0), mv (t 7), none⟩, ⟨(some 1), mv (t 10), none⟩]))))) (seq (reg [⟨(some 11), mv (t 0), none⟩, ⟨(some 12), callq (c (.fn 187 [])) [t 11], none⟩, ⟨(some 4), mv (t 12), none⟩]) (ret)))
def r_impl_gcd : List ARes := [.tmp 4]
theorem k_impl_gcd : acLin Go.Proofs.Tryz.prog 162 2 (inQ [187] []) [⟨false, none, [], [], none⟩, ⟨false, none, [], [], none⟩, ⟨false, none, [], [], none⟩, ⟨false, some [0, 1, 2, 3, 4, 5], [], [], none⟩] = some (c_impl_gcd, r_impl_gcd) := by kernel_rfl
def c_spec_l02Abs : AC := seq (reg [⟨(some 2), mv (c (.int .i64 0)), none⟩]) (seq (seq (reg [⟨(some 3), mv (t 0), none⟩, ⟨(some 4), bin .lss (t 3) (c (.int .i64 0)), none⟩]) (cond (t 4) (seq (reg [⟨(some 5), mv (t 0), none⟩, ⟨(some 6), un .neg (t 5), none⟩, ⟨(some 2), mv (t 6), none⟩]) (ret)) (skip))) (seq (reg [⟨(some 7), mv (t 0), none⟩, ⟨(some 2), mv (t 7), none⟩]) (ret)))
def r_spec_l02Abs : List ARes := [.tmp 2]
theorem k_spec_l02Abs : acLin Go.Proofs.Tryz.prog 122 1 (inQ [] []) [] = some (c_spec_l02Abs, r_spec_l02Abs) := by kernel_rfl
def c_spec_l02Common : AC := seq (reg [⟨(some 4), mv (c (.int .i64 0)), none⟩]) (seq (block 0 (loop (seq (seq (reg [⟨(some 6), mv (t 1), none⟩, ⟨(some 7), bin .neq (t 6) (c (.int .i64 0)), none⟩]) (cond (t 7) (skip) (exit 0))) (block 1 (seq (reg [⟨(some 8), mv (t 0), none⟩, ⟨(some 9), mv (t 1), none⟩, ⟨(some 10), bin .rem (t 8) (t 9), none⟩, ⟨(some 5), mv (t 10), none⟩]) (seq (reg [⟨(some 11), mv (t 1), none⟩, ⟨(some 0), mv (t 11), none⟩]) (reg [⟨(some 12), mv (t 5), none⟩, ⟨(some 1), mv (t 12), none⟩]))))))) (seq (reg [⟨(some 13), mv (t 0), none⟩, ⟨(some 4), mv (t 13), none⟩]) (ret)))
def r_spec_l02Common : List ARes := [.tmp 4]
theorem k_spec_l02Common : acLin Go.Proofs.Tryz.prog 121 2 (inQ [] []) [] = some (c_spec_l02Common, r_spec_l02Common) := by kernel_rfl
def c_impl_ValidFraction : AC := seq (reg [⟨(some 1), box 2 (t 0), none⟩, ⟨(some 2), mv (c (.bool false)), none⟩]) (seq (reg [⟨(some 3), fad (t 1) 1, none⟩, ⟨(some 4), ld (t 3) 1 false, none⟩, ⟨(some 5), bin .gtr (t 4) (c (.int .i64 0)), none⟩, ⟨(some 6), mv (t 5), none⟩, ⟨(some 7), fad (t 1) 0, some (6, true)⟩, ⟨(some 8), ld (t 7) 1 false, some (6, true)⟩, ⟨(some 9), bin .geq (t 8) (c (.int .i64 (-1000000000))), some (6, true)⟩, ⟨(some 10), pick (t 6) (t 9) (c (.bool false)), none⟩, ⟨(some 11), mv (t 10), none⟩, ⟨(some 12), fad (t 1) 0, some (11, true)⟩, ⟨(some 13), ld (t 12) 1 false, some (11, true)⟩, ⟨(some 14), bin .leq (t 13) (c (.int .i64 1000000000)), some (11, true)⟩, ⟨(some 15), pick (t 11) (t 14) (c (.bool false)), none⟩, ⟨(some 16), mv (t 15), none⟩, ⟨(some 17), fad (t 1) 1, some (16, true)⟩, ⟨(some 18), ld (t 17) 1 false, some (16, true)⟩, ⟨(some 19), bin .leq (t 18) (c (.int .i64 1000000000)), some (16, true)⟩, ⟨(some 20), pick (t 16) (t 19) (c (.bool false)), none⟩, ⟨(some 21), mv (t 20), none⟩, ⟨(some 22), fad (t 1) 0, some (21, true)⟩, ⟨(some 23), ld (t 22) 1 false, some (21, true)⟩, ⟨(some 24), fad (t 1) 1, some (21, true)⟩, ⟨(some 25), ld (t 24) 1 false, some (21, true)⟩, ⟨(some 26), callq (c (.fn 162 [])) [t 23, t 25], some (21, true)⟩, ⟨(some 27), bin .eql (t 26) (c (.int .i64 1)), some (21, true)⟩, ⟨(some 28), pick (t 21) (t 27) (c (.bool false)), none⟩, ⟨(some 2), mv (t 28), none⟩]) (ret))
def r_impl_ValidFraction : List ARes := [.tmp 2]
theorem k_impl_ValidFraction : acLin Go.Proofs.Tryz.prog 133 1 (inQ [162] []) [] = some (c_impl_ValidFraction, r_impl_ValidFraction) := by kernel_rfl
def c_spec_l02Ok : AC := seq (reg [⟨(some 1), box 2 (t 0), none⟩, ⟨(some 2), mv (c (.bool false)), none⟩]) (seq (reg [⟨(some 3), fad (t 1) 0, none⟩, ⟨(some 4), ld (t 3) 1 false, none⟩, ⟨(some 5), callq (c (.fn 98 [])) [t 4, c (.int .i64 (-1000000000)), c (.int .i64 1000000000)], none⟩, ⟨(some 6), mv (t 5), none⟩, ⟨(some 7), fad (t 1) 1, some (6, true)⟩, ⟨(some 8), ld (t 7) 1 false, some (6, true)⟩, ⟨(some 9), callq (c (.fn 98 [])) [t 8, c (.int .i64 1), c (.int .i64 1000000000)], some (6, true)⟩, ⟨(some 10), pick (t 6) (t 9) (c (.bool false)), none⟩, ⟨(some 11), mv (t 10), none⟩, ⟨(some 12), fad (t 1) 0, some (11, true)⟩, ⟨(some 13), ld (t 12) 1 false, some (11, true)⟩, ⟨(some 14), callq (c (.fn 122 [])) [t 13], some (11, true)⟩, ⟨(some 15), fad (t 1) 1, some (11, true)⟩, ⟨(some 16), ld (t 15) 1 false, some (11, true)⟩, ⟨(some 17), callq (c (.fn 121 [])) [t 14, t 16], some (11, true)⟩, ⟨(some 18), bin .eql (t 17) (c (.int .i64 1)), some (11, true)⟩, ⟨(some 19), pick (t 11) (t 18) (c (.bool false)), none⟩, ⟨(some 2), mv (t 19), none⟩]) (ret))
def r_spec_l02Ok : List ARes := [.tmp 2]
theorem k_spec_l02Ok : acLin Go.Proofs.Tryz.prog 70 1 (inQ [98, 121, 122] []) [⟨false, none, [], [], none⟩, ⟨false, some [0, 1, 2, 3, 4, 5, 6, 7, 8, 9, 10, 11, 12, 13, 14, 15, 16, 17], [], [], none⟩] = some (c_spec_l02Ok, r_spec_l02Ok) := by kernel_rfl
def c_impl_badFraction : AC := seq (reg [⟨(some 1), box 2 (t 0), none⟩, ⟨(some 2), mv (c (.bool false)), none⟩]) (seq (reg [⟨(some 3), ld (t 1) 2 true, none⟩, ⟨(some 4), callq (c (.fn 133 [])) [t 3], none⟩, ⟨(some 5), un .not (t 4), none⟩, ⟨(some 2), mv (t 5), none⟩]) (ret))
def r_impl_badFraction : List ARes := [.tmp 2]
theorem k_impl_badFraction : acLin Go.Proofs.Tryz.prog 90 1 (inQ [133] []) [] = some (c_impl_badFraction, r_impl_badFraction) := by kernel_rfl
def c_impl_zero : AC := seq (reg [⟨(some 0), alloc [.int .i64 0, .int .i64 0], none⟩]) (seq (reg [⟨(some 1), bld [.int .i64 0, .int .i64 0] [(0, 1, c (.int .i64 0)), (1, 1, c (.int .i64 1))], none⟩, ⟨none, st (t 0) 2 (t 1), none⟩]) (ret))
def r_impl_zero : List ARes := [.cell 0 2 true]
theorem k_impl_zero : acLin Go.Proofs.Tryz.prog 89 0 (inQ [] []) [] = some (c_impl_zero, r_impl_zero) := by kernel_rfl
def c_impl_one : AC := seq (reg [⟨(some 0), alloc [.int .i64 0, .int .i64 0], none⟩]) (seq (reg [⟨(some 1), bld [.int .i64 0, .int .i64 0] [(0, 1, c (.int .i64 1)), (1, 1, c (.int .i64 1))], none⟩, ⟨none, st (t 0) 2 (t 1), none⟩]) (ret))
def r_impl_one : List ARes := [.cell 0 2 true]
theorem k_impl_one : acLin Go.Proofs.Tryz.prog 92 0 (inQ [] []) [] = some (c_impl_one, r_impl_one) := by kernel_rfl
def c_spec_l02Zero : AC := seq (reg [⟨(some 0), alloc [.int .i64 0, .int .i64 0], none⟩]) (seq (reg [⟨(some 1), bld [.int .i64 0, .int .i64 0] [(1, 1, c (.int .i64 1))], none⟩, ⟨none, st (t 0) 2 (t 1), none⟩]) (ret))
def r_spec_l02Zero : List ARes := [.cell 0 2 true]
theorem k_spec_l02Zero : acLin Go.Proofs.Tryz.prog 123 0 (inQ [] []) [] = some (c_spec_l02Zero, r_spec_l02Zero) := by kernel_rfl
def c_spec_l02One : AC := seq (reg [⟨(some 2), alloc [.int .i64 0, .int .i64 0], none⟩]) (seq (reg [⟨(some 3), mv (t 0), none⟩, ⟨(some 4), bld [.int .i64 0, .int .i64 0] [(0, 1, t 3), (1, 1, c (.int .i64 1))], none⟩, ⟨none, st (t 2) 2 (t 4), none⟩]) (ret))
def r_spec_l02One : List ARes := [.cell 2 2 true]
theorem k_spec_l02One : acLin Go.Proofs.Tryz.prog 76 1 (inQ [] []) [] = some (c_spec_l02One, r_spec_l02One) := by kernel_rfl
end Go.Proofs.YtlglgcmpeabdnaaGreatDoorAi
end

section
/- Contracts: bounds, numbers of pairs, validity of graphs. -/
namespace Go.Proofs.YtlglgcmpeabdnaaGreatDoorAi
open Go Go.RowKit
set_option linter.unusedVariables false
set_option linter.unusedSimpArgs false

noncomputable def sp_in : List AV → Option (AV) := pf (ι := (Int) × (Int) × (Int)) (α := AV) (fun ⟨n, lo, hi⟩ => True) (fun ⟨n, lo, hi⟩ => [.int .i64 n, .int .i64 lo, .int .i64 hi]) (fun ⟨n, lo, hi⟩ => .bool (decide (lo ≤ n) && decide (n ≤ hi)))
theorem sp_in_eq (n lo hi : Int) : sp_in [.int .i64 n, .int .i64 lo, .int .i64 hi] = some (.bool (decide (lo ≤ n) && decide (n ≤ hi))) := by
  unfold sp_in
  exact pf_eq (ι := (Int) × (Int) × (Int)) (α := AV) (n, lo, hi) trivial (by rintro ⟨n', lo', hi'⟩ _ e; simp_all [Int.natCast_inj])
attribute [simp] sp_in_eq
theorem q_impl_in : QP PP 37 sp_in := by
  refine QP_pf (fun i h => ?_) fun i h => ?_
  · obtain ⟨n, lo, hi⟩ := i; exact ⟨by first | rfl | simp, by first | rfl | simp⟩
  obtain ⟨n, lo, hi⟩ := i
  replace h : True := h
  refine P_code Quiet.nil hmix k_impl_in rfl ?_ ?_
  · first | rfl | simp
  show wpc 0 PP _ c_impl_in (initSt [.int .i64 n, .int .i64 lo, .int .i64 hi] .nil) (endP r_impl_in (.bool (decide (lo ≤ n) && decide (n ≤ hi))))
  simp -dsimp -implicitDefEqProofs [c_impl_in, r_impl_in]
  repeat' (refine brW_of (fun h => ?_) (fun h => ?_) <;> have h0 := h <;> (try simp only [Bool.and_eq_true, Bool.and_eq_false_iff, Bool.or_eq_true, Bool.or_eq_false_iff, Bool.not_eq_true', Bool.not_eq_false', decide_eq_true_eq, decide_eq_false_iff_not, beq_iff_eq, beq_eq_false_iff_ne, bne_iff_ne, bne_eq_false_iff_eq] at h) <;> simp -dsimp -implicitDefEqProofs [h, h0])
theorem q_spec_l00In : QP PP 98 sp_in := by
  refine QP_pf (fun i h => ?_) fun i h => ?_
  · obtain ⟨n, lo, hi⟩ := i; exact ⟨by first | rfl | simp, by first | rfl | simp⟩
  obtain ⟨n, lo, hi⟩ := i
  replace h : True := h
  refine P_code Quiet.nil hmix k_spec_l00In rfl ?_ ?_
  · first | rfl | simp
  show wpc 0 PP _ c_spec_l00In (initSt [.int .i64 n, .int .i64 lo, .int .i64 hi] .nil) (endP r_spec_l00In (.bool (decide (lo ≤ n) && decide (n ≤ hi))))
  simp -dsimp -implicitDefEqProofs [c_spec_l00In, r_spec_l00In]
  repeat' (refine brW_of (fun h => ?_) (fun h => ?_) <;> have h0 := h <;> (try simp only [Bool.and_eq_true, Bool.and_eq_false_iff, Bool.or_eq_true, Bool.or_eq_false_iff, Bool.not_eq_true', Bool.not_eq_false', decide_eq_true_eq, decide_eq_false_iff_not, beq_iff_eq, beq_eq_false_iff_ne, bne_iff_ne, bne_eq_false_iff_eq] at h) <;> simp -dsimp -implicitDefEqProofs [h, h0])

def pairsI (n : Int) : Int := (n * (n - 1)).tdiv 2
theorem pI0 : pairsI 0 = 0 := by decide
theorem pI1 : pairsI 1 = 0 := by decide
theorem pI2 : pairsI 2 = 1 := by decide
theorem pI3 : pairsI 3 = 3 := by decide
theorem pI4 : pairsI 4 = 6 := by decide
theorem pI5 : pairsI 5 = 10 := by decide
noncomputable def sp_pairs : List AV → Option (AV) := pf (ι := (Int)) (α := AV) (fun n => 0 ≤ n ∧ n ≤ 5) (fun n => [.int .i64 n]) (fun n => .int .i64 (pairsI n))
theorem sp_pairs_eq (n : Int) (h : 0 ≤ n ∧ n ≤ 5) : sp_pairs [.int .i64 n] = some (.int .i64 (pairsI n)) := by
  unfold sp_pairs
  exact pf_eq (ι := (Int)) (α := AV) n h (by rintro n' _ e; simp_all [Int.natCast_inj])
theorem q_impl_pairs : QP PP 130 sp_pairs := by
  refine QP_pf (fun n h => ?_) fun n h => ?_
  · exact ⟨by first | rfl | simp, by first | rfl | simp⟩
  replace h : 0 ≤ n ∧ n ≤ 5 := h
  refine P_code Quiet.nil hmix k_impl_pairs rfl ?_ ?_
  · first | rfl | simp
  show wpc 0 PP _ c_impl_pairs (initSt [.int .i64 n] .nil) (endP r_impl_pairs (.int .i64 (pairsI n)))
  have h5 : n = 0 ∨ n = 1 ∨ n = 2 ∨ n = 3 ∨ n = 4 ∨ n = 5 := by omega
  rcases h5 with rfl | rfl | rfl | rfl | rfl | rfl <;> simp -dsimp -implicitDefEqProofs [c_impl_pairs, r_impl_pairs] <;> decide
theorem q_spec_l01Bits : QP PP 119 sp_pairs := by
  refine QP_pf (fun n h => ?_) fun n h => ?_
  · exact ⟨by first | rfl | simp, by first | rfl | simp⟩
  replace h : 0 ≤ n ∧ n ≤ 5 := h
  refine P_code Quiet.nil hmix k_spec_l01Bits rfl ?_ ?_
  · first | rfl | simp
  show wpc 0 PP _ c_spec_l01Bits (initSt [.int .i64 n] .nil) (endP r_spec_l01Bits (.int .i64 (pairsI n)))
  have h5 : n = 0 ∨ n = 1 ∨ n = 2 ∨ n = 3 ∨ n = 4 ∨ n = 5 := by omega
  rcases h5 with rfl | rfl | rfl | rfl | rfl | rfl <;> simp -dsimp -implicitDefEqProofs [c_spec_l01Bits, r_spec_l01Bits] <;> decide

theorem fdiv_zero {e m : Int} (hm : 0 < m) (h0 : 0 ≤ e) : (e.fdiv m == 0) = decide (e < m) := by
  rw [Int.fdiv_eq_ediv_of_nonneg _ (by omega), Bool.eq_iff_iff]
  simp
  constructor
  · intro h
    have := Int.emod_add_mul_ediv e m
    have := Int.emod_lt_of_pos e hm
    rw [h] at *
    omega
  · intro h
    exact Int.ediv_eq_zero_of_lt h0 h

def graphOk (n e : Int) : Bool := decide ((0 ≤ n ∧ n ≤ 5) ∧ e < 2 ^ (pairsI n).toNat)
noncomputable def sp_graphOk : List AV → Option (AV) := pf (ι := (Int) × (Int)) (α := AV) (fun ⟨n, e⟩ => 0 ≤ e ∧ e ≤ 4294967295) (fun ⟨n, e⟩ => [.agg [.int .i64 n, .int .u32 e]]) (fun ⟨n, e⟩ => .bool (graphOk n e))
theorem sp_graphOk_eq (n e : Int) (h : 0 ≤ e ∧ e ≤ 4294967295) : sp_graphOk [.agg [.int .i64 n, .int .u32 e]] = some (.bool (graphOk n e)) := by
  unfold sp_graphOk
  exact pf_eq (ι := (Int) × (Int)) (α := AV) (n, e) h (by rintro ⟨n', e'⟩ _ e; simp_all [Int.natCast_inj])
theorem q_impl_ValidGraph : QP PP 137 sp_graphOk := by
  refine QP_pf (fun i h => ?_) fun i h => ?_
  · obtain ⟨n, e⟩ := i; exact ⟨by first | rfl | simp, by first | rfl | simp⟩
  obtain ⟨n, e⟩ := i
  replace h : 0 ≤ e ∧ e ≤ 4294967295 := h
  refine P_code (Quiet.q1 q_impl_in (Quiet.q1 q_impl_pairs Quiet.nil)) hmix k_impl_ValidGraph rfl ?_ ?_
  · first | rfl | simp
  show wpc 0 PP _ c_impl_ValidGraph (initSt [.agg [.int .i64 n, .int .u32 e]] .nil) (endP r_impl_ValidGraph (.bool (graphOk n e)))
  simp -dsimp -implicitDefEqProofs [c_impl_ValidGraph, r_impl_ValidGraph]
  by_cases hn : 0 ≤ n ∧ n ≤ 5
  · have h5 : n = 0 ∨ n = 1 ∨ n = 2 ∨ n = 3 ∨ n = 4 ∨ n = 5 := by omega
    rcases h5 with rfl | rfl | rfl | rfl | rfl | rfl <;> simp -dsimp -implicitDefEqProofs [sp_pairs_eq, pI0, pI1, pI2, pI3, pI4, pI5, IntKind.bits]
    all_goals (try rw [fdiv_zero (by decide) h.1])
    all_goals (rw [Bool.eq_iff_iff]; simp [graphOk, pI0, pI1, pI2, pI3, pI4, pI5] <;> omega)
  · have hv : graphOk n e = false := decide_eq_false fun h => hn h.1
    have hv' : (decide (0 ≤ n) && decide (n ≤ 5)) = false := by simpa using hn
    simp -dsimp -implicitDefEqProofs [hv, hv']
theorem q_spec_l01Ok : QP PP 72 sp_graphOk := by
  refine QP_pf (fun i h => ?_) fun i h => ?_
  · obtain ⟨n, e⟩ := i; exact ⟨by first | rfl | simp, by first | rfl | simp⟩
  obtain ⟨n, e⟩ := i
  replace h : 0 ≤ e ∧ e ≤ 4294967295 := h
  refine P_code (Quiet.q1 q_spec_l00In (Quiet.q1 q_spec_l01Bits Quiet.nil)) hmix k_spec_l01Ok rfl ?_ ?_
  · first | rfl | simp
  show wpc 0 PP _ c_spec_l01Ok (initSt [.agg [.int .i64 n, .int .u32 e]] .nil) (endP r_spec_l01Ok (.bool (graphOk n e)))
  have em : e % 18446744073709551616 = e := by omega
  simp -dsimp -implicitDefEqProofs [c_spec_l01Ok, r_spec_l01Ok]
  by_cases hn : 0 ≤ n ∧ n ≤ 5
  · have h5 : n = 0 ∨ n = 1 ∨ n = 2 ∨ n = 3 ∨ n = 4 ∨ n = 5 := by omega
    rcases h5 with rfl | rfl | rfl | rfl | rfl | rfl <;> simp -dsimp -implicitDefEqProofs [sp_pairs_eq, pI0, pI1, pI2, pI3, pI4, pI5, IntKind.bits, IntKind.wrap, IntKind.signed]
    all_goals (rw [em, if_neg (by omega), Bool.eq_iff_iff]; simp [graphOk, pI0, pI1, pI2, pI3, pI4, pI5] <;> omega)
  · have hv : graphOk n e = false := decide_eq_false fun h => hn h.1
    have hv' : (decide (0 ≤ n) && decide (n ≤ 5)) = false := by simpa using hn
    simp -dsimp -implicitDefEqProofs [hv, hv']
noncomputable def sp_zero : List AV → Option (AV) := pf (ι := Unit) (α := AV) (fun _ => True) (fun _ => []) (fun _ => .agg [.int .i64 0, .int .i64 1])
theorem sp_zero_eq  : sp_zero [] = some (.agg [.int .i64 0, .int .i64 1]) := by
  unfold sp_zero
  exact pf_eq (ι := Unit) (α := AV) () trivial (by rintro _ _ e; simp_all [Int.natCast_inj])
attribute [simp] sp_zero_eq
theorem q_impl_zero : QP PP 89 sp_zero := by
  refine QP_pf (fun i h => ?_) fun i h => ?_
  · exact ⟨by first | rfl | simp, by first | rfl | simp⟩
  replace h : True := h
  refine P_code Quiet.nil hmix k_impl_zero rfl ?_ ?_
  · first | rfl | simp
  show wpc 0 PP _ c_impl_zero (initSt [] .nil) (endP r_impl_zero (.agg [.int .i64 0, .int .i64 1]))
  simp -dsimp -implicitDefEqProofs [c_impl_zero, r_impl_zero]
theorem q_spec_l02Zero : QP PP 123 sp_zero := by
  refine QP_pf (fun i h => ?_) fun i h => ?_
  · exact ⟨by first | rfl | simp, by first | rfl | simp⟩
  replace h : True := h
  refine P_code Quiet.nil hmix k_spec_l02Zero rfl ?_ ?_
  · first | rfl | simp
  show wpc 0 PP _ c_spec_l02Zero (initSt [] .nil) (endP r_spec_l02Zero (.agg [.int .i64 0, .int .i64 1]))
  simp -dsimp -implicitDefEqProofs [c_spec_l02Zero, r_spec_l02Zero]
noncomputable def sp_one : List AV → Option (AV) := pf (ι := Unit) (α := AV) (fun _ => True) (fun _ => []) (fun _ => .agg [.int .i64 1, .int .i64 1])
theorem sp_one_eq  : sp_one [] = some (.agg [.int .i64 1, .int .i64 1]) := by
  unfold sp_one
  exact pf_eq (ι := Unit) (α := AV) () trivial (by rintro _ _ e; simp_all [Int.natCast_inj])
attribute [simp] sp_one_eq
theorem q_impl_one : QP PP 92 sp_one := by
  refine QP_pf (fun i h => ?_) fun i h => ?_
  · exact ⟨by first | rfl | simp, by first | rfl | simp⟩
  replace h : True := h
  refine P_code Quiet.nil hmix k_impl_one rfl ?_ ?_
  · first | rfl | simp
  show wpc 0 PP _ c_impl_one (initSt [] .nil) (endP r_impl_one (.agg [.int .i64 1, .int .i64 1]))
  simp -dsimp -implicitDefEqProofs [c_impl_one, r_impl_one]
noncomputable def sp_whole : List AV → Option (AV) := pf (ι := (Int)) (α := AV) (fun n => True) (fun n => [.int .i64 n]) (fun n => .agg [.int .i64 n, .int .i64 1])
theorem sp_whole_eq (n : Int) : sp_whole [.int .i64 n] = some (.agg [.int .i64 n, .int .i64 1]) := by
  unfold sp_whole
  exact pf_eq (ι := (Int)) (α := AV) n trivial (by rintro n' _ e; simp_all [Int.natCast_inj])
attribute [simp] sp_whole_eq
theorem q_spec_l02One : QP PP 76 sp_whole := by
  refine QP_pf (fun n h => ?_) fun n h => ?_
  · exact ⟨by first | rfl | simp, by first | rfl | simp⟩
  replace h : True := h
  refine P_code Quiet.nil hmix k_spec_l02One rfl ?_ ?_
  · first | rfl | simp
  show wpc 0 PP _ c_spec_l02One (initSt [.int .i64 n] .nil) (endP r_spec_l02One (.agg [.int .i64 n, .int .i64 1]))
  simp -dsimp -implicitDefEqProofs [c_spec_l02One, r_spec_l02One]

end Go.Proofs.YtlglgcmpeabdnaaGreatDoorAi
end

section
/- Contracts: common divisors, validity of fractions. -/
namespace Go.Proofs.YtlglgcmpeabdnaaGreatDoorAi
open Go Go.RowKit
set_option linter.unusedVariables false
set_option linter.unusedSimpArgs false

theorem gcd_step (x y : Int) : Int.gcd y (x.tmod y) = Int.gcd x y := by
  unfold Int.gcd
  rw [Int.natAbs_tmod, Nat.gcd_comm, ← Nat.gcd_rec, Nat.gcd_comm]
theorem tmod_bound {a b : Int} (ha : -4611686018427387904 ≤ a ∧ a ≤ 4611686018427387904) : -4611686018427387904 ≤ a.tmod b ∧ a.tmod b ≤ 4611686018427387904 := by
  have h1 : (a.tmod b).natAbs = a.natAbs % b.natAbs := Int.natAbs_tmod ..
  have h2 : a.natAbs % b.natAbs ≤ a.natAbs := Nat.mod_le ..
  omega
theorem tmod_less {a b : Int} (hb : b ≠ 0) : (a.tmod b).natAbs < b.natAbs := by
  rw [Int.natAbs_tmod]
  exact Nat.mod_lt _ (by omega)

noncomputable def sp_size : List AV → Option (AV) := pf (ι := (Int)) (α := AV) (fun n => -4611686018427387904 ≤ n ∧ n ≤ 4611686018427387904) (fun n => [.int .i64 n]) (fun n => .int .i64 n.natAbs)
theorem sp_size_eq (n : Int) (h : -4611686018427387904 ≤ n ∧ n ≤ 4611686018427387904) : sp_size [.int .i64 n] = some (.int .i64 n.natAbs) := by
  unfold sp_size
  exact pf_eq (ι := (Int)) (α := AV) n h (by rintro n' _ e; simp_all [Int.natCast_inj])
theorem q_impl_size : QP PP 187 sp_size := by
  refine QP_pf (fun n h => ?_) fun n h => ?_
  · exact ⟨by first | rfl | simp, by first | rfl | simp⟩
  replace h : -4611686018427387904 ≤ n ∧ n ≤ 4611686018427387904 := h
  refine P_code Quiet.nil hmix k_impl_size rfl ?_ ?_
  · first | rfl | simp
  show wpc 0 PP _ c_impl_size (initSt [.int .i64 n] .nil) (endP r_impl_size (.int .i64 n.natAbs))
  have hw : IntKind.i64.wrap (-n) = -n := wrapI64 (by omega) (by omega)
  simp -dsimp -implicitDefEqProofs [c_impl_size, r_impl_size, hw]
  split <;> omega
theorem q_spec_l02Abs : QP PP 122 sp_size := by
  refine QP_pf (fun n h => ?_) fun n h => ?_
  · exact ⟨by first | rfl | simp, by first | rfl | simp⟩
  replace h : -4611686018427387904 ≤ n ∧ n ≤ 4611686018427387904 := h
  refine P_code Quiet.nil hmix k_spec_l02Abs rfl ?_ ?_
  · first | rfl | simp
  show wpc 0 PP _ c_spec_l02Abs (initSt [.int .i64 n] .nil) (endP r_spec_l02Abs (.int .i64 n.natAbs))
  have hw : IntKind.i64.wrap (-n) = -n := wrapI64 (by omega) (by omega)
  simp -dsimp -implicitDefEqProofs [c_spec_l02Abs, r_spec_l02Abs, hw]
  refine brW_of (fun h => ?_) (fun h => ?_) <;> simp only [decide_eq_true_eq, decide_eq_false_iff_not] at h <;> simp -dsimp -implicitDefEqProofs [h, hw] <;> omega

def in62 (n : Int) : Prop := -4611686018427387904 ≤ n ∧ n ≤ 4611686018427387904
noncomputable def sp_gcd : List AV → Option (AV) := pf (ι := (Int) × (Int)) (α := AV) (fun ⟨a, b⟩ => in62 a ∧ in62 b) (fun ⟨a, b⟩ => [.int .i64 a, .int .i64 b]) (fun ⟨a, b⟩ => .int .i64 (Int.gcd a b))
theorem sp_gcd_eq (a b : Int) (h : in62 a ∧ in62 b) : sp_gcd [.int .i64 a, .int .i64 b] = some (.int .i64 (Int.gcd a b)) := by
  unfold sp_gcd
  exact pf_eq (ι := (Int) × (Int)) (α := AV) (a, b) h (by rintro ⟨a', b'⟩ _ e; simp_all [Int.natCast_inj])
theorem q_impl_gcd : QP PP 162 sp_gcd := by
  refine QP_pf (fun i h => ?_) fun i h => ?_
  · obtain ⟨a, b⟩ := i; exact ⟨by first | rfl | simp, by first | rfl | simp⟩
  obtain ⟨a, b⟩ := i
  replace h : in62 a ∧ in62 b := h
  refine P_code (Quiet.q1 q_impl_size Quiet.nil) hmix k_impl_gcd rfl ?_ ?_
  · first | rfl | simp
  show wpc 0 PP _ c_impl_gcd (initSt [.int .i64 a, .int .i64 b] .nil) (endP r_impl_gcd (.int .i64 (Int.gcd a b)))
  simp -dsimp -implicitDefEqProofs [c_impl_gcd, r_impl_gcd]
  refine wpLoop_st (fun (x : Int × Int) => ⟨tl [(0, .int .i64 x.1), (1, .int .i64 x.2)], ⟨[]⟩⟩) (fun x => in62 x.1 ∧ in62 x.2 ∧ Int.gcd x.1 x.2 = Int.gcd a b) (fun x => x.2.natAbs) (a, b) ⟨h.1, h.2, rfl⟩ (Sub.keep (by simp) (by simp [hsub]) (by simp)) ?_
  rintro ⟨x, y⟩ ⟨bx, by_, hg⟩
  simp -dsimp -implicitDefEqProofs
  refine brW_of (fun h => ?_) (fun h => ?_)
  · have hy0 : y ≠ 0 := by simpa using h
    simp -dsimp -implicitDefEqProofs [hy0]
    exact .mk (y, x.tmod y) ⟨by_, tmod_bound bx, by rw [gcd_step]; exact hg⟩ (tmod_less hy0) (Sub.keep (by simp) (by simp [hsub]) (by simp))
  · have hy0 : y = 0 := by simpa using h
    subst hy0
    simp -dsimp -implicitDefEqProofs [sp_size_eq x bx]
    rw [← hg, Int.gcd_zero_right]

noncomputable def sp_common : List AV → Option (AV) := pf (ι := (Int) × (Int)) (α := AV) (fun ⟨a, b⟩ => (0 ≤ a ∧ a ≤ 4611686018427387904) ∧ (0 ≤ b ∧ b ≤ 4611686018427387904)) (fun ⟨a, b⟩ => [.int .i64 a, .int .i64 b]) (fun ⟨a, b⟩ => .int .i64 (Int.gcd a b))
theorem sp_common_eq (a b : Int) (h : (0 ≤ a ∧ a ≤ 4611686018427387904) ∧ (0 ≤ b ∧ b ≤ 4611686018427387904)) : sp_common [.int .i64 a, .int .i64 b] = some (.int .i64 (Int.gcd a b)) := by
  unfold sp_common
  exact pf_eq (ι := (Int) × (Int)) (α := AV) (a, b) h (by rintro ⟨a', b'⟩ _ e; simp_all [Int.natCast_inj])
theorem q_spec_l02Common : QP PP 121 sp_common := by
  refine QP_pf (fun i h => ?_) fun i h => ?_
  · obtain ⟨a, b⟩ := i; exact ⟨by first | rfl | simp, by first | rfl | simp⟩
  obtain ⟨a, b⟩ := i
  replace h : (0 ≤ a ∧ a ≤ 4611686018427387904) ∧ (0 ≤ b ∧ b ≤ 4611686018427387904) := h
  refine P_code Quiet.nil hmix k_spec_l02Common rfl ?_ ?_
  · first | rfl | simp
  show wpc 0 PP _ c_spec_l02Common (initSt [.int .i64 a, .int .i64 b] .nil) (endP r_spec_l02Common (.int .i64 (Int.gcd a b)))
  simp -dsimp -implicitDefEqProofs [c_spec_l02Common, r_spec_l02Common]
  refine wpLoop_st (fun (x : Int × Int) => ⟨tl [(0, .int .i64 x.1), (1, .int .i64 x.2)], ⟨[]⟩⟩) (fun x => (0 ≤ x.1 ∧ x.1 ≤ 4611686018427387904) ∧ (0 ≤ x.2 ∧ x.2 ≤ 4611686018427387904) ∧ Int.gcd x.1 x.2 = Int.gcd a b) (fun x => x.2.natAbs) (a, b) ⟨h.1, h.2, rfl⟩ (Sub.keep (by simp) (by simp [hsub]) (by simp)) ?_
  rintro ⟨x, y⟩ ⟨bx, by_, hg⟩
  simp -dsimp -implicitDefEqProofs
  simp only at bx by_
  refine brW_of (fun h => ?_) (fun h => ?_)
  · have hy0 : y ≠ 0 := by simpa using h
    simp -dsimp -implicitDefEqProofs [hy0]
    exact .mk (y, x.tmod y) ⟨by_, ⟨Int.tmod_nonneg _ bx.1, (tmod_bound ⟨by omega, bx.2⟩).2⟩, by rw [gcd_step]; exact hg⟩ (tmod_less hy0) (Sub.keep (by simp) (by simp [hsub]) (by simp))
  · have hy0 : y = 0 := by simpa using h
    subst hy0
    simp -dsimp -implicitDefEqProofs
    rw [← hg, Int.gcd_zero_right]
    omega

def frOk (p q : Int) : Bool := decide ((-1000000000 ≤ p ∧ p ≤ 1000000000) ∧ (1 ≤ q ∧ q ≤ 1000000000) ∧ Int.gcd p q = 1)
theorem gcd_abs (p q : Int) : Int.gcd (p.natAbs : Int) q = Int.gcd p q := by simp [Int.gcd]
noncomputable def sp_frOk : List AV → Option (AV) := pf (ι := (Int) × (Int)) (α := AV) (fun ⟨p, q⟩ => True) (fun ⟨p, q⟩ => [.agg [.int .i64 p, .int .i64 q]]) (fun ⟨p, q⟩ => .bool (frOk p q))
theorem sp_frOk_eq (p q : Int) : sp_frOk [.agg [.int .i64 p, .int .i64 q]] = some (.bool (frOk p q)) := by
  unfold sp_frOk
  exact pf_eq (ι := (Int) × (Int)) (α := AV) (p, q) trivial (by rintro ⟨p', q'⟩ _ e; simp_all [Int.natCast_inj])
attribute [simp] sp_frOk_eq
theorem q_spec_l02Ok : QP PP 70 sp_frOk := by
  refine QP_pf (fun i h => ?_) fun i h => ?_
  · obtain ⟨p, q⟩ := i; exact ⟨by first | rfl | simp, by first | rfl | simp⟩
  obtain ⟨p, q⟩ := i
  replace h : True := h
  refine P_code (Quiet.q1 q_spec_l00In (Quiet.q1 q_spec_l02Abs (Quiet.q1 q_spec_l02Common Quiet.nil))) hmix k_spec_l02Ok rfl ?_ ?_
  · first | rfl | simp
  show wpc 0 PP _ c_spec_l02Ok (initSt [.agg [.int .i64 p, .int .i64 q]] .nil) (endP r_spec_l02Ok (.bool (frOk p q)))
  simp -dsimp -implicitDefEqProofs [c_spec_l02Ok, r_spec_l02Ok]
  by_cases c1 : -1000000000 ≤ p ∧ p ≤ 1000000000
  · by_cases c2 : 1 ≤ q ∧ q ≤ 1000000000
    · have hv : frOk p q = ((Int.gcd p q : Int) == 1) := by
        unfold frOk
        rw [Bool.eq_iff_iff]
        simp [c1, c2]
        omega
      simp -dsimp -implicitDefEqProofs [sp_size_eq p (by omega), sp_common_eq p.natAbs q (by omega), c1, c2, gcd_abs, hv]
    · have hv : frOk p q = false := decide_eq_false fun h => c2 h.2.1
      have c2' : (decide (1 ≤ q) && decide (q ≤ 1000000000)) = false := by simpa using c2
      simp -dsimp -implicitDefEqProofs [c1, c2', hv]
  · have hv : frOk p q = false := decide_eq_false fun h => c1 h.1
    have c1' : (decide (-1000000000 ≤ p) && decide (p ≤ 1000000000)) = false := by simpa using c1
    simp -dsimp -implicitDefEqProofs [c1', hv]
theorem q_impl_ValidFraction : QP PP 133 sp_frOk := by
  refine QP_pf (fun i h => ?_) fun i h => ?_
  · obtain ⟨p, q⟩ := i; exact ⟨by first | rfl | simp, by first | rfl | simp⟩
  obtain ⟨p, q⟩ := i
  replace h : True := h
  refine P_code (Quiet.q1 q_impl_gcd Quiet.nil) hmix k_impl_ValidFraction rfl ?_ ?_
  · first | rfl | simp
  show wpc 0 PP _ c_impl_ValidFraction (initSt [.agg [.int .i64 p, .int .i64 q]] .nil) (endP r_impl_ValidFraction (.bool (frOk p q)))
  simp -dsimp -implicitDefEqProofs [c_impl_ValidFraction, r_impl_ValidFraction]
  by_cases c : (-1000000000 ≤ p ∧ p ≤ 1000000000) ∧ (1 ≤ q ∧ q ≤ 1000000000)
  · have c1 : 0 < q := by omega
    have c2 : ¬ q < 1 := by omega
    have hv : frOk p q = ((Int.gcd p q : Int) == 1) := by
      unfold frOk
      rw [Bool.eq_iff_iff]
      simp [c.1, c.2]
      omega
    simp -dsimp -implicitDefEqProofs [sp_gcd_eq p q (by unfold in62; omega), c, c1, c2, hv]
  · have hv : frOk p q = false := decide_eq_false fun h => c ⟨h.1, h.2.1⟩
    rw [hv]
    repeat' (refine brW_of (fun h => ?_) (fun h => ?_) <;> have h0 := h <;> (try simp only [Bool.and_eq_true, Bool.and_eq_false_iff, Bool.or_eq_true, Bool.or_eq_false_iff, Bool.not_eq_true', Bool.not_eq_false', decide_eq_true_eq, decide_eq_false_iff_not, beq_iff_eq, beq_eq_false_iff_ne, bne_iff_ne, bne_eq_false_iff_eq] at h) <;> simp -dsimp -implicitDefEqProofs [h, h0, *])
    all_goals (exfalso; apply c; omega)
noncomputable def sp_badFraction : List AV → Option (AV) := pf (ι := (Int) × (Int)) (α := AV) (fun ⟨p, q⟩ => True) (fun ⟨p, q⟩ => [.agg [.int .i64 p, .int .i64 q]]) (fun ⟨p, q⟩ => .bool (!frOk p q))
theorem sp_badFraction_eq (p q : Int) : sp_badFraction [.agg [.int .i64 p, .int .i64 q]] = some (.bool (!frOk p q)) := by
  unfold sp_badFraction
  exact pf_eq (ι := (Int) × (Int)) (α := AV) (p, q) trivial (by rintro ⟨p', q'⟩ _ e; simp_all [Int.natCast_inj])
attribute [simp] sp_badFraction_eq
theorem q_impl_badFraction : QP PP 90 sp_badFraction := by
  refine QP_pf (fun i h => ?_) fun i h => ?_
  · obtain ⟨p, q⟩ := i; exact ⟨by first | rfl | simp, by first | rfl | simp⟩
  obtain ⟨p, q⟩ := i
  replace h : True := h
  refine P_code (Quiet.q1 q_impl_ValidFraction Quiet.nil) hmix k_impl_badFraction rfl ?_ ?_
  · first | rfl | simp
  show wpc 0 PP _ c_impl_badFraction (initSt [.agg [.int .i64 p, .int .i64 q]] .nil) (endP r_impl_badFraction (.bool (!frOk p q)))
  simp -dsimp -implicitDefEqProofs [c_impl_badFraction, r_impl_badFraction]

end Go.Proofs.YtlglgcmpeabdnaaGreatDoorAi
end

section
/- MADE BY PROGRAM (wip/tools/gen.py): the abstract code of functions. -/
namespace Go.Proofs.YtlglgcmpeabdnaaGreatDoorAi
open Go AC AOp Opd
set_option linter.unusedVariables false
set_option maxRecDepth 100000
def c_strconv_FormatInt : AC := seq (reg [⟨(some 4), mv (c (.str ⟨#[]⟩)), none⟩]) (seq (reg [⟨(some 5), mv (t 0), none⟩, ⟨(some 6), mv (t 1), none⟩, ⟨(some 7), callq (c (.fn 148 [])) [t 5, t 6], none⟩, ⟨(some 4), mv (t 7), none⟩]) (ret))
def r_strconv_FormatInt : List ARes := [.tmp 4]
theorem k_strconv_FormatInt : acLin Go.Proofs.Tryz.prog 105 2 (inQ [148] []) [] = some (c_strconv_FormatInt, r_strconv_FormatInt) := by kernel_rfl
def c_spec_Decimal : AC := seq (reg [⟨(some 2), mv (c (.str ⟨#[]⟩)), none⟩]) (seq (seq (reg [⟨(some 3), mv (t 0), none⟩, ⟨(some 4), bin .geq (t 3) (c (.int .i64 10)), none⟩]) (cond (t 4) (seq (reg [⟨(some 5), mv (t 0), none⟩, ⟨(some 6), bin .quo (t 5) (c (.int .i64 10)), none⟩, ⟨(some 7), callq (c (.fn 78 [])) [t 6], none⟩, ⟨(some 8), mv (t 0), none⟩, ⟨(some 9), bin .rem (t 8) (c (.int .i64 10)), none⟩, ⟨(some 10), bin .add (c (.int .i64 48)) (t 9), none⟩, ⟨(some 11), conv .u8 (t 10), none⟩, ⟨(some 12), bsl 1 1 [.int .u8 0] [(0, t 11)], none⟩, ⟨(some 13), b2s (t 12), none⟩, ⟨(some 14), bin .add (t 7) (t 13), none⟩, ⟨(some 2), mv (t 14), none⟩]) (ret)) (skip))) (seq (reg [⟨(some 15), mv (t 0), none⟩, ⟨(some 16), bin .add (c (.int .i64 48)) (t 15), none⟩, ⟨(some 17), conv .u8 (t 16), none⟩, ⟨(some 18), bsl 1 1 [.int .u8 0] [(0, t 17)], none⟩, ⟨(some 19), b2s (t 18), none⟩, ⟨(some 2), mv (t 19), none⟩]) (ret)))
def r_spec_Decimal : List ARes := [.tmp 2]
theorem k_spec_Decimal : acLin Go.Proofs.Tryz.prog 78 1 (inQ [78] []) [⟨false, none, [], [], none⟩, ⟨false, none, [], [], none⟩, ⟨false, some [0, 1, 2, 3, 4, 5, 6, 7, 8, 9, 10], [], [], none⟩] = some (c_spec_Decimal, r_spec_Decimal) := by kernel_rfl
def c_impl_decimal : AC := seq (reg [⟨(some 2), mv (c (.str ⟨#[]⟩)), none⟩]) (seq (reg [⟨(some 3), mv (t 0), none⟩, ⟨(some 4), callq (c (.fn 105 [])) [t 3, c (.int .i64 10)], none⟩, ⟨(some 2), mv (t 4), none⟩]) (ret))
def r_impl_decimal : List ARes := [.tmp 2]
theorem k_impl_decimal : acLin Go.Proofs.Tryz.prog 50 1 (inQ [105] []) [] = some (c_impl_decimal, r_impl_decimal) := by kernel_rfl
def c_impl_Fraction_text : AC := seq (reg [⟨(some 1), box 2 (t 0), none⟩, ⟨(some 2), mv (c (.str ⟨#[]⟩)), none⟩]) (seq (seq (reg [⟨(some 3), fad (t 1) 1, none⟩, ⟨(some 4), ld (t 3) 1 false, none⟩, ⟨(some 5), bin .eql (t 4) (c (.int .i64 1)), none⟩]) (cond (t 5) (seq (reg [⟨(some 6), fad (t 1) 0, none⟩, ⟨(some 7), ld (t 6) 1 false, none⟩, ⟨(some 8), callq (c (.fn 50 [])) [t 7], none⟩, ⟨(some 2), mv (t 8), none⟩]) (ret)) (skip))) (seq (reg [⟨(some 9), fad (t 1) 0, none⟩, ⟨(some 10), ld (t 9) 1 false, none⟩, ⟨(some 11), callq (c (.fn 50 [])) [t 10], none⟩, ⟨(some 12), bin .add (t 11) (c (.str ⟨#[47]⟩)), none⟩, ⟨(some 13), fad (t 1) 1, none⟩, ⟨(some 14), ld (t 13) 1 false, none⟩, ⟨(some 15), callq (c (.fn 50 [])) [t 14], none⟩, ⟨(some 16), bin .add (t 12) (t 15), none⟩, ⟨(some 2), mv (t 16), none⟩]) (ret)))
def r_impl_Fraction_text : List ARes := [.tmp 2]
theorem k_impl_Fraction_text : acLin Go.Proofs.Tryz.prog 134 1 (inQ [50] []) [⟨false, none, [], [], none⟩, ⟨false, none, [], [], none⟩, ⟨false, none, [], [], none⟩, ⟨false, none, [], [], none⟩, ⟨false, some [0, 1, 2, 3, 4, 5, 6, 7, 8], [], [], none⟩] = some (c_impl_Fraction_text, r_impl_Fraction_text) := by kernel_rfl
def c_spec_FractionText : AC := seq (reg [⟨(some 1), box 2 (t 0), none⟩, ⟨(some 2), mv (c (.str ⟨#[]⟩)), none⟩]) (seq (seq (reg [⟨(some 4), ld (t 1) 2 true, none⟩, ⟨(some 5), callq (c (.fn 70 [])) [t 4], none⟩, ⟨(some 6), un .not (t 5), none⟩]) (cond (t 6) (seq (reg [⟨(some 2), mv (c (.str ⟨#[]⟩)), none⟩]) (ret)) (skip))) (seq (reg [⟨(some 7), fad (t 1) 0, none⟩, ⟨(some 8), ld (t 7) 1 false, none⟩, ⟨(some 9), callq (c (.fn 122 [])) [t 8], none⟩, ⟨(some 10), callq (c (.fn 78 [])) [t 9], none⟩, ⟨(some 3), mv (t 10), none⟩]) (seq (seq (reg [⟨(some 11), fad (t 1) 0, none⟩, ⟨(some 12), ld (t 11) 1 false, none⟩, ⟨(some 13), bin .lss (t 12) (c (.int .i64 0)), none⟩]) (cond (t 13) (reg [⟨(some 14), mv (t 3), none⟩, ⟨(some 15), bin .add (c (.str ⟨#[45]⟩)) (t 14), none⟩, ⟨(some 3), mv (t 15), none⟩]) (skip))) (seq (seq (reg [⟨(some 16), fad (t 1) 1, none⟩, ⟨(some 17), ld (t 16) 1 false, none⟩, ⟨(some 18), bin .neq (t 17) (c (.int .i64 1)), none⟩]) (cond (t 18) (reg [⟨(some 19), mv (t 3), none⟩, ⟨(some 20), fad (t 1) 1, none⟩, ⟨(some 21), ld (t 20) 1 false, none⟩, ⟨(some 22), callq (c (.fn 78 [])) [t 21], none⟩, ⟨(some 23), bin .add (c (.str ⟨#[47]⟩)) (t 22), none⟩, ⟨(some 24), bin .add (t 19) (t 23), none⟩, ⟨(some 3), mv (t 24), none⟩]) (skip))) (seq (reg [⟨(some 25), mv (t 3), none⟩, ⟨(some 2), mv (t 25), none⟩]) (ret))))))
def r_spec_FractionText : List ARes := [.tmp 2]
theorem k_spec_FractionText : acLin Go.Proofs.Tryz.prog 71 1 (inQ [70, 78, 122] []) [] = some (c_spec_FractionText, r_spec_FractionText) := by kernel_rfl
def c_impl_Graph_edges : AC := seq (reg [⟨(some 1), box 2 (t 0), none⟩, ⟨(some 2), mv (c (.sl [] true)), none⟩]) (seq (reg [⟨(some 6), bsl 2 0 [.int .i64 0, .int .i64 0] [], none⟩, ⟨(some 3), mv (t 6), none⟩]) (seq (seq (reg [⟨(some 7), fad (t 1) 0, none⟩, ⟨(some 8), ld (t 7) 1 false, none⟩, ⟨(some 9), mv (c (.int .i64 0)), none⟩]) (block 0 (loop (seq (reg [⟨(some 10), bin .lss (t 9) (t 8), none⟩]) (seq (cond (t 10) (skip) (exit 0)) (seq (block 1 (seq (reg [⟨(some 11), mv (t 9), none⟩, ⟨(some 4), mv (t 11), none⟩]) (seq (reg [⟨(some 12), mv (t 4), none⟩, ⟨(some 13), mv (c (.int .i64 0)), none⟩]) (block 2 (loop (seq (reg [⟨(some 14), bin .lss (t 13) (t 12), none⟩]) (seq (cond (t 14) (skip) (exit 2)) (seq (block 3 (seq (reg [⟨(some 15), mv (t 13), none⟩, ⟨(some 5), mv (t 15), none⟩]) (seq (reg [⟨(some 16), ld (t 1) 2 true, none⟩, ⟨(some 17), mv (t 5), none⟩, ⟨(some 18), mv (t 4), none⟩, ⟨(some 19), callq (c (.fn 161 [])) [t 16, t 17, t 18], none⟩]) (cond (t 19) (reg [⟨(some 20), mv (t 3), none⟩, ⟨(some 21), mv (t 5), none⟩, ⟨(some 22), mv (t 4), none⟩, ⟨(some 23), bld [.int .i64 0, .int .i64 0] [(0, 1, t 21), (1, 1, t 22)], none⟩, ⟨(some 24), bsl 2 1 [.int .i64 0, .int .i64 0] [(0, t 23)], none⟩, ⟨(some 25), app 2 16 (t 20) (t 24), none⟩, ⟨(some 3), mv (t 25), none⟩]) (skip))))) (reg [⟨(some 26), bin .add (t 13) (c (.int .i64 1)), none⟩, ⟨(some 13), mv (t 26), none⟩]))))))))) (reg [⟨(some 27), bin .add (t 9) (c (.int .i64 1)), none⟩, ⟨(some 9), mv (t 27), none⟩]))))))) (seq (reg [⟨(some 28), mv (t 3), none⟩, ⟨(some 2), mv (t 28), none⟩]) (ret))))
def r_impl_Graph_edges : List ARes := [.tmp 2]
theorem k_impl_Graph_edges : acLin Go.Proofs.Tryz.prog 131 1 (inQ [161] []) [] = some (c_impl_Graph_edges, r_impl_Graph_edges) := by kernel_rfl
def c_spec_l01Pairs : AC := seq (reg [⟨(some 1), box 2 (t 0), none⟩, ⟨(some 2), mv (c (.sl [] true)), none⟩]) (seq (reg [⟨(some 6), bsl 2 0 [.int .i64 0, .int .i64 0] [], none⟩, ⟨(some 3), mv (t 6), none⟩]) (seq (seq (reg [⟨(some 4), mv (c (.int .i64 1)), none⟩]) (block 0 (loop (seq (seq (reg [⟨(some 7), mv (t 4), none⟩, ⟨(some 8), fad (t 1) 0, none⟩, ⟨(some 9), ld (t 8) 1 false, none⟩, ⟨(some 10), bin .lss (t 7) (t 9), none⟩]) (cond (t 10) (skip) (exit 0))) (seq (block 1 (seq (reg [⟨(some 5), mv (c (.int .i64 0)), none⟩]) (block 2 (loop (seq (seq (reg [⟨(some 13), mv (t 5), none⟩, ⟨(some 14), mv (t 4), none⟩, ⟨(some 15), bin .lss (t 13) (t 14), none⟩]) (cond (t 15) (skip) (exit 2))) (seq (block 3 (seq (reg [⟨(some 18), ld (t 1) 2 true, none⟩, ⟨(some 19), mv (t 5), none⟩, ⟨(some 20), mv (t 4), none⟩, ⟨(some 21), callq (c (.fn 125 [])) [t 18, t 19, t 20], none⟩]) (cond (t 21) (reg [⟨(some 22), mv (t 3), none⟩, ⟨(some 23), mv (t 5), none⟩, ⟨(some 24), mv (t 4), none⟩, ⟨(some 25), bld [.int .i64 0, .int .i64 0] [(0, 1, t 23), (1, 1, t 24)], none⟩, ⟨(some 26), bsl 2 1 [.int .i64 0, .int .i64 0] [(0, t 25)], none⟩, ⟨(some 27), app 2 16 (t 22) (t 26), none⟩, ⟨(some 3), mv (t 27), none⟩]) (skip)))) (reg [⟨(some 16), mv (t 5), none⟩, ⟨(some 17), bin .add (t 16) (c (.int .i64 1)), none⟩, ⟨(some 5), mv (t 17), none⟩]))))))) (reg [⟨(some 11), mv (t 4), none⟩, ⟨(some 12), bin .add (t 11) (c (.int .i64 1)), none⟩, ⟨(some 4), mv (t 12), none⟩])))))) (seq (reg [⟨(some 28), mv (t 3), none⟩, ⟨(some 2), mv (t 28), none⟩]) (ret))))
def r_spec_l01Pairs : List ARes := [.tmp 2]
theorem k_spec_l01Pairs : acLin Go.Proofs.Tryz.prog 120 1 (inQ [125] []) [] = some (c_spec_l01Pairs, r_spec_l01Pairs) := by kernel_rfl
def c_impl_Graph_text : AC := seq (reg [⟨(some 1), box 2 (t 0), none⟩, ⟨(some 2), mv (c (.str ⟨#[]⟩)), none⟩]) (seq (reg [⟨(some 6), fad (t 1) 0, none⟩, ⟨(some 7), ld (t 6) 1 false, none⟩, ⟨(some 8), callq (c (.fn 50 [])) [t 7], none⟩, ⟨(some 9), bin .add (c (.str ⟨#[103, 114, 97, 112, 104, 32]⟩)) (t 8), none⟩, ⟨(some 3), mv (t 9), none⟩]) (seq (seq (reg [⟨(some 10), ld (t 1) 2 true, none⟩, ⟨(some 11), calle (c (.fn 131 [])) [t 10] [], none⟩, ⟨(some 12), len (t 11), none⟩, ⟨(some 13), mv (c (.int .i64 0)), none⟩]) (block 0 (loop (seq (reg [⟨(some 14), bin .lss (t 13) (t 12), none⟩]) (seq (cond (t 14) (skip) (exit 0)) (seq (block 1 (seq (reg [⟨(some 15), iad 2 (t 11) (t 13), none⟩, ⟨(some 16), ld (t 15) 2 true, none⟩, ⟨(some 5), alloc [.int .i64 0, .int .i64 0], none⟩, ⟨none, st (t 5) 2 (t 16), none⟩]) (reg [⟨(some 17), mv (t 3), none⟩, ⟨(some 18), fad (t 5) 0, none⟩, ⟨(some 19), ld (t 18) 1 false, none⟩, ⟨(some 20), callq (c (.fn 50 [])) [t 19], none⟩, ⟨(some 21), bin .add (c (.str ⟨#[32]⟩)) (t 20), none⟩, ⟨(some 22), bin .add (t 21) (c (.str ⟨#[45]⟩)), none⟩, ⟨(some 23), fad (t 5) 1, none⟩, ⟨(some 24), ld (t 23) 1 false, none⟩, ⟨(some 25), callq (c (.fn 50 [])) [t 24], none⟩, ⟨(some 26), bin .add (t 22) (t 25), none⟩, ⟨(some 27), bin .add (t 17) (t 26), none⟩, ⟨(some 3), mv (t 27), none⟩]))) (reg [⟨(some 28), bin .add (t 13) (c (.int .i64 1)), none⟩, ⟨(some 13), mv (t 28), none⟩]))))))) (seq (reg [⟨(some 29), mv (t 3), none⟩, ⟨(some 2), mv (t 29), none⟩]) (ret))))
def r_impl_Graph_text : List ARes := [.tmp 2]
theorem k_impl_Graph_text : acLin Go.Proofs.Tryz.prog 84 1 (inQ [50] [131]) [⟨false, none, [], [], none⟩, ⟨false, none, [], [], none⟩, ⟨false, none, [], [], none⟩, ⟨false, none, [], [], none⟩, ⟨false, none, [], [], none⟩, ⟨false, none, [], [], none⟩, ⟨false, some [0, 1, 2, 3, 4, 5, 6, 7, 8, 9, 10, 11], [], [], none⟩] = some (c_impl_Graph_text, r_impl_Graph_text) := by kernel_rfl
def c_spec_GraphText : AC := seq (reg [⟨(some 1), box 2 (t 0), none⟩, ⟨(some 2), mv (c (.str ⟨#[]⟩)), none⟩]) (seq (seq (reg [⟨(some 6), ld (t 1) 2 true, none⟩, ⟨(some 7), callq (c (.fn 72 [])) [t 6], none⟩, ⟨(some 8), un .not (t 7), none⟩]) (cond (t 8) (seq (reg [⟨(some 2), mv (c (.str ⟨#[]⟩)), none⟩]) (ret)) (skip))) (seq (reg [⟨(some 9), fad (t 1) 0, none⟩, ⟨(some 10), ld (t 9) 1 false, none⟩, ⟨(some 11), callq (c (.fn 78 [])) [t 10], none⟩, ⟨(some 12), bin .add (c (.str ⟨#[103, 114, 97, 112, 104, 32]⟩)) (t 11), none⟩, ⟨(some 3), mv (t 12), none⟩]) (seq (reg [⟨(some 13), ld (t 1) 2 true, none⟩, ⟨(some 14), calle (c (.fn 120 [])) [t 13] [], none⟩, ⟨(some 4), mv (t 14), none⟩]) (seq (seq (reg [⟨(some 5), mv (c (.int .i64 0)), none⟩]) (block 0 (loop (seq (seq (reg [⟨(some 15), mv (t 5), none⟩, ⟨(some 16), mv (t 4), none⟩, ⟨(some 17), len (t 16), none⟩, ⟨(some 18), bin .lss (t 15) (t 17), none⟩]) (cond (t 18) (skip) (exit 0))) (seq (block 1 (reg [⟨(some 21), mv (t 3), none⟩, ⟨(some 22), mv (t 4), none⟩, ⟨(some 23), mv (t 5), none⟩, ⟨(some 24), iad 2 (t 22) (t 23), none⟩, ⟨(some 25), fad (t 24) 0, none⟩, ⟨(some 26), ld (t 25) 1 false, none⟩, ⟨(some 27), callq (c (.fn 78 [])) [t 26], none⟩, ⟨(some 28), bin .add (c (.str ⟨#[32]⟩)) (t 27), none⟩, ⟨(some 29), bin .add (t 28) (c (.str ⟨#[45]⟩)), none⟩, ⟨(some 30), mv (t 4), none⟩, ⟨(some 31), mv (t 5), none⟩, ⟨(some 32), iad 2 (t 30) (t 31), none⟩, ⟨(some 33), fad (t 32) 1, none⟩, ⟨(some 34), ld (t 33) 1 false, none⟩, ⟨(some 35), callq (c (.fn 78 [])) [t 34], none⟩, ⟨(some 36), bin .add (t 29) (t 35), none⟩, ⟨(some 37), bin .add (t 21) (t 36), none⟩, ⟨(some 3), mv (t 37), none⟩])) (reg [⟨(some 19), mv (t 5), none⟩, ⟨(some 20), bin .add (t 19) (c (.int .i64 1)), none⟩, ⟨(some 5), mv (t 20), none⟩])))))) (seq (reg [⟨(some 38), mv (t 3), none⟩, ⟨(some 2), mv (t 38), none⟩]) (ret))))))
def r_spec_GraphText : List ARes := [.tmp 2]
theorem k_spec_GraphText : acLin Go.Proofs.Tryz.prog 68 1 (inQ [72, 78] [120]) [⟨false, none, [], [], none⟩, ⟨false, none, [], [], none⟩, ⟨false, none, [], [], none⟩, ⟨false, none, [], [], none⟩, ⟨false, none, [], [], none⟩, ⟨false, none, [], [], none⟩, ⟨false, none, [], [], none⟩, ⟨false, none, [], [], none⟩, ⟨false, none, [], [], none⟩, ⟨false, some [0, 1, 2, 3, 4, 5, 6, 7, 8, 9, 10, 11, 12, 13, 14, 15, 16, 17], [], [], none⟩] = some (c_spec_GraphText, r_spec_GraphText) := by kernel_rfl
end Go.Proofs.YtlglgcmpeabdnaaGreatDoorAi
end

section
/- Contracts: numerals, texts of fractions. -/
namespace Go.Proofs.YtlglgcmpeabdnaaGreatDoorAi
open Go Go.RowKit
set_option linter.unusedVariables false
set_option linter.unusedSimpArgs false
set_option maxRecDepth 20000

@[simp] theorem ba_size (a : Array UInt8) : (ByteArray.mk a).size = a.size := rfl
/-- The numeral of a number. -/
def decB (n : Int) : ByteArray := ⟨(Go.Lib.itoa n).toArray⟩
theorem decB_small {n : Int} (h0 : 0 ≤ n) (h1 : n < 10) : decB n = ⟨[UInt8.ofNat (48 + n.toNat)].toArray⟩ := by
  unfold decB Go.Lib.itoa
  rw [if_neg (by omega), Go.Lib.decDigits, dif_pos (by omega)]
theorem decB_step {n : Int} (h : 10 ≤ n) : decB n = decB (n.tdiv 10) ++ ⟨[UInt8.ofNat (48 + (n.tmod 10).toNat)].toArray⟩ := by
  have e1 : (n.tdiv 10).toNat = n.toNat / 10 := by
    rw [Int.tdiv_eq_ediv_of_nonneg (by omega)]; omega
  have e2 : (n.tmod 10).toNat = n.toNat % 10 := by
    rw [Int.tmod_eq_emod_of_nonneg (by omega)]; omega
  unfold decB Go.Lib.itoa
  rw [if_neg (by omega), if_neg (by rw [Int.tdiv_eq_ediv_of_nonneg (by omega)]; omega), e1, e2, Go.Lib.decDigits, dif_neg (by omega)]
  apply ByteArray.ext
  simp
theorem decB_neg {n : Int} (h : n < 0) : decB n = ⟨[45].toArray⟩ ++ decB (n.natAbs : Int) := by
  unfold decB Go.Lib.itoa
  rw [if_pos h, if_neg (by omega)]
  apply ByteArray.ext
  simp
theorem nDig_le : ∀ (k u : Nat), u < 10 ^ (k + 1) → Go.Lib.nDigits u ≤ k + 1
  | 0, u, h => by rw [Go.Lib.nDigits_small (by simpa using h)]; omega
  | k + 1, u, h => by
    by_cases hu : u < 10
    · rw [Go.Lib.nDigits_small hu]; omega
    · rw [Go.Lib.nDigits_big hu]
      have := nDig_le k (u / 10) (by rw [Nat.pow_succ] at h; omega)
      omega
theorem decB_size (n : Int) (h0 : -9223372036854775808 ≤ n) (h1 : n ≤ 9223372036854775807) : (decB n).size ≤ 21 := by
  have hl : (Go.Lib.itoa n).length ≤ 21 := by
    unfold Go.Lib.itoa
    split
    · have := nDig_le 19 n.natAbs (by omega)
      rw [List.length_cons, Go.Lib.decDigits_length]; omega
    · have := nDig_le 19 n.toNat (by omega)
      rw [Go.Lib.decDigits_length]; omega
  unfold decB
  simpa [ByteArray.size] using hl

noncomputable def sp_decK (k : Nat) : List AV → Option AV := pf (ι := Int) (α := AV) (fun n => 0 ≤ n ∧ n < 10 ^ k ∧ n ≤ 9223372036854775807) (fun n => [.int .i64 n]) (fun n => .str (decB n))
theorem sp_decK_eq (k : Nat) (n : Int) (h : 0 ≤ n ∧ n < 10 ^ k ∧ n ≤ 9223372036854775807) : sp_decK k [.int .i64 n] = some (.str (decB n)) := by
  unfold sp_decK
  exact pf_eq (ι := Int) (α := AV) n h (by rintro n' _ e; simp_all)
theorem wrap_dig {d : Int} (h0 : 0 ≤ d) (h1 : d < 10) : IntKind.wrap .u8 (48 + d) = 48 + d := by
  simp [IntKind.wrap, IntKind.signed, IntKind.bits]; omega
theorem wrap_dig' {d : Int} (h0 : 0 ≤ d) (h1 : d < 10) : IntKind.wrap .i64 (48 + d) = 48 + d := by
  simp [IntKind.wrap, IntKind.signed, IntKind.bits]; omega
theorem q_decK : ∀ k, QP PP 78 (sp_decK k) := by
  intro k
  induction k with
  | zero =>
    refine QP_pf (fun n h => ?_) fun n h => ?_
    · exact ⟨by first | rfl | simp, by first | rfl | simp⟩
    replace h : 0 ≤ n ∧ n < 10 ^ 0 ∧ n ≤ 9223372036854775807 := h
    obtain rfl : n = 0 := by omega
    refine P_code Quiet.nil hmix k_spec_Decimal rfl ?_ ?_
    · first | rfl | simp
    show wpc 0 PP _ c_spec_Decimal (initSt [.int .i64 0] .nil) (endP r_spec_Decimal (.str (decB 0)))
    have w : IntKind.wrap .u8 48 = 48 := rfl
    have w' : IntKind.wrap .i64 48 = 48 := rfl
    rw [decB_small (by decide) (by decide)]
    simp -dsimp -implicitDefEqProofs [c_spec_Decimal, r_spec_Decimal, w, w']
  | succ k ih =>
    refine QP_pf (fun n h => ?_) fun n h => ?_
    · exact ⟨by first | rfl | simp, by first | rfl | simp⟩
    replace h : 0 ≤ n ∧ n < 10 ^ (k + 1) ∧ n ≤ 9223372036854775807 := h
    refine P_code (Quiet.q1 ih Quiet.nil) hmix k_spec_Decimal rfl ?_ ?_
    · first | rfl | simp
    show wpc 0 PP _ c_spec_Decimal (initSt [.int .i64 n] .nil) (endP r_spec_Decimal (.str (decB n)))
    by_cases hn : 10 ≤ n
    · have hb : decide (10 ≤ n) = true := decide_eq_true hn
      have em : 0 ≤ n.tmod 10 ∧ n.tmod 10 < 10 := by rw [Int.tmod_eq_emod_of_nonneg (by omega)]; omega
      have ed : 0 ≤ n.tdiv 10 ∧ n.tdiv 10 < 10 ^ k ∧ n.tdiv 10 ≤ 9223372036854775807 := by
        rw [Int.tdiv_eq_ediv_of_nonneg (by omega)]
        have : (10 : Int) ^ (k + 1) = 10 ^ k * 10 := Int.pow_succ ..
        omega
      have w := wrap_dig em.1 em.2
      have w' := wrap_dig' em.1 em.2
      have b1 : 0 ≤ 48 + n.tmod 10 := by omega
      have b2 : 48 + n.tmod 10 < 256 := by omega
      have b3 : (48 + n.tmod 10).toNat = 48 + (n.tmod 10).toNat := by omega
      have hc := sp_decK_eq k _ ed
      have hs := decB_size (n.tdiv 10) (by omega) (by omega)
      have wd : IntKind.wrap .i64 (n.tdiv 10) = n.tdiv 10 := by simp [IntKind.wrap, IntKind.signed, IntKind.bits]; omega
      have wm : IntKind.wrap .i64 (n.tmod 10) = n.tmod 10 := by simp [IntKind.wrap, IntKind.signed, IntKind.bits]; omega
      have hz : (decB (n.tdiv 10)).size + 1 ≤ 9223372036854775807 := by omega
      rw [decB_step hn]
      simp -dsimp -implicitDefEqProofs [c_spec_Decimal, r_spec_Decimal, hb, w, w', b1, b2, b3, hc, wd, wm, hz]
    · have hb : decide (10 ≤ n) = false := decide_eq_false hn
      have w := wrap_dig (d := n) (by omega) (by omega)
      have w' := wrap_dig' (d := n) (by omega) (by omega)
      have b1 : 0 ≤ 48 + n := by omega
      have b2 : 48 + n < 256 := by omega
      have b3 : (48 + n).toNat = 48 + n.toNat := by omega
      rw [decB_small (by omega) (by omega)]
      simp -dsimp -implicitDefEqProofs [c_spec_Decimal, r_spec_Decimal, hb, w, w', b1, b2, b3]
noncomputable def sp_decS : List AV → Option (AV) := pf (ι := (Int)) (α := AV) (fun n => 0 ≤ n ∧ n ≤ 9223372036854775807) (fun n => [.int .i64 n]) (fun n => .str (decB n))
theorem sp_decS_eq (n : Int) (h : 0 ≤ n ∧ n ≤ 9223372036854775807) : sp_decS [.int .i64 n] = some (.str (decB n)) := by
  unfold sp_decS
  exact pf_eq (ι := (Int)) (α := AV) n h (by rintro n' _ e; simp_all [Int.natCast_inj])
theorem q_spec_Decimal : QP PP 78 sp_decS := by
  intro args r e
  obtain ⟨n, h, rfl, rfl⟩ : ∃ n : Int, (0 ≤ n ∧ n ≤ 9223372036854775807) ∧ args = [.int .i64 n] ∧ r = .str (decB n) := by
    unfold sp_decS pf at e
    split at e
    · rename_i hx
      injection e with e
      refine ⟨Classical.choose hx, (Classical.choose_spec hx).1, ?_, e.symm⟩
      first | exact (Classical.choose_spec hx).2 | exact (Classical.choose_spec hx).2.symm
    · cases e
  exact q_decK 19 _ _ (sp_decK_eq 19 n ⟨h.1, by omega, h.2⟩)
end Go.Proofs.YtlglgcmpeabdnaaGreatDoorAi
end

section
/- Contracts: the numeral of the program, texts of fractions. -/
namespace Go.Proofs.YtlglgcmpeabdnaaGreatDoorAi
open Go Go.RowKit
set_option linter.unusedVariables false
set_option linter.unusedSimpArgs false
set_option maxRecDepth 20000

noncomputable def sp_formatI : List AV → Option (AV) := pf (ι := (Int)) (α := AV) (fun n => -9223372036854775808 ≤ n ∧ n ≤ 9223372036854775807) (fun n => [.int .i64 n, .int .i64 10]) (fun n => .str (decB n))
theorem sp_formatI_eq (n : Int) (h : -9223372036854775808 ≤ n ∧ n ≤ 9223372036854775807) : sp_formatI [.int .i64 n, .int .i64 10] = some (.str (decB n)) := by
  unfold sp_formatI
  exact pf_eq (ι := (Int)) (α := AV) n h (by rintro n' _ e; simp_all [Int.natCast_inj])
theorem below_grown' (w : World) (k : Nat) (os : Array Obj) : Below w.heap.size w (Go.Sort.grow (w.drewN k) os) :=
  ⟨rfl, rfl, rfl, by show w.heap.size ≤ (w.heap ++ os).size; rw [Array.size_append]; omega, fun j hj => by show (w.heap ++ os)[j]? = _; rw [Array.getElem?_append_left hj]⟩
theorem q_internal_strconv_FormatInt : QP PP 148 sp_formatI := by
  refine QP_pf (fun n h => ?_) fun n h => ?_
  · exact ⟨by first | rfl | simp, by first | rfl | simp⟩
  replace h : -9223372036854775808 ≤ n ∧ n ≤ 9223372036854775807 := h
  refine T.lib ⟨_, Tryz.func148, by kernel_rfl, by kernel_rfl⟩ (fun σ w vs hr hG => ?_) .nil
  obtain ⟨v1, us, rfl, h1, h2⟩ := hr.head
  obtain ⟨v2, us2, rfl, h3, h4⟩ := h2.head
  obtain rfl : us2 = [] := List.eq_nil_of_length_eq_zero h4.1.symm
  cases h1; cases h3
  refine (Tryz.internal_strconv_FormatInt_10 n h.1 h.2 w (hG.tab (by kernel_rfl))).mono ?_
  rintro e w' ⟨rfl, k, os, rfl⟩
  exact ⟨_, rfl, below_grown' w k os, .str _⟩
theorem q_strconv_FormatInt : QP PP 105 sp_formatI := by
  refine QP_pf (fun n h => ?_) fun n h => ?_
  · exact ⟨by first | rfl | simp, by first | rfl | simp⟩
  replace h : -9223372036854775808 ≤ n ∧ n ≤ 9223372036854775807 := h
  refine P_code (Quiet.q1 q_internal_strconv_FormatInt Quiet.nil) hmix k_strconv_FormatInt rfl ?_ ?_
  · first | rfl | simp
  show wpc 0 PP _ c_strconv_FormatInt (initSt [.int .i64 n, .int .i64 10] .nil) (endP r_strconv_FormatInt (.str (decB n)))
  simp -dsimp -implicitDefEqProofs [c_strconv_FormatInt, r_strconv_FormatInt, sp_formatI_eq n h]
noncomputable def sp_decimal : List AV → Option (AV) := pf (ι := (Int)) (α := AV) (fun n => -9223372036854775808 ≤ n ∧ n ≤ 9223372036854775807) (fun n => [.int .i64 n]) (fun n => .str (decB n))
theorem sp_decimal_eq (n : Int) (h : -9223372036854775808 ≤ n ∧ n ≤ 9223372036854775807) : sp_decimal [.int .i64 n] = some (.str (decB n)) := by
  unfold sp_decimal
  exact pf_eq (ι := (Int)) (α := AV) n h (by rintro n' _ e; simp_all [Int.natCast_inj])
theorem q_impl_decimal : QP PP 50 sp_decimal := by
  refine QP_pf (fun n h => ?_) fun n h => ?_
  · exact ⟨by first | rfl | simp, by first | rfl | simp⟩
  replace h : -9223372036854775808 ≤ n ∧ n ≤ 9223372036854775807 := h
  refine P_code (Quiet.q1 q_strconv_FormatInt Quiet.nil) hmix k_impl_decimal rfl ?_ ?_
  · first | rfl | simp
  show wpc 0 PP _ c_impl_decimal (initSt [.int .i64 n] .nil) (endP r_impl_decimal (.str (decB n)))
  simp -dsimp -implicitDefEqProofs [c_impl_decimal, r_impl_decimal, sp_formatI_eq n h]

def slashB : ByteArray := ⟨#[47]⟩
def noB : ByteArray := ⟨#[]⟩
def frT (p q : Int) : ByteArray := if q = 1 then decB p else decB p ++ slashB ++ decB q
noncomputable def sp_frText : List AV → Option (AV) := pf (ι := (Int) × (Int)) (α := AV) (fun ⟨p, q⟩ => (-9223372036854775808 ≤ p ∧ p ≤ 9223372036854775807) ∧ (-9223372036854775808 ≤ q ∧ q ≤ 9223372036854775807)) (fun ⟨p, q⟩ => [.agg [.int .i64 p, .int .i64 q]]) (fun ⟨p, q⟩ => .str (frT p q))
theorem sp_frText_eq (p q : Int) (h : (-9223372036854775808 ≤ p ∧ p ≤ 9223372036854775807) ∧ (-9223372036854775808 ≤ q ∧ q ≤ 9223372036854775807)) : sp_frText [.agg [.int .i64 p, .int .i64 q]] = some (.str (frT p q)) := by
  unfold sp_frText
  exact pf_eq (ι := (Int) × (Int)) (α := AV) (p, q) h (by rintro ⟨p', q'⟩ _ e; simp_all [Int.natCast_inj])
theorem q_impl_Fraction_text : QP PP 134 sp_frText := by
  refine QP_pf (fun i h => ?_) fun i h => ?_
  · obtain ⟨p, q⟩ := i; exact ⟨by first | rfl | simp, by first | rfl | simp⟩
  obtain ⟨p, q⟩ := i
  replace h : (-9223372036854775808 ≤ p ∧ p ≤ 9223372036854775807) ∧ (-9223372036854775808 ≤ q ∧ q ≤ 9223372036854775807) := h
  refine P_code (Quiet.q1 q_impl_decimal Quiet.nil) hmix k_impl_Fraction_text rfl ?_ ?_
  · first | rfl | simp
  show wpc 0 PP _ c_impl_Fraction_text (initSt [.agg [.int .i64 p, .int .i64 q]] .nil) (endP r_impl_Fraction_text (.str (frT p q)))
  have hp := sp_decimal_eq p h.1
  have hq := sp_decimal_eq q h.2
  have sp := decB_size p h.1.1 h.1.2
  have sq := decB_size q h.2.1 h.2.2
  by_cases hone : q = 1
  · subst hone
    simp -dsimp -implicitDefEqProofs [c_impl_Fraction_text, r_impl_Fraction_text, hp, frT]
  · have hb : (q == 1) = false := by simpa using hone
    have s1 : (decB p).size + 1 ≤ 9223372036854775807 := by omega
    have s2 : (decB p).size + 1 + (decB q).size ≤ 9223372036854775807 := by omega
    simp -dsimp -implicitDefEqProofs [c_impl_Fraction_text, r_impl_Fraction_text, hp, hq, hb, s1, s2, frT, hone, slashB]
end Go.Proofs.YtlglgcmpeabdnaaGreatDoorAi
end

section
/- MADE BY PROGRAM (wip/tools/gen.py): the abstract code of functions. -/
namespace Go.Proofs.YtlglgcmpeabdnaaGreatDoorAi
open Go AC AOp Opd
set_option linter.unusedVariables false
set_option maxRecDepth 100000
def c_impl_lowest : AC := seq (reg [⟨(some 4), alloc [.int .i64 0, .int .i64 0], none⟩]) (seq (reg [⟨(some 6), mv (t 0), none⟩, ⟨(some 7), mv (t 1), none⟩, ⟨(some 8), callq (c (.fn 162 [])) [t 6, t 7], none⟩, ⟨(some 5), mv (t 8), none⟩]) (seq (seq (reg [⟨(some 9), mv (t 1), none⟩, ⟨(some 10), bin .lss (t 9) (c (.int .i64 0)), none⟩]) (cond (t 10) (reg [⟨(some 11), mv (t 5), none⟩, ⟨(some 12), un .neg (t 11), none⟩, ⟨(some 5), mv (t 12), none⟩]) (skip))) (seq (reg [⟨(some 13), mv (t 0), none⟩, ⟨(some 14), mv (t 5), none⟩, ⟨(some 15), bin .quo (t 13) (t 14), none⟩, ⟨(some 16), mv (t 1), none⟩, ⟨(some 17), mv (t 5), none⟩, ⟨(some 18), bin .quo (t 16) (t 17), none⟩, ⟨(some 19), bld [.int .i64 0, .int .i64 0] [(0, 1, t 15), (1, 1, t 18)], none⟩, ⟨none, st (t 4) 2 (t 19), none⟩]) (ret))))
def r_impl_lowest : List ARes := [.cell 4 2 true]
theorem k_impl_lowest : acLin Go.Proofs.Tryz.prog 139 2 (inQ [162] []) [⟨false, none, [], [], none⟩, ⟨false, none, [], [], none⟩, ⟨false, none, [], [], none⟩, ⟨false, none, [], [], none⟩, ⟨false, some [0, 1, 2, 3, 4, 5, 6, 7], [], [], none⟩] = some (c_impl_lowest, r_impl_lowest) := by kernel_rfl
def c_spec_l02Lowest : AC := seq (reg [⟨(some 4), alloc [.int .i64 0, .int .i64 0], none⟩, ⟨(some 5), mv (c (.int .i64 0)), none⟩]) (seq (seq (reg [⟨(some 8), mv (t 1), none⟩, ⟨(some 9), bin .lss (t 8) (c (.int .i64 0)), none⟩]) (cond (t 9) (seq (reg [⟨(some 10), mv (t 0), none⟩, ⟨(some 11), un .neg (t 10), none⟩, ⟨(some 0), mv (t 11), none⟩]) (reg [⟨(some 12), mv (t 1), none⟩, ⟨(some 13), un .neg (t 12), none⟩, ⟨(some 1), mv (t 13), none⟩])) (skip))) (seq (reg [⟨(some 14), mv (t 0), none⟩, ⟨(some 15), callq (c (.fn 122 [])) [t 14], none⟩, ⟨(some 16), mv (t 1), none⟩, ⟨(some 17), callq (c (.fn 121 [])) [t 15, t 16], none⟩, ⟨(some 6), mv (t 17), none⟩]) (seq (reg [⟨(some 18), mv (t 0), none⟩, ⟨(some 19), mv (t 6), none⟩, ⟨(some 20), bin .quo (t 18) (t 19), none⟩, ⟨(some 21), mv (t 1), none⟩, ⟨(some 22), mv (t 6), none⟩, ⟨(some 23), bin .quo (t 21) (t 22), none⟩, ⟨(some 24), bld [.int .i64 0, .int .i64 0] [(0, 1, t 20), (1, 1, t 23)], none⟩, ⟨(some 7), alloc [.int .i64 0, .int .i64 0], none⟩, ⟨none, st (t 7) 2 (t 24), none⟩]) (seq (seq (reg [⟨(some 25), fad (t 7) 0, none⟩, ⟨(some 26), ld (t 25) 1 false, none⟩, ⟨(some 27), callq (c (.fn 122 [])) [t 26], none⟩, ⟨(some 28), bin .gtr (t 27) (c (.int .i64 1000000000)), none⟩, ⟨(some 29), mv (t 28), none⟩, ⟨(some 30), fad (t 7) 1, some (29, false)⟩, ⟨(some 31), ld (t 30) 1 false, some (29, false)⟩, ⟨(some 32), bin .gtr (t 31) (c (.int .i64 1000000000)), some (29, false)⟩, ⟨(some 33), pick (t 29) (c (.bool true)) (t 32), none⟩]) (cond (t 33) (seq (reg [⟨(some 34), bld [.int .i64 0, .int .i64 0] [], none⟩, ⟨none, st (t 4) 2 (t 34), none⟩, ⟨(some 5), mv (c (.int .i64 3)), none⟩]) (ret)) (skip))) (seq (reg [⟨(some 35), ld (t 7) 2 true, none⟩, ⟨none, st (t 4) 2 (t 35), none⟩, ⟨(some 5), mv (c (.int .i64 0)), none⟩]) (ret))))))
def r_spec_l02Lowest : List ARes := [.cell 4 2 true, .tmp 5]
theorem k_spec_l02Lowest : acLin Go.Proofs.Tryz.prog 157 2 (inQ [121, 122] []) [⟨false, none, [], [], none⟩, ⟨false, none, [], [], none⟩, ⟨false, none, [], [], none⟩, ⟨false, none, [], [], none⟩, ⟨false, none, [], [], none⟩, ⟨false, some [0, 1, 2, 3, 4, 5, 6, 7, 8], [], [], none⟩] = some (c_spec_l02Lowest, r_spec_l02Lowest) := by kernel_rfl
def c_impl_Fraction_small : AC := seq (reg [⟨(some 1), box 2 (t 0), none⟩, ⟨(some 2), mv (c (.bool false)), none⟩]) (seq (reg [⟨(some 3), fad (t 1) 0, none⟩, ⟨(some 4), ld (t 3) 1 false, none⟩, ⟨(some 5), callq (c (.fn 187 [])) [t 4], none⟩, ⟨(some 6), bin .leq (t 5) (c (.int .i64 1000000000)), none⟩, ⟨(some 7), mv (t 6), none⟩, ⟨(some 8), fad (t 1) 1, some (7, true)⟩, ⟨(some 9), ld (t 8) 1 false, some (7, true)⟩, ⟨(some 10), bin .leq (t 9) (c (.int .i64 1000000000)), some (7, true)⟩, ⟨(some 11), pick (t 7) (t 10) (c (.bool false)), none⟩, ⟨(some 2), mv (t 11), none⟩]) (ret))
def r_impl_Fraction_small : List ARes := [.tmp 2]
theorem k_impl_Fraction_small : acLin Go.Proofs.Tryz.prog 168 1 (inQ [187] []) [] = some (c_impl_Fraction_small, r_impl_Fraction_small) := by kernel_rfl
def c_impl_sums_kept : AC := seq (reg [⟨(some 3), box 2 (t 1), none⟩, ⟨(some 4), alloc [.int .i64 0, .int .i64 0], none⟩]) (seq (seq (reg [⟨(some 5), ld (t 3) 2 true, none⟩, ⟨(some 6), callq (c (.fn 168 [])) [t 5], none⟩, ⟨(some 7), un .not (t 6), none⟩]) (cond (t 7) (seq (reg [⟨(some 8), mv (t 0), none⟩, ⟨(some 9), nilc (t 8), none⟩, ⟨(some 10), fad (t 9) 0, none⟩, ⟨none, st (t 10) 1 (c (.bool true)), none⟩]) (seq (reg [⟨(some 11), callq (c (.fn 89 [])) [], none⟩, ⟨none, st (t 4) 2 (t 11), none⟩]) (ret))) (skip))) (seq (reg [⟨(some 12), ld (t 3) 2 true, none⟩, ⟨none, st (t 4) 2 (t 12), none⟩]) (ret)))
def r_impl_sums_kept : List ARes := [.cell 4 2 true]
theorem k_impl_sums_kept : acLin Go.Proofs.Tryz.prog 138 2 (inQ [89, 168] []) [] = some (c_impl_sums_kept, r_impl_sums_kept) := by kernel_rfl
def c_impl_sums_add : AC := seq (reg [⟨(some 4), box 2 (t 1), none⟩, ⟨(some 5), box 2 (t 2), none⟩, ⟨(some 6), alloc [.int .i64 0, .int .i64 0], none⟩]) (seq (reg [⟨(some 7), mv (t 0), none⟩, ⟨(some 8), fad (t 4) 0, none⟩, ⟨(some 9), ld (t 8) 1 false, none⟩, ⟨(some 10), fad (t 5) 1, none⟩, ⟨(some 11), ld (t 10) 1 false, none⟩, ⟨(some 12), bin .mul (t 9) (t 11), none⟩, ⟨(some 13), fad (t 5) 0, none⟩, ⟨(some 14), ld (t 13) 1 false, none⟩, ⟨(some 15), fad (t 4) 1, none⟩, ⟨(some 16), ld (t 15) 1 false, none⟩, ⟨(some 17), bin .mul (t 14) (t 16), none⟩, ⟨(some 18), bin .add (t 12) (t 17), none⟩, ⟨(some 19), fad (t 4) 1, none⟩, ⟨(some 20), ld (t 19) 1 false, none⟩, ⟨(some 21), fad (t 5) 1, none⟩, ⟨(some 22), ld (t 21) 1 false, none⟩, ⟨(some 23), bin .mul (t 20) (t 22), none⟩, ⟨(some 24), callq (c (.fn 139 [])) [t 18, t 23], none⟩, ⟨(some 25), calle (c (.fn 138 [])) [t 7, t 24] [], none⟩, ⟨none, st (t 6) 2 (t 25), none⟩]) (ret))
def r_impl_sums_add : List ARes := [.cell 6 2 true]
theorem k_impl_sums_add : acLin Go.Proofs.Tryz.prog 91 3 (inQ [139] [138]) [] = some (c_impl_sums_add, r_impl_sums_add) := by kernel_rfl
def c_spec_l02Add : AC := seq (reg [⟨(some 2), box 2 (t 0), none⟩, ⟨(some 3), box 2 (t 1), none⟩, ⟨(some 4), alloc [.int .i64 0, .int .i64 0], none⟩, ⟨(some 5), mv (c (.int .i64 0)), none⟩]) (seq (reg [⟨(some 6), fad (t 2) 0, none⟩, ⟨(some 7), ld (t 6) 1 false, none⟩, ⟨(some 8), fad (t 3) 1, none⟩, ⟨(some 9), ld (t 8) 1 false, none⟩, ⟨(some 10), bin .mul (t 7) (t 9), none⟩, ⟨(some 11), fad (t 3) 0, none⟩, ⟨(some 12), ld (t 11) 1 false, none⟩, ⟨(some 13), fad (t 2) 1, none⟩, ⟨(some 14), ld (t 13) 1 false, none⟩, ⟨(some 15), bin .mul (t 12) (t 14), none⟩, ⟨(some 16), bin .add (t 10) (t 15), none⟩, ⟨(some 17), fad (t 2) 1, none⟩, ⟨(some 18), ld (t 17) 1 false, none⟩, ⟨(some 19), fad (t 3) 1, none⟩, ⟨(some 20), ld (t 19) 1 false, none⟩, ⟨(some 21), bin .mul (t 18) (t 20), none⟩, ⟨(some 22), callq (c (.fn 157 [])) [t 16, t 21], none⟩, ⟨(some 23), ext (t 22) 0, none⟩, ⟨(some 24), ext (t 22) 1, none⟩, ⟨none, st (t 4) 2 (t 23), none⟩, ⟨(some 5), mv (t 24), none⟩]) (ret))
def r_spec_l02Add : List ARes := [.cell 4 2 true, .tmp 5]
theorem k_spec_l02Add : acLin Go.Proofs.Tryz.prog 124 2 (inQ [157] []) [] = some (c_spec_l02Add, r_spec_l02Add) := by kernel_rfl
end Go.Proofs.YtlglgcmpeabdnaaGreatDoorAi
end

section
/- Contracts: fractions in lowest terms, sums, products. -/
namespace Go.Proofs.YtlglgcmpeabdnaaGreatDoorAi
open Go Go.RowKit
set_option linter.unusedVariables false
set_option linter.unusedSimpArgs false

/-- A quotient in lowest terms. -/
def lowP (p q : Int) : Int := (if q < 0 then -p else p).tdiv (Int.gcd p q)
def lowQ (p q : Int) : Int := (if q < 0 then -q else q).tdiv (Int.gcd p q)
theorem gcd_pos {p q : Int} (h : q ≠ 0) : (Int.gcd p q : Int) ≠ 0 := by
  have : 0 < Int.gcd p q := Int.gcd_pos_of_ne_zero_right _ h
  omega
theorem tdiv_small (a b : Int) : (a.tdiv b).natAbs ≤ a.natAbs := by
  rw [Int.natAbs_tdiv]
  exact Nat.div_le_self ..
theorem lowP_in {p q : Int} (h : in62 p) : in62 (lowP p q) := by
  unfold in62 lowP at *
  have := tdiv_small (if q < 0 then -p else p) (Int.gcd p q)
  split at this <;> rename_i hq <;> simp only [hq, if_true, if_false] <;> omega
theorem lowQ_in {p q : Int} (h : in62 q) : in62 (lowQ p q) := by
  unfold in62 lowQ at *
  have := tdiv_small (if q < 0 then -q else q) (Int.gcd p q)
  split at this <;> rename_i hq <;> simp only [hq, if_true, if_false] <;> omega
theorem wrap62 {n : Int} (h : in62 n) : IntKind.i64.wrap n = n := wrapI64 (by unfold in62 at h; omega) (by unfold in62 at h; omega)
noncomputable def sp_lowest : List AV → Option (AV) := pf (ι := (Int) × (Int)) (α := AV) (fun ⟨p, q⟩ => in62 p ∧ in62 q ∧ q ≠ 0) (fun ⟨p, q⟩ => [.int .i64 p, .int .i64 q]) (fun ⟨p, q⟩ => .agg [.int .i64 (lowP p q), .int .i64 (lowQ p q)])
theorem sp_lowest_eq (p q : Int) (h : in62 p ∧ in62 q ∧ q ≠ 0) : sp_lowest [.int .i64 p, .int .i64 q] = some (.agg [.int .i64 (lowP p q), .int .i64 (lowQ p q)]) := by
  unfold sp_lowest
  exact pf_eq (ι := (Int) × (Int)) (α := AV) (p, q) h (by rintro ⟨p', q'⟩ _ e; simp_all [Int.natCast_inj])
theorem q_impl_lowest : QP PP 139 sp_lowest := by
  refine QP_pf (fun i h => ?_) fun i h => ?_
  · obtain ⟨p, q⟩ := i; exact ⟨by first | rfl | simp, by first | rfl | simp⟩
  obtain ⟨p, q⟩ := i
  replace h : in62 p ∧ in62 q ∧ q ≠ 0 := h
  refine P_code (Quiet.q1 q_impl_gcd Quiet.nil) hmix k_impl_lowest rfl ?_ ?_
  · first | rfl | simp
  show wpc 0 PP _ c_impl_lowest (initSt [.int .i64 p, .int .i64 q] .nil) (endP r_impl_lowest (.agg [.int .i64 (lowP p q), .int .i64 (lowQ p q)]))
  obtain ⟨hp, hq, h0⟩ := h
  have g0 := gcd_pos (p := p) h0
  have w1 := wrap62 (lowP_in (q := q) hp)
  have w2 := wrap62 (lowQ_in (p := p) hq)
  simp -dsimp -implicitDefEqProofs [c_impl_lowest, r_impl_lowest, sp_gcd_eq p q ⟨hp, hq⟩]
  by_cases hn : q < 0
  · have hg : in62 (Int.gcd p q) := by
      have := Int.gcd_le_natAbs_right (a := p) h0
      unfold in62 at *
      omega
    have w3 : IntKind.i64.wrap (-(Int.gcd p q : Int)) = -(Int.gcd p q : Int) := wrapI64 (by unfold in62 at hg; omega) (by unfold in62 at hg; omega)
    have g0' : ¬ (-(Int.gcd p q : Int)) = 0 := by omega
    have r1 : -(p.tdiv (Int.gcd p q)) = lowP p q := by unfold lowP; rw [if_pos hn, Int.neg_tdiv]
    have r2 : -(q.tdiv (Int.gcd p q)) = lowQ p q := by unfold lowQ; rw [if_pos hn, Int.neg_tdiv]
    simp -dsimp -implicitDefEqProofs [hn, w3, g0', r1, r2, w1, w2, h0]
  · have r1 : p.tdiv (Int.gcd p q) = lowP p q := by unfold lowP; rw [if_neg hn]
    have r2 : q.tdiv (Int.gcd p q) = lowQ p q := by unfold lowQ; rw [if_neg hn]
    simp -dsimp -implicitDefEqProofs [hn, r1, r2, w1, w2, h0]

def smallB (p q : Int) : Bool := decide (p.natAbs ≤ 1000000000) && decide (q ≤ 1000000000)
def lowO (p q : Int) : Option Fr := if smallB (lowP p q) (lowQ p q) = true then some ⟨lowP p q, lowQ p q⟩ else none
/-- A fraction with a code. -/
def frO : Option Fr → AV
  | some x => .tup [frA x, .int .i64 0]
  | none => .tup [.agg [.int .i64 0, .int .i64 0], .int .i64 3]
theorem frO_lt (x : Option Fr) (n : Nat) : (frO x).lt n = true := by cases x <;> rfl
@[simp] theorem frO_ren (x : Option Fr) (f : Nat → Nat) : (frO x).ren f = frO x := by cases x <;> rfl
@[simp] theorem frO_lt' (x : Option Fr) (n : Nat) : (frO x).lt n = true := frO_lt x n
noncomputable def sp_lowO : List AV → Option (AV) := pf (ι := (Int) × (Int)) (α := AV) (fun ⟨p, q⟩ => in62 p ∧ in62 q ∧ q ≠ 0) (fun ⟨p, q⟩ => [.int .i64 p, .int .i64 q]) (fun ⟨p, q⟩ => frO (lowO p q))
theorem sp_lowO_eq (p q : Int) (h : in62 p ∧ in62 q ∧ q ≠ 0) : sp_lowO [.int .i64 p, .int .i64 q] = some (frO (lowO p q)) := by
  unfold sp_lowO
  exact pf_eq (ι := (Int) × (Int)) (α := AV) (p, q) h (by rintro ⟨p', q'⟩ _ e; simp_all [Int.natCast_inj])
theorem q_spec_l02Lowest : QP PP 157 sp_lowO := by
  refine QP_pf (fun i h => ?_) fun i h => ?_
  · obtain ⟨p, q⟩ := i; exact ⟨by first | rfl | simp, by first | rfl | simp⟩
  obtain ⟨p, q⟩ := i
  replace h : in62 p ∧ in62 q ∧ q ≠ 0 := h
  refine P_code (Quiet.q1 q_spec_l02Abs (Quiet.q1 q_spec_l02Common Quiet.nil)) hmix k_spec_l02Lowest rfl ?_ ?_
  · first | rfl | simp
  show wpc 0 PP _ c_spec_l02Lowest (initSt [.int .i64 p, .int .i64 q] .nil) (endP r_spec_l02Lowest (frO (lowO p q)))
  obtain ⟨hp, hq, h0⟩ := h
  have g0 := gcd_pos (p := p) h0
  have b1 := lowP_in (q := q) hp
  have b2 := lowQ_in (p := p) hq
  have w1 := wrap62 b1
  have w2 := wrap62 b2
  by_cases hn : q < 0
  · have n1 : in62 (-p) := by unfold in62 at *; omega
    have n2 : in62 (-q) := by unfold in62 at *; omega
    have d1 := sp_size_eq (-p) n1
    rw [Int.natAbs_neg] at d1
    have d2 := sp_common_eq (p.natAbs : Int) (-q) (by unfold in62 at *; omega)
    rw [gcd_abs, Int.gcd_neg] at d2
    have r1 : -(p.tdiv (Int.gcd p q)) = lowP p q := by unfold lowP; rw [if_pos hn, Int.neg_tdiv]
    have r2 : -(q.tdiv (Int.gcd p q)) = lowQ p q := by unfold lowQ; rw [if_pos hn, Int.neg_tdiv]
    simp -dsimp -implicitDefEqProofs [c_spec_l02Lowest, r_spec_l02Lowest, hn, h0, wrap62 n1, wrap62 n2, d1, d2, g0, r1, r2, w1, w2, sp_size_eq _ b1]
    by_cases c1 : (lowP p q).natAbs ≤ 1000000000
    · have c1' : ¬ (1000000000 : Int) < (lowP p q).natAbs := by omega
      by_cases c : lowQ p q ≤ 1000000000
      · have c' : ¬ 1000000000 < lowQ p q := by omega
        simp -dsimp -implicitDefEqProofs [c1', c', frO, lowO, smallB, c1, c]
      · have c' : 1000000000 < lowQ p q := by omega
        simp -dsimp -implicitDefEqProofs [c1', c', frO, lowO, smallB, c1, c]
    · have c1' : (1000000000 : Int) < (lowP p q).natAbs := by omega
      simp -dsimp -implicitDefEqProofs [c1', frO, lowO, smallB, c1]
  · have d1 := sp_size_eq p hp
    have d2 := sp_common_eq (p.natAbs : Int) q (by unfold in62 at *; omega)
    rw [gcd_abs] at d2
    have r1 : p.tdiv (Int.gcd p q) = lowP p q := by unfold lowP; rw [if_neg hn]
    have r2 : q.tdiv (Int.gcd p q) = lowQ p q := by unfold lowQ; rw [if_neg hn]
    simp -dsimp -implicitDefEqProofs [c_spec_l02Lowest, r_spec_l02Lowest, hn, d1, d2, g0, r1, r2, w1, w2, sp_size_eq _ b1, h0]
    by_cases c1 : (lowP p q).natAbs ≤ 1000000000
    · have c1' : ¬ (1000000000 : Int) < (lowP p q).natAbs := by omega
      by_cases c : lowQ p q ≤ 1000000000
      · have c' : ¬ 1000000000 < lowQ p q := by omega
        simp -dsimp -implicitDefEqProofs [c1', c', frO, lowO, smallB, c1, c]
      · have c' : 1000000000 < lowQ p q := by omega
        simp -dsimp -implicitDefEqProofs [c1', c', frO, lowO, smallB, c1, c]
    · have c1' : (1000000000 : Int) < (lowP p q).natAbs := by omega
      simp -dsimp -implicitDefEqProofs [c1', frO, lowO, smallB, c1]

end Go.Proofs.YtlglgcmpeabdnaaGreatDoorAi
end

section
/- Contracts: sums and products of fractions. -/
namespace Go.Proofs.YtlglgcmpeabdnaaGreatDoorAi
open Go Go.RowKit
set_option linter.unusedVariables false
set_option linter.unusedSimpArgs false

def frIn (p q : Int) : Prop := (-1000000000 ≤ p ∧ p ≤ 1000000000) ∧ (1 ≤ q ∧ q ≤ 1000000000)
theorem mul_small {a b : Int} (ha : a.natAbs ≤ 1000000000) (hb : b.natAbs ≤ 1000000000) : -1000000000000000000 ≤ a * b ∧ a * b ≤ 1000000000000000000 := by
  have h : (a * b).natAbs ≤ 1000000000 * 1000000000 := by rw [Int.natAbs_mul]; exact Nat.mul_le_mul ha hb
  omega
def valO (o : Option Fr) : Fr := o.getD ⟨0, 1⟩
def addO (p q p' q' : Int) : Option Fr := lowO (p * q' + p' * q) (q * q')
theorem lowQ_pos {p q : Int} (h : q ≠ 0) : 1 ≤ lowQ p q := by
  have hd : (Int.gcd p q : Int) ∣ q := Int.gcd_dvd_right ..
  have hg : 0 < Int.gcd p q := Int.gcd_pos_of_ne_zero_right _ h
  have h2 : (Int.gcd p q : Int) ∣ (if q < 0 then -q else q) := by
    split
    · exact (Int.dvd_neg).2 hd
    · exact hd
  obtain ⟨k, hk⟩ := h2
  have hpos : 0 < (if q < 0 then -q else q) := by split <;> omega
  have hkp : 0 < k := by
    rw [hk] at hpos
    rcases Int.lt_trichotomy k 0 with h0 | h0 | h0
    · have := Int.mul_neg_of_pos_of_neg (a := (Int.gcd p q : Int)) (b := k) (by omega) h0; omega
    · rw [h0] at hpos; simp at hpos
    · exact h0
  unfold lowQ
  rw [hk, Int.mul_comm, Int.mul_tdiv_cancel _ (by omega)]
  omega
theorem lowO_in {p q : Int} (h : q ≠ 0) {x : Fr} (e : lowO p q = some x) : frIn x.p x.q := by
  unfold lowO smallB at e
  split at e
  · rename_i hs
    obtain rfl := Option.some.inj e
    simp at hs
    have := lowQ_pos (p := p) h
    unfold frIn
    simp only
    omega
  · cases e
theorem valO_in {p q : Int} (h : q ≠ 0) : frIn (valO (lowO p q)).p (valO (lowO p q)).q := by
  cases e : lowO p q with
  | none => unfold frIn valO; decide
  | some x => exact lowO_in h e
theorem add_pre {p q p' q' : Int} (h : frIn p q) (h' : frIn p' q') : in62 (p * q' + p' * q) ∧ in62 (q * q') ∧ q * q' ≠ 0 ∧ IntKind.i64.wrap (p * q') = p * q' ∧ IntKind.i64.wrap (p' * q) = p' * q ∧ IntKind.i64.wrap (p * q' + p' * q) = p * q' + p' * q ∧ IntKind.i64.wrap (q * q') = q * q' := by
  unfold frIn at *
  have a1 := mul_small (a := p) (b := q') (by omega) (by omega)
  have a2 := mul_small (a := p') (b := q) (by omega) (by omega)
  have a3 := mul_small (a := q) (b := q') (by omega) (by omega)
  have a4 : 0 < q * q' := Int.mul_pos (by omega) (by omega)
  exact ⟨by unfold in62; omega, by unfold in62; omega, by omega, wrapI64 (by omega) (by omega), wrapI64 (by omega) (by omega), wrapI64 (by omega) (by omega), wrapI64 (by omega) (by omega)⟩
noncomputable def sp_small : List AV → Option (AV) := pf (ι := (Int) × (Int)) (α := AV) (fun ⟨p, q⟩ => in62 p) (fun ⟨p, q⟩ => [.agg [.int .i64 p, .int .i64 q]]) (fun ⟨p, q⟩ => .bool (smallB p q))
theorem sp_small_eq (p q : Int) (h : in62 p) : sp_small [.agg [.int .i64 p, .int .i64 q]] = some (.bool (smallB p q)) := by
  unfold sp_small
  exact pf_eq (ι := (Int) × (Int)) (α := AV) (p, q) h (by rintro ⟨p', q'⟩ _ e; simp_all [Int.natCast_inj])
theorem q_impl_Fraction_small : QP PP 168 sp_small := by
  refine QP_pf (fun i h => ?_) fun i h => ?_
  · obtain ⟨p, q⟩ := i; exact ⟨by first | rfl | simp, by first | rfl | simp⟩
  obtain ⟨p, q⟩ := i
  replace h : in62 p := h
  refine P_code (Quiet.q1 q_impl_size Quiet.nil) hmix k_impl_Fraction_small rfl ?_ ?_
  · first | rfl | simp
  show wpc 0 PP _ c_impl_Fraction_small (initSt [.agg [.int .i64 p, .int .i64 q]] .nil) (endP r_impl_Fraction_small (.bool (smallB p q)))
  simp -dsimp -implicitDefEqProofs [c_impl_Fraction_small, r_impl_Fraction_small, sp_size_eq p h]
  by_cases e1 : p.natAbs ≤ 1000000000
  · have e1' : (p.natAbs : Int) ≤ 1000000000 := by omega
    simp -dsimp -implicitDefEqProofs [e1', smallB, e1]
  · have e1' : ¬ (p.natAbs : Int) ≤ 1000000000 := by omega
    simp -dsimp -implicitDefEqProofs [e1', smallB, e1]
def keepF (p q : Int) : Fr := if smallB p q = true then ⟨p, q⟩ else ⟨0, 1⟩
noncomputable def sp_kept : List AV → List AV → Option (AV × List AV) := pm (pf (ι := (Bool) × (Int) × (Int)) (α := AV × List AV) (fun ⟨g, p, q⟩ => in62 p) (fun i => .agg ((fun ⟨g, p, q⟩ => [.bool g] : (Bool) × (Int) × (Int) → List AV) i) :: (fun ⟨g, p, q⟩ => [.agg [.int .i64 p, .int .i64 q]] : (Bool) × (Int) × (Int) → List AV) i) (fun ⟨g, p, q⟩ => (frA (keepF p q), [.bool (g || !smallB p q)])))
theorem sp_kept_eq (g : Bool) (p q : Int) (h : in62 p) : sp_kept [.bool g] [.agg [.int .i64 p, .int .i64 q]] = some (frA (keepF p q), [.bool (g || !smallB p q)]) := by
  unfold sp_kept pm
  exact pf_eq (ι := (Bool) × (Int) × (Int)) (α := AV × List AV) (g, p, q) h (by rintro ⟨g', p', q'⟩ _ e; simp_all [Int.natCast_inj])
theorem m_impl_sums_kept : QM PP 138 sp_kept := by
  refine QM_pf (fun i h => ?_) fun i h => ?_
  · obtain ⟨g, p, q⟩ := i; exact ⟨⟨by first | rfl | simp, by first | rfl | simp⟩, by first | rfl | simp, by first | rfl | simp⟩
  obtain ⟨g, p, q⟩ := i
  replace h : in62 p := h
  refine H_code (Quiet.q1 q_impl_Fraction_small (Quiet.q1 q_impl_zero Quiet.nil)) hmix k_impl_sums_kept rfl (fun b => b) (Nat.le_refl _) (fun _ _ => rfl) rfl (by first | rfl | simp) ?_
  show wpc 1 PP _ c_impl_sums_kept (initSt [.ptr 0 0, .agg [.int .i64 p, .int .i64 q]] ⟨[some [.bool g]]⟩) (endH (fun b => b) r_impl_sums_kept (frA (keepF p q)) [some [.bool (g || !smallB p q)]])
  simp -dsimp -implicitDefEqProofs [c_impl_sums_kept, r_impl_sums_kept, sp_small_eq p q h]
  cases e : smallB p q <;> simp -dsimp -implicitDefEqProofs [keepF, e, hsub]
theorem keepF_low (p q : Int) : keepF (lowP p q) (lowQ p q) = valO (lowO p q) := by unfold keepF valO lowO; split <;> rfl
theorem small_low (p q : Int) : (!smallB (lowP p q) (lowQ p q)) = (lowO p q).isNone := by unfold lowO; split <;> simp_all

noncomputable def sp_add : List AV → List AV → Option (AV × List AV) := pm (pf (ι := (Bool) × (Int) × (Int) × (Int) × (Int)) (α := AV × List AV) (fun ⟨g, p, q, p', q'⟩ => frIn p q ∧ frIn p' q') (fun i => .agg ((fun ⟨g, p, q, p', q'⟩ => [.bool g] : (Bool) × (Int) × (Int) × (Int) × (Int) → List AV) i) :: (fun ⟨g, p, q, p', q'⟩ => [.agg [.int .i64 p, .int .i64 q], .agg [.int .i64 p', .int .i64 q']] : (Bool) × (Int) × (Int) × (Int) × (Int) → List AV) i) (fun ⟨g, p, q, p', q'⟩ => (frA (valO (addO p q p' q')), [.bool (g || (addO p q p' q').isNone)])))
theorem sp_add_eq (g : Bool) (p q p' q' : Int) (h : frIn p q ∧ frIn p' q') : sp_add [.bool g] [.agg [.int .i64 p, .int .i64 q], .agg [.int .i64 p', .int .i64 q']] = some (frA (valO (addO p q p' q')), [.bool (g || (addO p q p' q').isNone)]) := by
  unfold sp_add pm
  exact pf_eq (ι := (Bool) × (Int) × (Int) × (Int) × (Int)) (α := AV × List AV) (g, p, q, p', q') h (by rintro ⟨g', p', q', p'', q''⟩ _ e; simp_all [Int.natCast_inj])
theorem m_impl_sums_add : QM PP 91 sp_add := by
  refine QM_pf (fun i h => ?_) fun i h => ?_
  · obtain ⟨g, p, q, p', q'⟩ := i; exact ⟨⟨by first | rfl | simp, by first | rfl | simp⟩, by first | rfl | simp, by first | rfl | simp⟩
  obtain ⟨g, p, q, p', q'⟩ := i
  replace h : frIn p q ∧ frIn p' q' := h
  refine H_code (Quiet.q1 q_impl_lowest (Quiet.e1 m_impl_sums_kept.toE Quiet.nil)) hmix k_impl_sums_add rfl (fun b => b) (Nat.le_refl _) (fun _ _ => rfl) rfl (by first | rfl | simp) ?_
  show wpc 1 PP _ c_impl_sums_add (initSt [.ptr 0 0, .agg [.int .i64 p, .int .i64 q], .agg [.int .i64 p', .int .i64 q']] ⟨[some [.bool g]]⟩) (endH (fun b => b) r_impl_sums_add (frA (valO (addO p q p' q'))) [some [.bool (g || (addO p q p' q').isNone)]])
  obtain ⟨d1, d2, d3, w1, w2, w3, w4⟩ := add_pre h.1 h.2
  simp -dsimp -implicitDefEqProofs [c_impl_sums_add, r_impl_sums_add, w1, w2, w3, w4, sp_lowest_eq _ _ ⟨d1, d2, d3⟩, sp_kept_eq _ _ _ (lowP_in d1), hsub, keepF_low, small_low, addO]
def toldA (g : Bool) (p q : Int) : AV := if g = true then .tup [.agg [.int .i64 0, .int .i64 0], .int .i64 3] else .tup [.agg [.int .i64 p, .int .i64 q], .int .i64 0]
@[simp] theorem toldA_ren (g : Bool) (p q : Int) (f : Nat → Nat) : (toldA g p q).ren f = toldA g p q := by cases g <;> rfl
@[simp] theorem toldA_lt (g : Bool) (p q : Int) (n : Nat) : (toldA g p q).lt n = true := by cases g <;> rfl
noncomputable def sp_told : List AV → List AV → Option (AV × List AV) := pm (pf (ι := (Bool) × (Int) × (Int)) (α := AV × List AV) (fun ⟨g, p, q⟩ => True) (fun i => .agg ((fun ⟨g, p, q⟩ => [.bool g] : (Bool) × (Int) × (Int) → List AV) i) :: (fun ⟨g, p, q⟩ => [.agg [.int .i64 p, .int .i64 q]] : (Bool) × (Int) × (Int) → List AV) i) (fun ⟨g, p, q⟩ => (toldA g p q, [.bool g])))
theorem sp_told_eq (g : Bool) (p q : Int) : sp_told [.bool g] [.agg [.int .i64 p, .int .i64 q]] = some (toldA g p q, [.bool g]) := by
  unfold sp_told pm
  exact pf_eq (ι := (Bool) × (Int) × (Int)) (α := AV × List AV) (g, p, q) trivial (by rintro ⟨g', p', q'⟩ _ e; simp_all [Int.natCast_inj])
attribute [simp] sp_told_eq
noncomputable def sp_l02Add : List AV → Option (AV) := pf (ι := (Int) × (Int) × (Int) × (Int)) (α := AV) (fun ⟨p, q, p', q'⟩ => frIn p q ∧ frIn p' q') (fun ⟨p, q, p', q'⟩ => [.agg [.int .i64 p, .int .i64 q], .agg [.int .i64 p', .int .i64 q']]) (fun ⟨p, q, p', q'⟩ => frO (addO p q p' q'))
theorem sp_l02Add_eq (p q p' q' : Int) (h : frIn p q ∧ frIn p' q') : sp_l02Add [.agg [.int .i64 p, .int .i64 q], .agg [.int .i64 p', .int .i64 q']] = some (frO (addO p q p' q')) := by
  unfold sp_l02Add
  exact pf_eq (ι := (Int) × (Int) × (Int) × (Int)) (α := AV) (p, q, p', q') h (by rintro ⟨p', q', p'', q''⟩ _ e; simp_all [Int.natCast_inj])
theorem q_spec_l02Add : QP PP 124 sp_l02Add := by
  refine QP_pf (fun i h => ?_) fun i h => ?_
  · obtain ⟨p, q, p', q'⟩ := i; exact ⟨by first | rfl | simp, by first | rfl | simp⟩
  obtain ⟨p, q, p', q'⟩ := i
  replace h : frIn p q ∧ frIn p' q' := h
  refine P_code (Quiet.q1 q_spec_l02Lowest Quiet.nil) hmix k_spec_l02Add rfl ?_ ?_
  · first | rfl | simp
  show wpc 0 PP _ c_spec_l02Add (initSt [.agg [.int .i64 p, .int .i64 q], .agg [.int .i64 p', .int .i64 q']] .nil) (endP r_spec_l02Add (frO (addO p q p' q')))
  obtain ⟨d1, d2, d3, w1, w2, w3, w4⟩ := add_pre h.1 h.2
  simp -dsimp -implicitDefEqProofs [c_spec_l02Add, r_spec_l02Add, w1, w2, w3, w4, sp_lowO_eq _ _ ⟨d1, d2, d3⟩, addO]
  cases lowO (p * q' + p' * q) (q * q') <;> simp -dsimp -implicitDefEqProofs [frO]
end Go.Proofs.YtlglgcmpeabdnaaGreatDoorAi
end

section
/- Contracts: products of lists, sums of lists. -/
namespace Go.Proofs.YtlglgcmpeabdnaaGreatDoorAi
open Go Go.RowKit
set_option linter.unusedVariables false
set_option linter.unusedSimpArgs false

def allIn (l : List Fr) : Prop := ∀ x ∈ l, frIn x.p x.q
theorem allIn.get {l : List Fr} (h : allIn l) {i : Nat} (hi : i < l.length) : frIn l[i].p l[i].q := h _ (List.getElem_mem hi)
theorem drop_cons {α : Type} {l : List α} {i : Nat} (h : i < l.length) : l.drop i = l[i] :: l.drop (i + 1) := by simp
theorem drop_end {α : Type} {l : List α} {i : Nat} (h : ¬ i < l.length) : l.drop i = [] := List.drop_eq_nil_of_le (by omega)
def add2 (x y : Fr) : Option Fr := addO x.p x.q y.p y.q
theorem add2_in {x y : Fr} (h1 : frIn x.p x.q) (h2 : frIn y.p y.q) : frIn (valO (add2 x y)).p (valO (add2 x y)).q := valO_in (add_pre h1 h2).2.2.1
theorem add2_some {x y z : Fr} (h1 : frIn x.p x.q) (h2 : frIn y.p y.q) (e : add2 x y = some z) : frIn z.p z.q := lowO_in (add_pre h1 h2).2.2.1 e
theorem zero_in : frIn 0 1 := by unfold frIn; decide

def allOk (l : List Fr) : Bool := l.all fun x => frOk x.p x.q
theorem frOk_in {p q : Int} (h : frOk p q = true) : frIn p q := by
  have := of_decide_eq_true h
  unfold frIn
  exact ⟨this.1, this.2.1⟩
theorem allOk_in {l : List Fr} (h : allOk l = true) : allIn l := fun x hx => frOk_in (List.all_eq_true.1 h x hx)
theorem allOk_false {l : List Fr} {i : Nat} (h : i < l.length) (hf : frOk l[i].p l[i].q = false) : allOk l = false := by
  unfold allOk
  rw [List.all_eq_false]
  exact ⟨l[i], List.getElem_mem h, by simp [hf]⟩
theorem allOk_step {l : List Fr} {i : Nat} (h : i < l.length) (h1 : allOk (l.take i) = true) (h2 : frOk l[i].p l[i].q = true) : allOk (l.take (i + 1)) = true := by
  rw [take_snoc l i h]
  unfold allOk at *
  rw [List.all_append, h1]
  simp [h2]

end Go.Proofs.YtlglgcmpeabdnaaGreatDoorAi
end

section
/- MADE BY PROGRAM (wip/tools/gen.py): the abstract code of functions. -/
namespace Go.Proofs.YtlglgcmpeabdnaaGreatDoorAi
open Go AC AOp Opd
set_option linter.unusedVariables false
set_option maxRecDepth 100000
def c_spec_l02List : AC := seq (reg [⟨(some 2), mv (c (.bool false)), none⟩]) (seq (seq (reg [⟨(some 3), mv (c (.int .i64 0)), none⟩]) (block 0 (loop (seq (seq (reg [⟨(some 4), mv (t 3), none⟩, ⟨(some 5), mv (t 0), none⟩, ⟨(some 6), len (t 5), none⟩, ⟨(some 7), bin .lss (t 4) (t 6), none⟩]) (cond (t 7) (skip) (exit 0))) (seq (block 1 (seq (reg [⟨(some 10), mv (t 0), none⟩, ⟨(some 11), mv (t 3), none⟩, ⟨(some 12), iad 2 (t 10) (t 11), none⟩, ⟨(some 13), ld (t 12) 2 true, none⟩, ⟨(some 14), callq (c (.fn 70 [])) [t 13], none⟩, ⟨(some 15), un .not (t 14), none⟩]) (cond (t 15) (seq (reg [⟨(some 2), mv (c (.bool false)), none⟩]) (ret)) (skip)))) (reg [⟨(some 8), mv (t 3), none⟩, ⟨(some 9), bin .add (t 8) (c (.int .i64 1)), none⟩, ⟨(some 3), mv (t 9), none⟩])))))) (seq (reg [⟨(some 16), mv (t 0), none⟩, ⟨(some 17), len (t 16), none⟩, ⟨(some 18), bin .leq (t 17) (c (.int .i64 256)), none⟩, ⟨(some 2), mv (t 18), none⟩]) (ret)))
def r_spec_l02List : List ARes := [.tmp 2]
theorem k_spec_l02List : acLin Go.Proofs.Tryz.prog 74 1 (inQ [70] []) [] = some (c_spec_l02List, r_spec_l02List) := by kernel_rfl
def c_spec_SumOfFractions : AC := seq (reg [⟨(some 2), alloc [.int .i64 0, .int .i64 0], none⟩, ⟨(some 3), mv (c (.int .i64 0)), none⟩]) (seq (seq (reg [⟨(some 8), mv (t 0), none⟩, ⟨(some 9), callq (c (.fn 74 [])) [t 8], none⟩, ⟨(some 10), un .not (t 9), none⟩]) (cond (t 10) (seq (reg [⟨(some 11), bld [.int .i64 0, .int .i64 0] [], none⟩, ⟨none, st (t 2) 2 (t 11), none⟩, ⟨(some 3), mv (c (.int .i64 1)), none⟩]) (ret)) (skip))) (seq (reg [⟨(some 12), callq (c (.fn 123 [])) [], none⟩, ⟨(some 4), alloc [.int .i64 0, .int .i64 0], none⟩, ⟨none, st (t 4) 2 (t 12), none⟩]) (seq (seq (reg [⟨(some 5), mv (c (.int .i64 0)), none⟩]) (block 0 (loop (seq (seq (reg [⟨(some 13), mv (t 5), none⟩, ⟨(some 14), mv (t 0), none⟩, ⟨(some 15), len (t 14), none⟩, ⟨(some 16), bin .lss (t 13) (t 15), none⟩]) (cond (t 16) (skip) (exit 0))) (seq (block 1 (seq (reg [⟨(some 20), ld (t 4) 2 true, none⟩, ⟨(some 21), mv (t 0), none⟩, ⟨(some 22), mv (t 5), none⟩, ⟨(some 23), iad 2 (t 21) (t 22), none⟩, ⟨(some 24), ld (t 23) 2 true, none⟩, ⟨(some 25), callq (c (.fn 124 [])) [t 20, t 24], none⟩, ⟨(some 19), mv (t 25), none⟩, ⟨(some 26), ext (t 19) 0, none⟩, ⟨(some 27), ext (t 19) 1, none⟩, ⟨(some 6), alloc [.int .i64 0, .int .i64 0], none⟩, ⟨none, st (t 6) 2 (t 26), none⟩, ⟨(some 7), mv (t 27), none⟩]) (seq (seq (reg [⟨(some 28), mv (t 7), none⟩, ⟨(some 29), bin .neq (t 28) (c (.int .i64 0)), none⟩]) (cond (t 29) (seq (reg [⟨(some 30), bld [.int .i64 0, .int .i64 0] [], none⟩, ⟨(some 31), mv (t 7), none⟩, ⟨none, st (t 2) 2 (t 30), none⟩, ⟨(some 3), mv (t 31), none⟩]) (ret)) (skip))) (reg [⟨(some 32), ld (t 6) 2 true, none⟩, ⟨none, st (t 4) 2 (t 32), none⟩])))) (reg [⟨(some 17), mv (t 5), none⟩, ⟨(some 18), bin .add (t 17) (c (.int .i64 1)), none⟩, ⟨(some 5), mv (t 18), none⟩])))))) (seq (reg [⟨(some 33), ld (t 4) 2 true, none⟩, ⟨none, st (t 2) 2 (t 33), none⟩, ⟨(some 3), mv (c (.int .i64 0)), none⟩]) (ret)))))
def r_spec_SumOfFractions : List ARes := [.cell 2 2 true, .tmp 3]
theorem k_spec_SumOfFractions : acLin Go.Proofs.Tryz.prog 75 1 (inQ [74, 123, 124] []) [⟨false, none, [], [], none⟩, ⟨false, none, [], [], none⟩, ⟨false, none, [], [], none⟩, ⟨false, none, [], [], none⟩, ⟨false, none, [], [], none⟩, ⟨false, none, [], [], none⟩, ⟨false, none, [], [], none⟩, ⟨false, none, [], [], none⟩, ⟨false, some [0, 1, 2, 3, 4, 5, 6, 7, 8, 9, 10, 11], [], [], none⟩] = some (c_spec_SumOfFractions, r_spec_SumOfFractions) := by kernel_rfl
def c_impl_shapeOk : AC := seq (reg [⟨(some 2), box 2 (t 0), none⟩, ⟨(some 4), mv (c (.bool false)), none⟩]) (seq (reg [⟨(some 5), ld (t 2) 2 true, none⟩, ⟨(some 6), callq (c (.fn 137 [])) [t 5], none⟩, ⟨(some 7), mv (t 6), none⟩, ⟨(some 8), fad (t 2) 0, some (7, true)⟩, ⟨(some 9), ld (t 8) 1 false, some (7, true)⟩, ⟨(some 10), callq (c (.fn 37 [])) [t 9, c (.int .i64 1), c (.int .i64 4)], some (7, true)⟩, ⟨(some 11), pick (t 7) (t 10) (c (.bool false)), none⟩, ⟨(some 12), mv (t 11), none⟩, ⟨(some 13), mv (t 1), some (12, true)⟩, ⟨(some 14), fad (t 2) 0, some (12, true)⟩, ⟨(some 15), ld (t 14) 1 false, some (12, true)⟩, ⟨(some 16), bin .shr (t 13) (t 15), some (12, true)⟩, ⟨(some 17), bin .eql (t 16) (c (.int .u32 0)), some (12, true)⟩, ⟨(some 18), pick (t 12) (t 17) (c (.bool false)), none⟩, ⟨(some 4), mv (t 18), none⟩]) (ret))
def r_impl_shapeOk : List ARes := [.tmp 4]
theorem k_impl_shapeOk : acLin Go.Proofs.Tryz.prog 88 2 (inQ [37, 137] []) [] = some (c_impl_shapeOk, r_impl_shapeOk) := by kernel_rfl
def c_spec_l07Form : AC := seq (reg [⟨(some 2), box 2 (t 0), none⟩, ⟨(some 4), mv (c (.bool false)), none⟩]) (seq (reg [⟨(some 5), fad (t 2) 0, none⟩, ⟨(some 6), ld (t 5) 1 false, none⟩, ⟨(some 7), callq (c (.fn 98 [])) [t 6, c (.int .i64 1), c (.int .i64 4)], none⟩, ⟨(some 8), mv (t 7), none⟩, ⟨(some 9), mv (t 1), some (8, true)⟩, ⟨(some 10), conv .i64 (t 9), some (8, true)⟩, ⟨(some 11), fad (t 2) 0, some (8, true)⟩, ⟨(some 12), ld (t 11) 1 false, some (8, true)⟩, ⟨(some 13), conv .u64 (t 12), some (8, true)⟩, ⟨(some 14), bin .shl (c (.int .i64 1)) (t 13), some (8, true)⟩, ⟨(some 15), bin .lss (t 10) (t 14), some (8, true)⟩, ⟨(some 16), pick (t 8) (t 15) (c (.bool false)), none⟩, ⟨(some 4), mv (t 16), none⟩]) (ret))
def r_spec_l07Form : List ARes := [.tmp 4]
theorem k_spec_l07Form : acLin Go.Proofs.Tryz.prog 73 2 (inQ [98] []) [] = some (c_spec_l07Form, r_spec_l07Form) := by kernel_rfl
def c_spec_l07Ok : AC := seq (reg [⟨(some 2), mv (c (.bool false)), none⟩]) (seq (seq (reg [⟨(some 6), mv (t 0), none⟩, ⟨(some 7), nilc (t 6), none⟩, ⟨(some 8), fad (t 7) 0, none⟩, ⟨(some 9), ld (t 8) 2 true, none⟩, ⟨(some 10), callq (c (.fn 72 [])) [t 9], none⟩, ⟨(some 11), un .not (t 10), none⟩, ⟨(some 12), mv (t 11), none⟩, ⟨(some 13), mv (t 0), some (12, false)⟩, ⟨(some 14), nilc (t 13), some (12, false)⟩, ⟨(some 15), fad (t 14) 0, some (12, false)⟩, ⟨(some 16), ld (t 15) 2 true, some (12, false)⟩, ⟨(some 17), mv (t 0), some (12, false)⟩, ⟨(some 18), nilc (t 17), some (12, false)⟩, ⟨(some 19), fad (t 18) 2, some (12, false)⟩, ⟨(some 20), ld (t 19) 1 false, some (12, false)⟩, ⟨(some 21), callq (c (.fn 73 [])) [t 16, t 20], some (12, false)⟩, ⟨(some 22), un .not (t 21), some (12, false)⟩, ⟨(some 23), pick (t 12) (c (.bool true)) (t 22), none⟩, ⟨(some 24), mv (t 23), none⟩, ⟨(some 25), mv (t 0), some (24, false)⟩, ⟨(some 26), nilc (t 25), some (24, false)⟩, ⟨(some 27), fad (t 26) 3, some (24, false)⟩, ⟨(some 28), ld (t 27) 1 false, some (24, false)⟩, ⟨(some 29), len (t 28), some (24, false)⟩, ⟨(some 30), mv (t 0), some (24, false)⟩, ⟨(some 31), nilc (t 30), some (24, false)⟩, ⟨(some 32), fad (t 31) 0, some (24, false)⟩, ⟨(some 33), fad (t 32) 0, some (24, false)⟩, ⟨(some 34), ld (t 33) 1 false, some (24, false)⟩, ⟨(some 35), bin .neq (t 29) (t 34), some (24, false)⟩, ⟨(some 36), pick (t 24) (c (.bool true)) (t 35), none⟩, ⟨(some 37), mv (t 36), none⟩, ⟨(some 38), mv (t 0), some (37, false)⟩, ⟨(some 39), nilc (t 38), some (37, false)⟩, ⟨(some 40), fad (t 39) 3, some (37, false)⟩, ⟨(some 41), ld (t 40) 1 false, some (37, false)⟩, ⟨(some 42), callq (c (.fn 74 [])) [t 41], some (37, false)⟩, ⟨(some 43), un .not (t 42), some (37, false)⟩, ⟨(some 44), pick (t 37) (c (.bool true)) (t 43), none⟩]) (cond (t 44) (seq (reg [⟨(some 2), mv (c (.bool false)), none⟩]) (ret)) (skip))) (seq (seq (reg [⟨(some 3), mv (c (.int .i64 0)), none⟩]) (block 0 (loop (seq (seq (reg [⟨(some 45), mv (t 3), none⟩, ⟨(some 46), mv (t 0), none⟩, ⟨(some 47), nilc (t 46), none⟩, ⟨(some 48), fad (t 47) 3, none⟩, ⟨(some 49), ld (t 48) 1 false, none⟩, ⟨(some 50), len (t 49), none⟩, ⟨(some 51), bin .lss (t 45) (t 50), none⟩]) (cond (t 51) (skip) (exit 0))) (seq (block 1 (seq (reg [⟨(some 54), mv (t 0), none⟩, ⟨(some 55), nilc (t 54), none⟩, ⟨(some 56), fad (t 55) 3, none⟩, ⟨(some 57), ld (t 56) 1 false, none⟩, ⟨(some 58), mv (t 3), none⟩, ⟨(some 59), iad 2 (t 57) (t 58), none⟩, ⟨(some 60), fad (t 59) 0, none⟩, ⟨(some 61), ld (t 60) 1 false, none⟩, ⟨(some 62), bin .lss (t 61) (c (.int .i64 0)), none⟩]) (cond (t 62) (seq (reg [⟨(some 2), mv (c (.bool false)), none⟩]) (ret)) (skip)))) (reg [⟨(some 52), mv (t 3), none⟩, ⟨(some 53), bin .add (t 52) (c (.int .i64 1)), none⟩, ⟨(some 3), mv (t 53), none⟩])))))) (seq (reg [⟨(some 64), mv (t 0), none⟩, ⟨(some 65), nilc (t 64), none⟩, ⟨(some 66), fad (t 65) 3, none⟩, ⟨(some 67), ld (t 66) 1 false, none⟩, ⟨(some 68), callq (c (.fn 75 [])) [t 67], none⟩, ⟨(some 63), mv (t 68), none⟩, ⟨(some 69), ext (t 63) 0, none⟩, ⟨(some 70), ext (t 63) 1, none⟩, ⟨(some 4), alloc [.int .i64 0, .int .i64 0], none⟩, ⟨none, st (t 4) 2 (t 69), none⟩, ⟨(some 5), mv (t 70), none⟩]) (seq (reg [⟨(some 71), mv (t 5), none⟩, ⟨(some 72), bin .eql (t 71) (c (.int .i64 0)), none⟩, ⟨(some 73), mv (t 72), none⟩, ⟨(some 74), ld (t 4) 2 true, some (73, true)⟩, ⟨(some 75), callq (c (.fn 76 [])) [c (.int .i64 1)], some (73, true)⟩, ⟨(some 76), eqs false [.i .i64, .i .i64] (t 74) (t 75), some (73, true)⟩, ⟨(some 77), pick (t 73) (t 76) (c (.bool false)), none⟩, ⟨(some 2), mv (t 77), none⟩]) (ret)))))
def r_spec_l07Ok : List ARes := [.tmp 2]
theorem k_spec_l07Ok : acLin Go.Proofs.Tryz.prog 30 1 (inQ [72, 73, 74, 75, 76] []) [⟨false, none, [], [], none⟩, ⟨false, some [0, 1, 2, 3, 4, 5, 6, 7, 8, 9, 10, 11, 12, 13, 14, 15, 16, 17, 18, 19, 20, 21, 22, 23, 24, 25, 26, 27, 28, 29, 30, 31, 32, 33, 34, 35, 36, 37, 38], [], [], none⟩, ⟨false, none, [], [], none⟩, ⟨false, none, [], [], none⟩, ⟨false, none, [], [], none⟩, ⟨false, none, [], [], none⟩, ⟨false, none, [], [], none⟩, ⟨false, none, [], [], none⟩, ⟨false, none, [], [], none⟩, ⟨false, none, [], [], none⟩, ⟨false, none, [], [], none⟩, ⟨false, none, [], [], none⟩, ⟨false, some [0, 1, 2, 3, 4, 5, 6, 7], [], [], none⟩] = some (c_spec_l07Ok, r_spec_l07Ok) := by kernel_rfl
def c_impl_ValidPattern : AC := seq (reg [⟨(some 1), box 4 (t 0), none⟩, ⟨(some 2), mv (c (.bool false)), none⟩]) (seq (seq (reg [⟨(some 7), fad (t 1) 0, none⟩, ⟨(some 8), ld (t 7) 2 true, none⟩, ⟨(some 9), fad (t 1) 2, none⟩, ⟨(some 10), ld (t 9) 1 false, none⟩, ⟨(some 11), callq (c (.fn 88 [])) [t 8, t 10], none⟩, ⟨(some 12), un .not (t 11), none⟩, ⟨(some 13), mv (t 12), none⟩, ⟨(some 14), fad (t 1) 3, some (13, false)⟩, ⟨(some 15), ld (t 14) 1 false, some (13, false)⟩, ⟨(some 16), len (t 15), some (13, false)⟩, ⟨(some 17), fad (t 1) 0, some (13, false)⟩, ⟨(some 18), fad (t 17) 0, some (13, false)⟩, ⟨(some 19), ld (t 18) 1 false, some (13, false)⟩, ⟨(some 20), bin .neq (t 16) (t 19), some (13, false)⟩, ⟨(some 21), pick (t 13) (c (.bool true)) (t 20), none⟩]) (cond (t 21) (seq (reg [⟨(some 2), mv (c (.bool false)), none⟩]) (ret)) (skip))) (seq (reg [⟨(some 22), bld [.bool false] [], none⟩, ⟨(some 23), callq (c (.fn 89 [])) [], none⟩, ⟨(some 3), alloc [.bool false], none⟩, ⟨(some 4), alloc [.int .i64 0, .int .i64 0], none⟩, ⟨none, st (t 3) 1 (t 22), none⟩, ⟨none, st (t 4) 2 (t 23), none⟩]) (seq (seq (reg [⟨(some 24), fad (t 1) 3, none⟩, ⟨(some 25), ld (t 24) 1 false, none⟩, ⟨(some 26), len (t 25), none⟩, ⟨(some 27), mv (c (.int .i64 0)), none⟩]) (block 0 (loop (seq (reg [⟨(some 28), bin .lss (t 27) (t 26), none⟩]) (seq (cond (t 28) (skip) (exit 0)) (seq (block 1 (seq (reg [⟨(some 29), iad 2 (t 25) (t 27), none⟩, ⟨(some 30), ld (t 29) 2 true, none⟩, ⟨(some 6), alloc [.int .i64 0, .int .i64 0], none⟩, ⟨none, st (t 6) 2 (t 30), none⟩]) (seq (seq (reg [⟨(some 31), ld (t 6) 2 true, none⟩, ⟨(some 32), callq (c (.fn 90 [])) [t 31], none⟩, ⟨(some 33), mv (t 32), none⟩, ⟨(some 34), fad (t 6) 0, some (33, false)⟩, ⟨(some 35), ld (t 34) 1 false, some (33, false)⟩, ⟨(some 36), bin .lss (t 35) (c (.int .i64 0)), some (33, false)⟩, ⟨(some 37), pick (t 33) (c (.bool true)) (t 36), none⟩]) (cond (t 37) (seq (reg [⟨(some 2), mv (c (.bool false)), none⟩]) (ret)) (skip))) (reg [⟨(some 38), ld (t 4) 2 true, none⟩, ⟨(some 39), ld (t 6) 2 true, none⟩, ⟨(some 40), calle (c (.fn 91 [])) [t 3, t 38, t 39] [], none⟩, ⟨none, st (t 4) 2 (t 40), none⟩])))) (reg [⟨(some 41), bin .add (t 27) (c (.int .i64 1)), none⟩, ⟨(some 27), mv (t 41), none⟩]))))))) (seq (reg [⟨(some 42), fad (t 3) 0, none⟩, ⟨(some 43), ld (t 42) 1 false, none⟩, ⟨(some 44), un .not (t 43), none⟩, ⟨(some 45), mv (t 44), none⟩, ⟨(some 46), ld (t 4) 2 true, some (45, true)⟩, ⟨(some 47), callq (c (.fn 92 [])) [], some (45, true)⟩, ⟨(some 48), eqs false [.i .i64, .i .i64] (t 46) (t 47), some (45, true)⟩, ⟨(some 49), pick (t 45) (t 48) (c (.bool false)), none⟩, ⟨(some 2), mv (t 49), none⟩]) (ret)))))
def r_impl_ValidPattern : List ARes := [.tmp 2]
theorem k_impl_ValidPattern : acLin Go.Proofs.Tryz.prog 38 1 (inQ [88, 89, 90, 92] [91]) [⟨false, none, [], [], none⟩, ⟨false, none, [], [], none⟩, ⟨false, none, [], [], none⟩, ⟨false, none, [], [], none⟩, ⟨false, none, [], [], none⟩, ⟨false, none, [], [], none⟩, ⟨false, none, [], [], none⟩, ⟨false, none, [], [], none⟩, ⟨false, none, [], [], none⟩, ⟨false, none, [], [], none⟩, ⟨false, none, [], [], none⟩, ⟨false, none, [], [], none⟩, ⟨false, none, [], [], none⟩, ⟨false, none, [], [], none⟩, ⟨false, some [0, 1, 2, 3, 4, 5, 6, 7, 8], [], [], none⟩] = some (c_impl_ValidPattern, r_impl_ValidPattern) := by kernel_rfl
def c_laws_eqFraction : AC := seq (reg [⟨(some 2), box 2 (t 0), none⟩, ⟨(some 3), box 2 (t 1), none⟩, ⟨(some 4), mv (c (.bool false)), none⟩]) (seq (seq (reg [⟨(some 5), fad (t 2) 0, none⟩, ⟨(some 6), ld (t 5) 1 false, none⟩, ⟨(some 7), fad (t 3) 0, none⟩, ⟨(some 8), ld (t 7) 1 false, none⟩, ⟨(some 9), bin .neq (t 6) (t 8), none⟩]) (cond (t 9) (seq (reg [⟨(some 4), mv (c (.bool false)), none⟩]) (ret)) (skip))) (seq (seq (reg [⟨(some 10), fad (t 2) 1, none⟩, ⟨(some 11), ld (t 10) 1 false, none⟩, ⟨(some 12), fad (t 3) 1, none⟩, ⟨(some 13), ld (t 12) 1 false, none⟩, ⟨(some 14), bin .neq (t 11) (t 13), none⟩]) (cond (t 14) (seq (reg [⟨(some 4), mv (c (.bool false)), none⟩]) (ret)) (skip))) (seq (reg [⟨(some 4), mv (c (.bool true)), none⟩]) (ret))))
def r_laws_eqFraction : List ARes := [.tmp 4]
theorem k_laws_eqFraction : acLin Go.Proofs.Tryz.prog 95 2 (inQ [] []) [] = some (c_laws_eqFraction, r_laws_eqFraction) := by kernel_rfl
def c_laws_eqFractionS : AC := seq (reg [⟨(some 4), mv (c (.bool false)), none⟩]) (seq (seq (reg [⟨(some 6), mv (t 0), none⟩, ⟨(some 7), len (t 6), none⟩, ⟨(some 8), mv (t 1), none⟩, ⟨(some 9), len (t 8), none⟩, ⟨(some 10), bin .neq (t 7) (t 9), none⟩]) (cond (t 10) (seq (reg [⟨(some 4), mv (c (.bool false)), none⟩]) (ret)) (skip))) (seq (seq (reg [⟨(some 5), mv (c (.int .i64 0)), none⟩]) (block 0 (loop (seq (seq (reg [⟨(some 11), mv (t 5), none⟩, ⟨(some 12), mv (t 0), none⟩, ⟨(some 13), len (t 12), none⟩, ⟨(some 14), bin .lss (t 11) (t 13), none⟩]) (cond (t 14) (skip) (exit 0))) (seq (block 1 (seq (reg [⟨(some 17), mv (t 0), none⟩, ⟨(some 18), mv (t 5), none⟩, ⟨(some 19), iad 2 (t 17) (t 18), none⟩, ⟨(some 20), ld (t 19) 2 true, none⟩, ⟨(some 21), mv (t 1), none⟩, ⟨(some 22), mv (t 5), none⟩, ⟨(some 23), iad 2 (t 21) (t 22), none⟩, ⟨(some 24), ld (t 23) 2 true, none⟩, ⟨(some 25), callq (c (.fn 95 [])) [t 20, t 24], none⟩, ⟨(some 26), un .not (t 25), none⟩]) (cond (t 26) (seq (reg [⟨(some 4), mv (c (.bool false)), none⟩]) (ret)) (skip)))) (reg [⟨(some 15), mv (t 5), none⟩, ⟨(some 16), bin .add (t 15) (c (.int .i64 1)), none⟩, ⟨(some 5), mv (t 16), none⟩])))))) (seq (reg [⟨(some 4), mv (c (.bool true)), none⟩]) (ret))))
def r_laws_eqFractionS : List ARes := [.tmp 4]
theorem k_laws_eqFractionS : acLin Go.Proofs.Tryz.prog 41 2 (inQ [95] []) [⟨false, none, [], [], none⟩, ⟨false, none, [], [], none⟩, ⟨false, none, [], [], none⟩, ⟨false, none, [], [], none⟩, ⟨false, none, [], [], none⟩, ⟨false, none, [], [], none⟩, ⟨false, none, [], [], none⟩, ⟨false, some [0, 1, 2, 3, 4, 5, 6, 7, 8, 9], [], [], none⟩] = some (c_laws_eqFractionS, r_laws_eqFractionS) := by kernel_rfl
def c_laws_eqGraph : AC := seq (reg [⟨(some 2), box 2 (t 0), none⟩, ⟨(some 3), box 2 (t 1), none⟩, ⟨(some 4), mv (c (.bool false)), none⟩]) (seq (seq (reg [⟨(some 5), fad (t 2) 0, none⟩, ⟨(some 6), ld (t 5) 1 false, none⟩, ⟨(some 7), fad (t 3) 0, none⟩, ⟨(some 8), ld (t 7) 1 false, none⟩, ⟨(some 9), bin .neq (t 6) (t 8), none⟩]) (cond (t 9) (seq (reg [⟨(some 4), mv (c (.bool false)), none⟩]) (ret)) (skip))) (seq (seq (reg [⟨(some 10), fad (t 2) 1, none⟩, ⟨(some 11), ld (t 10) 1 false, none⟩, ⟨(some 12), fad (t 3) 1, none⟩, ⟨(some 13), ld (t 12) 1 false, none⟩, ⟨(some 14), bin .neq (t 11) (t 13), none⟩]) (cond (t 14) (seq (reg [⟨(some 4), mv (c (.bool false)), none⟩]) (ret)) (skip))) (seq (reg [⟨(some 4), mv (c (.bool true)), none⟩]) (ret))))
def r_laws_eqGraph : List ARes := [.tmp 4]
theorem k_laws_eqGraph : acLin Go.Proofs.Tryz.prog 40 2 (inQ [] []) [] = some (c_laws_eqGraph, r_laws_eqGraph) := by kernel_rfl
def c_laws_eqPattern : AC := seq (reg [⟨(some 2), box 4 (t 0), none⟩, ⟨(some 3), box 4 (t 1), none⟩, ⟨(some 4), mv (c (.bool false)), none⟩]) (seq (seq (reg [⟨(some 5), fad (t 2) 0, none⟩, ⟨(some 6), ld (t 5) 2 true, none⟩, ⟨(some 7), fad (t 3) 0, none⟩, ⟨(some 8), ld (t 7) 2 true, none⟩, ⟨(some 9), callq (c (.fn 40 [])) [t 6, t 8], none⟩, ⟨(some 10), un .not (t 9), none⟩]) (cond (t 10) (seq (reg [⟨(some 4), mv (c (.bool false)), none⟩]) (ret)) (skip))) (seq (seq (reg [⟨(some 11), fad (t 2) 2, none⟩, ⟨(some 12), ld (t 11) 1 false, none⟩, ⟨(some 13), fad (t 3) 2, none⟩, ⟨(some 14), ld (t 13) 1 false, none⟩, ⟨(some 15), bin .neq (t 12) (t 14), none⟩]) (cond (t 15) (seq (reg [⟨(some 4), mv (c (.bool false)), none⟩]) (ret)) (skip))) (seq (seq (reg [⟨(some 16), fad (t 2) 3, none⟩, ⟨(some 17), ld (t 16) 1 false, none⟩, ⟨(some 18), fad (t 3) 3, none⟩, ⟨(some 19), ld (t 18) 1 false, none⟩, ⟨(some 20), callq (c (.fn 41 [])) [t 17, t 19], none⟩, ⟨(some 21), un .not (t 20), none⟩]) (cond (t 21) (seq (reg [⟨(some 4), mv (c (.bool false)), none⟩]) (ret)) (skip))) (seq (reg [⟨(some 4), mv (c (.bool true)), none⟩]) (ret)))))
def r_laws_eqPattern : List ARes := [.tmp 4]
theorem k_laws_eqPattern : acLin Go.Proofs.Tryz.prog 9 2 (inQ [40, 41] []) [] = some (c_laws_eqPattern, r_laws_eqPattern) := by kernel_rfl
end Go.Proofs.YtlglgcmpeabdnaaGreatDoorAi
end

section
/- Contracts: validity of patterns. -/
namespace Go.Proofs.YtlglgcmpeabdnaaGreatDoorAi
open Go Go.RowKit
set_option linter.unusedVariables false
set_option linter.unusedSimpArgs false

noncomputable def sp_l02List : List AV → Option (AV) := pf (ι := (List Fr)) (α := AV) (fun l => l.length ≤ maxLen) (fun l => [.sl (frsA l) false]) (fun l => .bool (allOk l && decide (l.length ≤ 256)))
theorem sp_l02List_eq (l : List Fr) (h : l.length ≤ maxLen) : sp_l02List [.sl (frsA l) false] = some (.bool (allOk l && decide (l.length ≤ 256))) := by
  unfold sp_l02List
  exact pf_eq (ι := (List Fr)) (α := AV) l h (by rintro l' _ e; simp_all [Int.natCast_inj])
theorem q_spec_l02List : QP PP 74 sp_l02List := by
  refine QP_pf (fun l h => ?_) fun l h => ?_
  · exact ⟨by first | rfl | simp, by first | rfl | simp⟩
  replace h : l.length ≤ maxLen := h
  refine P_code (Quiet.q1 q_spec_l02Ok Quiet.nil) hmix k_spec_l02List rfl ?_ ?_
  · first | rfl | simp
  show wpc 0 PP _ c_spec_l02List (initSt [.sl (frsA l) false] .nil) (endP r_spec_l02List (.bool (allOk l && decide (l.length ≤ 256))))
  simp only [maxLen] at h
  simp -dsimp -implicitDefEqProofs [c_spec_l02List, r_spec_l02List]
  refine wpLoop_st (fun (i : Nat) => ⟨tl [(0, .sl (frsA l) false), (3, .int .i64 i)], ⟨[]⟩⟩) (fun i => i ≤ l.length ∧ allOk (l.take i) = true) (fun i => l.length - i) 0 ⟨Nat.zero_le _, rfl⟩ (Sub.keep (by simp) (by simp [hsub]) (by simp)) ?_
  rintro i ⟨h1, h2⟩
  simp -dsimp -implicitDefEqProofs
  refine brW_of (fun h => ?_) (fun h => ?_) <;> simp only [decide_eq_true_eq, decide_eq_false_iff_not] at h
  · have hi : i < l.length := by omega
    have hw := wrapNat (i := i) (by omega)
    cases hv : frOk l[i].p l[i].q with
    | false => simp -dsimp -implicitDefEqProofs [hi, hw, hv, allOk_false hi hv]
    | true =>
      simp -dsimp -implicitDefEqProofs [hi, hw, hv]
      exact .mk (i + 1) ⟨by omega, allOk_step hi h2 hv⟩ (by omega) (Sub.keep (by simp) (by simp [hsub]) (by simp))
  · have hi' : i = l.length := by omega
    rw [hi', List.take_length] at h2
    simp -dsimp -implicitDefEqProofs [h2]
    omega

def sumO : Fr → List Fr → Option Fr
  | a, [] => some a
  | a, x :: xs => (add2 a x).bind fun s => sumO s xs
def sumA (l : List Fr) : AV := if allOk l = true ∧ l.length ≤ 256 then frO (sumO ⟨0, 1⟩ l) else .tup [.agg [.int .i64 0, .int .i64 0], .int .i64 1]
@[simp] theorem sumA_lt (l : List Fr) (n : Nat) : (sumA l).lt n = true := by unfold sumA; split <;> first | simp | rfl
noncomputable def sp_Sum : List AV → Option (AV) := pf (ι := (List Fr)) (α := AV) (fun l => l.length ≤ maxLen) (fun l => [.sl (frsA l) false]) (fun l => sumA l)
theorem sp_Sum_eq (l : List Fr) (h : l.length ≤ maxLen) : sp_Sum [.sl (frsA l) false] = some (sumA l) := by
  unfold sp_Sum
  exact pf_eq (ι := (List Fr)) (α := AV) l h (by rintro l' _ e; simp_all [Int.natCast_inj])
theorem q_spec_SumOfFractions : QP PP 75 sp_Sum := by
  refine QP_pf (fun l h => ?_) fun l h => ?_
  · exact ⟨by first | rfl | simp, by first | rfl | simp⟩
  replace h : l.length ≤ maxLen := h
  refine P_code (Quiet.q1 q_spec_l02List (Quiet.q1 q_spec_l02Zero (Quiet.q1 q_spec_l02Add Quiet.nil))) hmix k_spec_SumOfFractions rfl ?_ ?_
  · first | rfl | simp
  show wpc 0 PP _ c_spec_SumOfFractions (initSt [.sl (frsA l) false] .nil) (endP r_spec_SumOfFractions (sumA l))
  simp -dsimp -implicitDefEqProofs [c_spec_SumOfFractions, r_spec_SumOfFractions, sp_l02List_eq l h]
  by_cases hv : allOk l = true ∧ l.length ≤ 256
  · have hs : sumA l = frO (sumO ⟨0, 1⟩ l) := if_pos hv
    simp -dsimp -implicitDefEqProofs [hv.1, hv.2]
    refine wpLoop_st (fun (i : Nat × Fr) => ⟨tl [(0, .sl (frsA l) false), (2, .ptr 0 0), (4, .ptr 1 0), (5, .int .i64 i.1)], ⟨[some [.int .i64 0, .int .i64 0], some [.int .i64 i.2.p, .int .i64 i.2.q]]⟩⟩) (fun i => i.1 ≤ l.length ∧ frIn i.2.p i.2.q ∧ sumO i.2 (l.drop i.1) = sumO ⟨0, 1⟩ l) (fun i => l.length - i.1) (0, ⟨0, 1⟩) ⟨Nat.zero_le _, zero_in, rfl⟩ (Sub.keep (by simp) (by simp [hsub]) (by simp)) ?_
    rintro ⟨i, a⟩ ⟨h1, h2, h3⟩
    simp -dsimp -implicitDefEqProofs
    refine brW_of (fun h => ?_) (fun h => ?_) <;> simp only [decide_eq_true_eq, decide_eq_false_iff_not] at h
    · have hi : i < l.length := by omega
      have hw := wrapNat (i := i) (by omega)
      have hx := (allOk_in hv.1).get hi
      have e1 := sp_l02Add_eq a.p a.q l[i].p l[i].q ⟨h2, hx⟩
      rw [drop_cons hi, sumO, add2] at h3
      cases ha : addO a.p a.q l[i].p l[i].q with
      | none =>
        rw [ha] at e1 h3
        simp -dsimp -implicitDefEqProofs [hi, hw, e1, frO, hs, ← h3]
      | some s =>
        rw [ha] at e1 h3
        simp -dsimp -implicitDefEqProofs [hi, hw, e1, frO]
        exact .mk (i + 1, s) ⟨by simp only; omega, add2_some h2 hx ha, h3⟩ (by simp only; omega) (Sub.keep (by simp) (by simp [hsub]) (by simp [hw]))
    · have hi : ¬ i < l.length := by omega
      rw [drop_end hi, sumO] at h3
      simp -dsimp -implicitDefEqProofs [hs, ← h3, frO]
  · have hv' : (!allOk l || !decide (l.length ≤ 256)) = true := by cases e : allOk l <;> simp_all
    have hs : sumA l = .tup [.agg [.int .i64 0, .int .i64 0], .int .i64 1] := if_neg hv
    simp -dsimp -implicitDefEqProofs [hv', hs]

def loopsOk (n l : Int) : Bool := decide ((1 ≤ n ∧ n ≤ 4) ∧ l < 2 ^ n.toNat)
noncomputable def sp_form : List AV → Option (AV) := pf (ι := (Int) × (Int) × (Int)) (α := AV) (fun ⟨n, e, l⟩ => 0 ≤ l ∧ l ≤ 4294967295) (fun ⟨n, e, l⟩ => [.agg [.int .i64 n, .int .u32 e], .int .u32 l]) (fun ⟨n, e, l⟩ => .bool (loopsOk n l))
theorem sp_form_eq (n e l : Int) (h : 0 ≤ l ∧ l ≤ 4294967295) : sp_form [.agg [.int .i64 n, .int .u32 e], .int .u32 l] = some (.bool (loopsOk n l)) := by
  unfold sp_form
  exact pf_eq (ι := (Int) × (Int) × (Int)) (α := AV) (n, e, l) h (by rintro ⟨n', e', l'⟩ _ e; simp_all [Int.natCast_inj])
theorem q_spec_l07Form : QP PP 73 sp_form := by
  refine QP_pf (fun i h => ?_) fun i h => ?_
  · obtain ⟨n, e, l⟩ := i; exact ⟨by first | rfl | simp, by first | rfl | simp⟩
  obtain ⟨n, e, l⟩ := i
  replace h : 0 ≤ l ∧ l ≤ 4294967295 := h
  refine P_code (Quiet.q1 q_spec_l00In Quiet.nil) hmix k_spec_l07Form rfl ?_ ?_
  · first | rfl | simp
  show wpc 0 PP _ c_spec_l07Form (initSt [.agg [.int .i64 n, .int .u32 e], .int .u32 l] .nil) (endP r_spec_l07Form (.bool (loopsOk n l)))
  have em : l % 18446744073709551616 = l := by omega
  simp -dsimp -implicitDefEqProofs [c_spec_l07Form, r_spec_l07Form]
  by_cases hn : 1 ≤ n ∧ n ≤ 4
  · have h5 : n = 1 ∨ n = 2 ∨ n = 3 ∨ n = 4 := by omega
    rcases h5 with rfl | rfl | rfl | rfl <;> simp -dsimp -implicitDefEqProofs [IntKind.bits, IntKind.wrap, IntKind.signed]
    all_goals (rw [em, if_neg (by omega), Bool.eq_iff_iff]; simp [loopsOk] <;> omega)
  · have hv : loopsOk n l = false := decide_eq_false fun h => hn h.1
    have hv' : (decide (1 ≤ n) && decide (n ≤ 4)) = false := by simpa using hn
    simp -dsimp -implicitDefEqProofs [hv, hv']
noncomputable def sp_shapeOk : List AV → Option (AV) := pf (ι := (Int) × (Int) × (Int)) (α := AV) (fun ⟨n, e, l⟩ => (0 ≤ e ∧ e ≤ 4294967295) ∧ (0 ≤ l ∧ l ≤ 4294967295)) (fun ⟨n, e, l⟩ => [.agg [.int .i64 n, .int .u32 e], .int .u32 l]) (fun ⟨n, e, l⟩ => .bool (graphOk n e && loopsOk n l))
theorem sp_shapeOk_eq (n e l : Int) (h : (0 ≤ e ∧ e ≤ 4294967295) ∧ (0 ≤ l ∧ l ≤ 4294967295)) : sp_shapeOk [.agg [.int .i64 n, .int .u32 e], .int .u32 l] = some (.bool (graphOk n e && loopsOk n l)) := by
  unfold sp_shapeOk
  exact pf_eq (ι := (Int) × (Int) × (Int)) (α := AV) (n, e, l) h (by rintro ⟨n', e', l'⟩ _ e; simp_all [Int.natCast_inj])
theorem q_impl_shapeOk : QP PP 88 sp_shapeOk := by
  refine QP_pf (fun i h => ?_) fun i h => ?_
  · obtain ⟨n, e, l⟩ := i; exact ⟨by first | rfl | simp, by first | rfl | simp⟩
  obtain ⟨n, e, l⟩ := i
  replace h : (0 ≤ e ∧ e ≤ 4294967295) ∧ (0 ≤ l ∧ l ≤ 4294967295) := h
  refine P_code (Quiet.q1 q_impl_ValidGraph (Quiet.q1 q_impl_in Quiet.nil)) hmix k_impl_shapeOk rfl ?_ ?_
  · first | rfl | simp
  show wpc 0 PP _ c_impl_shapeOk (initSt [.agg [.int .i64 n, .int .u32 e], .int .u32 l] .nil) (endP r_impl_shapeOk (.bool (graphOk n e && loopsOk n l)))
  simp -dsimp -implicitDefEqProofs [c_impl_shapeOk, r_impl_shapeOk, sp_graphOk_eq n e h.1]
  cases hg : graphOk n e with
  | false => simp -dsimp -implicitDefEqProofs
  | true =>
    by_cases hn : 1 ≤ n ∧ n ≤ 4
    · have h5 : n = 1 ∨ n = 2 ∨ n = 3 ∨ n = 4 := by omega
      rcases h5 with rfl | rfl | rfl | rfl <;> simp -dsimp -implicitDefEqProofs [IntKind.bits]
      all_goals (rw [fdiv_zero (by decide) h.2.1, Bool.eq_iff_iff]; simp [loopsOk] <;> omega)
    · have hv : loopsOk n l = false := decide_eq_false fun h => hn h.1
      have hv' : (decide (1 ≤ n) && decide (n ≤ 4)) = false := by simpa using hn
      simp -dsimp -implicitDefEqProofs [hv, hv']

def nnAll (ps : List Fr) : Bool := ps.all fun x => decide (0 ≤ x.p)
def patOk (n e l : Int) (ps : List Fr) : Bool := graphOk n e && loopsOk n l && decide ((ps.length : Int) = n) && allOk ps && nnAll ps && decide (sumO ⟨0, 1⟩ ps = some ⟨1, 1⟩)
theorem nnAll_false {ps : List Fr} {i : Nat} (h : i < ps.length) (hf : ps[i].p < 0) : nnAll ps = false := by
  unfold nnAll
  rw [List.all_eq_false]
  exact ⟨ps[i], List.getElem_mem h, by simp; omega⟩
theorem nnAll_step {ps : List Fr} {i : Nat} (h : i < ps.length) (h1 : nnAll (ps.take i) = true) (hf : ¬ ps[i].p < 0) : nnAll (ps.take (i + 1)) = true := by
  rw [take_snoc ps i h]
  unfold nnAll at *
  rw [List.all_append, h1]
  simp
  omega

noncomputable def sp_l07Ok : List AV → List AV → Option (AV × List AV) := pm (pf (ι := (Int) × (Int) × (Int) × (List Fr)) (α := AV × List AV) (fun ⟨n, e, l, ps⟩ => (0 ≤ e ∧ e ≤ 4294967295) ∧ (0 ≤ l ∧ l ≤ 4294967295) ∧ ps.length ≤ maxLen) (fun i => .agg ((fun ⟨n, e, l, ps⟩ => [.int .i64 n, .int .u32 e, .int .u32 l, .sl (frsA ps) false] : (Int) × (Int) × (Int) × (List Fr) → List AV) i) :: (fun ⟨n, e, l, ps⟩ => [] : (Int) × (Int) × (Int) × (List Fr) → List AV) i) (fun ⟨n, e, l, ps⟩ => (.bool (patOk n e l ps), [.int .i64 n, .int .u32 e, .int .u32 l, .sl (frsA ps) false])))
theorem sp_l07Ok_eq (n e l : Int) (ps : List Fr) (h : (0 ≤ e ∧ e ≤ 4294967295) ∧ (0 ≤ l ∧ l ≤ 4294967295) ∧ ps.length ≤ maxLen) : sp_l07Ok [.int .i64 n, .int .u32 e, .int .u32 l, .sl (frsA ps) false] [] = some (.bool (patOk n e l ps), [.int .i64 n, .int .u32 e, .int .u32 l, .sl (frsA ps) false]) := by
  unfold sp_l07Ok pm
  exact pf_eq (ι := (Int) × (Int) × (Int) × (List Fr)) (α := AV × List AV) (n, e, l, ps) h (by rintro ⟨n', e', l', ps'⟩ _ e; simp_all [Int.natCast_inj])
theorem m_spec_l07Ok : QM PP 30 sp_l07Ok := by
  refine QM_pf (fun i h => ?_) fun i h => ?_
  · obtain ⟨n, e, l, ps⟩ := i; exact ⟨⟨by first | rfl | simp, by first | rfl | simp⟩, by first | rfl | simp, by first | rfl | simp⟩
  obtain ⟨n, e, l, ps⟩ := i
  replace h : (0 ≤ e ∧ e ≤ 4294967295) ∧ (0 ≤ l ∧ l ≤ 4294967295) ∧ ps.length ≤ maxLen := h
  refine H_code (Quiet.q1 q_spec_l01Ok (Quiet.q1 q_spec_l07Form (Quiet.q1 q_spec_l02List (Quiet.q1 q_spec_SumOfFractions (Quiet.q1 q_spec_l02One Quiet.nil))))) hmix k_spec_l07Ok rfl (fun b => b) (Nat.le_refl _) (fun _ _ => rfl) rfl (by first | rfl | simp) ?_
  show wpc 1 PP _ c_spec_l07Ok (initSt [.ptr 0 0] ⟨[some [.int .i64 n, .int .u32 e, .int .u32 l, .sl (frsA ps) false]]⟩) (endH (fun b => b) r_spec_l07Ok (.bool (patOk n e l ps)) [some [.int .i64 n, .int .u32 e, .int .u32 l, .sl (frsA ps) false]])
  obtain ⟨he, hl, hp⟩ := h
  have hlen4 : loopsOk n l = true → n ≤ 4 := fun h => (of_decide_eq_true h).1.2
  simp -dsimp -implicitDefEqProofs [c_spec_l07Ok, r_spec_l07Ok, sp_graphOk_eq n e he]
  cases hg : graphOk n e with
  | false => simp -dsimp -implicitDefEqProofs [patOk, hg, hsub]
  | true =>
    cases hf : loopsOk n l with
    | false => simp -dsimp -implicitDefEqProofs [sp_form_eq n e l hl, hf, patOk, hsub]
    | true =>
      by_cases hn : (ps.length : Int) = n
      · have hn4 := hlen4 hf
        have h256 : ps.length ≤ 256 := by omega
        cases ha : allOk ps with
        | false => simp -dsimp -implicitDefEqProofs [sp_form_eq n e l hl, hf, hn, sp_l02List_eq ps hp, ha, patOk, hsub]
        | true =>
          simp -dsimp -implicitDefEqProofs [sp_form_eq n e l hl, hf, hn, sp_l02List_eq ps hp, ha, h256]
          refine wpLoop_st (fun (i : Nat) => ⟨tl [(0, .ptr 0 0), (3, .int .i64 i)], ⟨[some [.int .i64 n, .int .u32 e, .int .u32 l, .sl (frsA ps) false]]⟩⟩) (fun i => i ≤ ps.length ∧ nnAll (ps.take i) = true) (fun i => ps.length - i) 0 ⟨Nat.zero_le _, rfl⟩ (Sub.keep (by simp) (by simp [hsub]) (by simp)) ?_
          rintro i ⟨h1, h2⟩
          simp -dsimp -implicitDefEqProofs
          refine brW_of (fun h => ?_) (fun h => ?_) <;> simp only [decide_eq_true_eq, decide_eq_false_iff_not] at h
          · have hi : i < ps.length := by omega
            have hw := wrapNat (i := i) (by omega)
            by_cases hneg : ps[i].p < 0
            · simp -dsimp -implicitDefEqProofs [hi, hw, hneg, patOk, nnAll_false hi hneg, hsub]
            · simp -dsimp -implicitDefEqProofs [hi, hw, hneg]
              exact .mk (i + 1) ⟨by omega, nnAll_step hi h2 hneg⟩ (by omega) (Sub.keep (by simp) (by simp [hsub]) (by simp))
          · have hi : i = ps.length := by omega
            rw [hi, List.take_length] at h2
            have hs : sumA ps = frO (sumO ⟨0, 1⟩ ps) := if_pos ⟨ha, h256⟩
            cases hsum : sumO ⟨0, 1⟩ ps with
            | none => simp -dsimp -implicitDefEqProofs [sp_Sum_eq ps hp, hs, hsum, frO, patOk, hsub]
            | some s =>
              simp -dsimp -implicitDefEqProofs [sp_Sum_eq ps hp, hs, hsum, frO, patOk, hsub, hg, hf, hn, ha, h2]
              cases s
              rw [Bool.eq_iff_iff]
              simp
      · have hn' : ((ps.length : Int) != n) = true := by simpa using hn
        simp -dsimp -implicitDefEqProofs [sp_form_eq n e l hl, hf, hn', hn, patOk, hsub]

noncomputable def sp_patOk : List AV → Option (AV) := pf (ι := (Int) × (Int) × (Int) × (List Fr)) (α := AV) (fun ⟨n, e, l, ps⟩ => (0 ≤ e ∧ e ≤ 4294967295) ∧ (0 ≤ l ∧ l ≤ 4294967295) ∧ ps.length ≤ maxLen) (fun ⟨n, e, l, ps⟩ => [.agg [.int .i64 n, .int .u32 e, .int .u32 l, .sl (frsA ps) false]]) (fun ⟨n, e, l, ps⟩ => .bool (patOk n e l ps))
theorem sp_patOk_eq (n e l : Int) (ps : List Fr) (h : (0 ≤ e ∧ e ≤ 4294967295) ∧ (0 ≤ l ∧ l ≤ 4294967295) ∧ ps.length ≤ maxLen) : sp_patOk [.agg [.int .i64 n, .int .u32 e, .int .u32 l, .sl (frsA ps) false]] = some (.bool (patOk n e l ps)) := by
  unfold sp_patOk
  exact pf_eq (ι := (Int) × (Int) × (Int) × (List Fr)) (α := AV) (n, e, l, ps) h (by rintro ⟨n', e', l', ps'⟩ _ e; simp_all [Int.natCast_inj])
end Go.Proofs.YtlglgcmpeabdnaaGreatDoorAi
end

section
/- Contracts: validity of patterns, as the program has it; its law. -/
namespace Go.Proofs.YtlglgcmpeabdnaaGreatDoorAi
open Go Go.RowKit
set_option linter.unusedVariables false
set_option linter.unusedSimpArgs false

/-- The sum as the program makes it. -/
def sumG : Fr → Bool → List Fr → Fr × Bool
  | a, g, [] => (a, g)
  | a, g, x :: xs => sumG (valO (add2 a x)) (g || (add2 a x).isNone) xs
theorem sumG_true : ∀ (xs : List Fr) (a : Fr), (sumG a true xs).2 = true
  | [], a => rfl
  | x :: xs, a => by rw [sumG]; simpa using sumG_true xs _
theorem sumO_G : ∀ (xs : List Fr) (a : Fr) (g : Bool), (∀ v, sumO a xs = some v → sumG a g xs = (v, g)) ∧ (sumO a xs = none → (sumG a g xs).2 = true)
  | [], a, g => by simp [sumO, sumG]
  | x :: xs, a, g => by
    rw [sumO, sumG]
    cases ha : add2 a x with
    | none => simp [sumG_true]
    | some s => simpa [valO, ha] using sumO_G xs s g
theorem sumG_one (l : List Fr) : (!(sumG ⟨0, 1⟩ false l).2 && decide ((sumG ⟨0, 1⟩ false l).1 = ⟨1, 1⟩)) = decide (sumO ⟨0, 1⟩ l = some ⟨1, 1⟩) := by
  obtain ⟨h1, h2⟩ := sumO_G l ⟨0, 1⟩ false
  cases e : sumO ⟨0, 1⟩ l with
  | none => simp [h2 e]
  | some v => rw [h1 v e]; simp

theorem q_impl_ValidPattern : QP PP 38 sp_patOk := by
  refine QP_pf (fun i h => ?_) fun i h => ?_
  · obtain ⟨n, e, l, ps⟩ := i; exact ⟨by first | rfl | simp, by first | rfl | simp⟩
  obtain ⟨n, e, l, ps⟩ := i
  replace h : (0 ≤ e ∧ e ≤ 4294967295) ∧ (0 ≤ l ∧ l ≤ 4294967295) ∧ ps.length ≤ maxLen := h
  refine P_code (Quiet.q1 q_impl_shapeOk (Quiet.q1 q_impl_zero (Quiet.q1 q_impl_badFraction (Quiet.q1 q_impl_one (Quiet.e1 m_impl_sums_add.toE Quiet.nil))))) hmix k_impl_ValidPattern rfl ?_ ?_
  · first | rfl | simp
  show wpc 0 PP _ c_impl_ValidPattern (initSt [.agg [.int .i64 n, .int .u32 e, .int .u32 l, .sl (frsA ps) false]] .nil) (endP r_impl_ValidPattern (.bool (patOk n e l ps)))
  obtain ⟨he, hl, hp⟩ := h
  simp -dsimp -implicitDefEqProofs [c_impl_ValidPattern, r_impl_ValidPattern, sp_shapeOk_eq n e l ⟨he, hl⟩]
  cases hg : graphOk n e with
  | false => simp -dsimp -implicitDefEqProofs [patOk, hg]
  | true =>
    cases hf : loopsOk n l with
    | false => simp -dsimp -implicitDefEqProofs [patOk, hg, hf]
    | true =>
      have hn4 : n ≤ 4 := (of_decide_eq_true hf).1.2
      by_cases hn : (ps.length : Int) = n
      · simp -dsimp -implicitDefEqProofs [hn]
        refine wpLoop_st (fun (i : Nat × Fr × Bool) => ⟨tl [(1, .ptr 0 0), (3, .ptr 1 0), (4, .ptr 2 0), (25, .sl (frsA ps) false), (26, .int .i64 ps.length), (27, .int .i64 i.1)], ⟨[some [.int .i64 n, .int .u32 e, .int .u32 l, .sl (frsA ps) false], some [.bool i.2.2], some [.int .i64 i.2.1.p, .int .i64 i.2.1.q]]⟩⟩)
          (fun i => i.1 ≤ ps.length ∧ frIn i.2.1.p i.2.1.q ∧ sumG i.2.1 i.2.2 (ps.drop i.1) = sumG ⟨0, 1⟩ false ps ∧ allOk (ps.take i.1) = true ∧ nnAll (ps.take i.1) = true) (fun i => ps.length - i.1) (0, ⟨0, 1⟩, false) ⟨Nat.zero_le _, zero_in, rfl, rfl, rfl⟩ (Sub.keep (by simp) (by simp [hsub]) (by simp [hn])) ?_
        rintro ⟨i, a, b⟩ ⟨h1, h2, h3, h4, h5⟩
        simp -dsimp -implicitDefEqProofs
        refine brW_of (fun h => ?_) (fun h => ?_) <;> simp only [decide_eq_true_eq, decide_eq_false_iff_not] at h
        · have hi : i < ps.length := by omega
          have hw := wrapNat (i := i) (by omega)
          cases hv : frOk ps[i].p ps[i].q with
          | false => simp -dsimp -implicitDefEqProofs [hi, hw, hv, patOk, allOk_false hi hv]
          | true =>
            by_cases hneg : ps[i].p < 0
            · simp -dsimp -implicitDefEqProofs [hi, hw, hv, hneg, patOk, nnAll_false hi hneg]
            · simp -dsimp -implicitDefEqProofs [hi, hw, hv, hneg, sp_add_eq b a.p a.q ps[i].p ps[i].q ⟨h2, frOk_in hv⟩]
              rw [drop_cons hi, sumG] at h3
              exact .mk (i + 1, valO (add2 a ps[i]), (b || (add2 a ps[i]).isNone)) ⟨by simp only; omega, add2_in h2 (frOk_in hv), h3, allOk_step hi h4 hv, nnAll_step hi h5 hneg⟩ (by simp only; omega) (Sub.keep (by simp) (by simp [hsub, add2]) (by simp [hw]))
        · have hi : i = ps.length := by omega
          simp only [hi, List.take_length, List.drop_length, sumG] at h3 h4 h5
          have hs := sumG_one ps
          rw [← h3] at hs
          have hv : patOk n e l ps = decide (sumO ⟨0, 1⟩ ps = some ⟨1, 1⟩) := by simp [patOk, hg, hf, hn, h4, h5]
          rw [hv, ← hs]
          cases b <;> simp -dsimp -implicitDefEqProofs [Fr.mk.injEq]
          cases a
          rw [Bool.eq_iff_iff]
          simp
      · have hn' : ((ps.length : Int) != n) = true := by simpa using hn
        simp -dsimp -implicitDefEqProofs [hn', hn, patOk]

/-! ### the law's own functions -/
noncomputable def sp_toFraction : List AV → Option (AV) := pf (ι := (Int) × (Int)) (α := AV) (fun ⟨p, q⟩ => True) (fun ⟨p, q⟩ => [.agg [.int .i64 p, .int .i64 q]]) (fun ⟨p, q⟩ => .agg [.int .i64 p, .int .i64 q])
theorem sp_toFraction_eq (p q : Int) : sp_toFraction [.agg [.int .i64 p, .int .i64 q]] = some (.agg [.int .i64 p, .int .i64 q]) := by
  unfold sp_toFraction
  exact pf_eq (ι := (Int) × (Int)) (α := AV) (p, q) trivial (by rintro ⟨p', q'⟩ _ e; simp_all [Int.natCast_inj])
attribute [simp] sp_toFraction_eq
noncomputable def sp_toGraph : List AV → Option (AV) := pf (ι := (Int) × (Int)) (α := AV) (fun ⟨n, e⟩ => True) (fun ⟨n, e⟩ => [.agg [.int .i64 n, .int .u32 e]]) (fun ⟨n, e⟩ => .agg [.int .i64 n, .int .u32 e])
theorem sp_toGraph_eq (n e : Int) : sp_toGraph [.agg [.int .i64 n, .int .u32 e]] = some (.agg [.int .i64 n, .int .u32 e]) := by
  unfold sp_toGraph
  exact pf_eq (ι := (Int) × (Int)) (α := AV) (n, e) trivial (by rintro ⟨n', e'⟩ _ e; simp_all [Int.natCast_inj])
attribute [simp] sp_toGraph_eq
theorem frsA_cells (l : List Fr) : ∀ x ∈ frsA l, x.cells.length = 2 ∧ ltL 0 x.cells = true := by
  intro x hx
  obtain ⟨p, _, rfl⟩ := List.mem_map.1 hx
  exact ⟨rfl, rfl⟩
noncomputable def sp_eqFraction : List AV → Option (AV) := pf (ι := (Int) × (Int) × (Int) × (Int)) (α := AV) (fun ⟨p, q, p', q'⟩ => True) (fun ⟨p, q, p', q'⟩ => [.agg [.int .i64 p, .int .i64 q], .agg [.int .i64 p', .int .i64 q']]) (fun ⟨p, q, p', q'⟩ => .bool (p == p' && q == q'))
theorem sp_eqFraction_eq (p q p' q' : Int) : sp_eqFraction [.agg [.int .i64 p, .int .i64 q], .agg [.int .i64 p', .int .i64 q']] = some (.bool (p == p' && q == q')) := by
  unfold sp_eqFraction
  exact pf_eq (ι := (Int) × (Int) × (Int) × (Int)) (α := AV) (p, q, p', q') trivial (by rintro ⟨p', q', p'', q''⟩ _ e; simp_all [Int.natCast_inj])
attribute [simp] sp_eqFraction_eq
theorem q_laws_eqFraction : QP PP 95 sp_eqFraction := by
  refine QP_pf (fun i h => ?_) fun i h => ?_
  · obtain ⟨p, q, p', q'⟩ := i; exact ⟨by first | rfl | simp, by first | rfl | simp⟩
  obtain ⟨p, q, p', q'⟩ := i
  replace h : True := h
  refine P_code Quiet.nil hmix k_laws_eqFraction rfl ?_ ?_
  · first | rfl | simp
  show wpc 0 PP _ c_laws_eqFraction (initSt [.agg [.int .i64 p, .int .i64 q], .agg [.int .i64 p', .int .i64 q']] .nil) (endP r_laws_eqFraction (.bool (p == p' && q == q')))
  simp -dsimp -implicitDefEqProofs [c_laws_eqFraction, r_laws_eqFraction]
  repeat' (refine brW_of (fun h => ?_) (fun h => ?_) <;> have h0 := h <;> (try simp only [Bool.and_eq_true, Bool.and_eq_false_iff, Bool.or_eq_true, Bool.or_eq_false_iff, Bool.not_eq_true', Bool.not_eq_false', decide_eq_true_eq, decide_eq_false_iff_not, beq_iff_eq, beq_eq_false_iff_ne, bne_iff_ne, bne_eq_false_iff_eq] at h) <;> simp -dsimp -implicitDefEqProofs [h, h0, *])
noncomputable def sp_eqGraph : List AV → Option (AV) := pf (ι := (Int) × (Int) × (Int) × (Int)) (α := AV) (fun ⟨p, q, p', q'⟩ => True) (fun ⟨p, q, p', q'⟩ => [.agg [.int .i64 p, .int .u32 q], .agg [.int .i64 p', .int .u32 q']]) (fun ⟨p, q, p', q'⟩ => .bool (p == p' && q == q'))
theorem sp_eqGraph_eq (p q p' q' : Int) : sp_eqGraph [.agg [.int .i64 p, .int .u32 q], .agg [.int .i64 p', .int .u32 q']] = some (.bool (p == p' && q == q')) := by
  unfold sp_eqGraph
  exact pf_eq (ι := (Int) × (Int) × (Int) × (Int)) (α := AV) (p, q, p', q') trivial (by rintro ⟨p', q', p'', q''⟩ _ e; simp_all [Int.natCast_inj])
attribute [simp] sp_eqGraph_eq
theorem q_laws_eqGraph : QP PP 40 sp_eqGraph := by
  refine QP_pf (fun i h => ?_) fun i h => ?_
  · obtain ⟨p, q, p', q'⟩ := i; exact ⟨by first | rfl | simp, by first | rfl | simp⟩
  obtain ⟨p, q, p', q'⟩ := i
  replace h : True := h
  refine P_code Quiet.nil hmix k_laws_eqGraph rfl ?_ ?_
  · first | rfl | simp
  show wpc 0 PP _ c_laws_eqGraph (initSt [.agg [.int .i64 p, .int .u32 q], .agg [.int .i64 p', .int .u32 q']] .nil) (endP r_laws_eqGraph (.bool (p == p' && q == q')))
  simp -dsimp -implicitDefEqProofs [c_laws_eqGraph, r_laws_eqGraph]
  repeat' (refine brW_of (fun h => ?_) (fun h => ?_) <;> have h0 := h <;> (try simp only [Bool.and_eq_true, Bool.and_eq_false_iff, Bool.or_eq_true, Bool.or_eq_false_iff, Bool.not_eq_true', Bool.not_eq_false', decide_eq_true_eq, decide_eq_false_iff_not, beq_iff_eq, beq_eq_false_iff_ne, bne_iff_ne, bne_eq_false_iff_eq] at h) <;> simp -dsimp -implicitDefEqProofs [h, h0, *])
noncomputable def sp_eqFractionS : List AV → Option (AV) := pf (ι := (List Fr) × (List Fr)) (α := AV) (fun ⟨l, k⟩ => l.length ≤ maxLen) (fun ⟨l, k⟩ => [.sl (frsA l) false, .sl (frsA k) false]) (fun ⟨l, k⟩ => .bool (decide (l = k)))
theorem sp_eqFractionS_eq (l k : List Fr) (h : l.length ≤ maxLen) : sp_eqFractionS [.sl (frsA l) false, .sl (frsA k) false] = some (.bool (decide (l = k))) := by
  unfold sp_eqFractionS
  exact pf_eq (ι := (List Fr) × (List Fr)) (α := AV) (l, k) h (by rintro ⟨l', k'⟩ _ e; simp_all [Int.natCast_inj])
theorem q_laws_eqFractionS : QP PP 41 sp_eqFractionS := by
  refine QP_pf (fun i h => ?_) fun i h => ?_
  · obtain ⟨l, k⟩ := i; exact ⟨by first | rfl | simp, by first | rfl | simp⟩
  obtain ⟨l, k⟩ := i
  replace h : l.length ≤ maxLen := h
  refine P_code (Quiet.q1 q_laws_eqFraction Quiet.nil) hmix k_laws_eqFractionS rfl ?_ ?_
  · first | rfl | simp
  show wpc 0 PP _ c_laws_eqFractionS (initSt [.sl (frsA l) false, .sl (frsA k) false] .nil) (endP r_laws_eqFractionS (.bool (decide (l = k))))
  simp only [maxLen] at h
  by_cases hlen : l.length = k.length
  · simp -dsimp -implicitDefEqProofs [c_laws_eqFractionS, r_laws_eqFractionS, hlen]
    refine wpLoop_st (fun (i : Nat) => ⟨tl [(0, .sl (frsA l) false), (1, .sl (frsA k) false), (5, .int .i64 i)], ⟨[]⟩⟩) (fun i => i ≤ l.length ∧ l.take i = k.take i) (fun i => l.length - i) 0 ⟨Nat.zero_le _, rfl⟩ (Sub.keep (by simp) (by simp [hsub]) (by simp)) ?_
    rintro i ⟨h1, h2⟩
    simp -dsimp -implicitDefEqProofs
    refine brW_of (fun h => ?_) (fun h => ?_) <;> simp only [decide_eq_true_eq, decide_eq_false_iff_not] at h
    · have hi : i < l.length := by omega
      have hj : i < k.length := by omega
      have hw := wrapNat (i := i) (by omega)
      by_cases he : l[i] = k[i]
      · simp -dsimp -implicitDefEqProofs [hi, hj, hw, he]
        exact .mk (i + 1) ⟨by omega, by rw [take_snoc l i hi, take_snoc k i hj, h2, he]⟩ (by omega) (Sub.keep (by simp) (by simp [hsub]) (by simp))
      · have hne : ¬ l = k := fun e => he (by subst e; rfl)
        have he' : (l[i].p == k[i].p && l[i].q == k[i].q) = false := by
          rw [Bool.eq_false_iff]
          intro hh
          simp at hh
          apply he
          cases hx : l[i]; cases hy : k[i]
          simp_all
        have he2 : (!(l[i].p == k[i].p) || !(l[i].q == k[i].q)) = true := by rw [← Bool.not_and, he']; rfl
        simp -dsimp -implicitDefEqProofs [hi, hj, hw, hne, he', he2]
    · have hi : i = l.length := by omega
      have he : l = k := by
        rw [hi, List.take_length, hlen, List.take_length] at h2
        exact h2
      simp -dsimp -implicitDefEqProofs [he]
  · have hne : ¬ l = k := fun e => hlen (by rw [e])
    have hln : ((l.length : Int) != (k.length : Int)) = true := by simp; omega
    simp -dsimp -implicitDefEqProofs [c_laws_eqFractionS, r_laws_eqFractionS, hln, hne]
noncomputable def sp_eqPattern : List AV → Option (AV) := pf (ι := (Int) × (Int) × (Int) × (List Fr) × (Int) × (Int) × (Int) × (List Fr)) (α := AV) (fun ⟨n, e, l, ps, n', e', l', ps'⟩ => ps.length ≤ maxLen) (fun ⟨n, e, l, ps, n', e', l', ps'⟩ => [.agg [.int .i64 n, .int .u32 e, .int .u32 l, .sl (frsA ps) false], .agg [.int .i64 n', .int .u32 e', .int .u32 l', .sl (frsA ps') false]]) (fun ⟨n, e, l, ps, n', e', l', ps'⟩ => .bool ((n == n' && e == e') && (l == l') && decide (ps = ps')))
theorem sp_eqPattern_eq (n e l : Int) (ps : List Fr) (n' e' l' : Int) (ps' : List Fr) (h : ps.length ≤ maxLen) : sp_eqPattern [.agg [.int .i64 n, .int .u32 e, .int .u32 l, .sl (frsA ps) false], .agg [.int .i64 n', .int .u32 e', .int .u32 l', .sl (frsA ps') false]] = some (.bool ((n == n' && e == e') && (l == l') && decide (ps = ps'))) := by
  unfold sp_eqPattern
  exact pf_eq (ι := (Int) × (Int) × (Int) × (List Fr) × (Int) × (Int) × (Int) × (List Fr)) (α := AV) (n, e, l, ps, n', e', l', ps') h (by rintro ⟨n', e', l', ps', n'', e'', l'', ps''⟩ _ e; simp_all [Int.natCast_inj])
theorem q_laws_eqPattern : QP PP 9 sp_eqPattern := by
  refine QP_pf (fun i h => ?_) fun i h => ?_
  · obtain ⟨n, e, l, ps, n', e', l', ps'⟩ := i; exact ⟨by first | rfl | simp, by first | rfl | simp⟩
  obtain ⟨n, e, l, ps, n', e', l', ps'⟩ := i
  replace h : ps.length ≤ maxLen := h
  refine P_code (Quiet.q1 q_laws_eqGraph (Quiet.q1 q_laws_eqFractionS Quiet.nil)) hmix k_laws_eqPattern rfl ?_ ?_
  · first | rfl | simp
  show wpc 0 PP _ c_laws_eqPattern (initSt [.agg [.int .i64 n, .int .u32 e, .int .u32 l, .sl (frsA ps) false], .agg [.int .i64 n', .int .u32 e', .int .u32 l', .sl (frsA ps') false]] .nil) (endP r_laws_eqPattern (.bool ((n == n' && e == e') && (l == l') && decide (ps = ps'))))
  by_cases h4 : ps = ps'
  · subst h4
    simp -dsimp -implicitDefEqProofs [c_laws_eqPattern, r_laws_eqPattern, sp_eqFractionS_eq ps ps h]
    cases h1 : n == n' <;> cases h2 : e == e' <;> cases h3 : l == l' <;> simp -dsimp -implicitDefEqProofs [h1, h2, h3, bne, sp_eqFractionS_eq ps ps h]
  · simp -dsimp -implicitDefEqProofs [c_laws_eqPattern, r_laws_eqPattern, sp_eqFractionS_eq ps ps' h]
    cases h1 : n == n' <;> cases h2 : e == e' <;> cases h3 : l == l' <;> simp -dsimp -implicitDefEqProofs [h1, h2, h3, h4, bne, sp_eqFractionS_eq ps ps' h]

end Go.Proofs.YtlglgcmpeabdnaaGreatDoorAi
end

section
/- Contracts and law: FractionText. -/
namespace Go.Proofs.YtlglgcmpeabdnaaGreatDoorAi
open Go Go.RowKit
set_option linter.unusedVariables false
set_option linter.unusedSimpArgs false
set_option maxRecDepth 20000

theorem frOk_bd {p q : Int} (h : frOk p q = true) : (-1000000000 ≤ p ∧ p ≤ 1000000000) ∧ (1 ≤ q ∧ q ≤ 1000000000) := by
  unfold frOk at h
  have := of_decide_eq_true h
  exact ⟨this.1, this.2.1⟩
def fracT (p q : Int) : ByteArray := if frOk p q = true then frT p q else noB
noncomputable def sp_fracText : List AV → Option (AV) := pf (ι := (Int) × (Int)) (α := AV) (fun ⟨p, q⟩ => True) (fun ⟨p, q⟩ => [.agg [.int .i64 p, .int .i64 q]]) (fun ⟨p, q⟩ => .str (fracT p q))
theorem sp_fracText_eq (p q : Int) : sp_fracText [.agg [.int .i64 p, .int .i64 q]] = some (.str (fracT p q)) := by
  unfold sp_fracText
  exact pf_eq (ι := (Int) × (Int)) (α := AV) (p, q) trivial (by rintro ⟨p', q'⟩ _ e; simp_all [Int.natCast_inj])
attribute [simp] sp_fracText_eq
theorem q_spec_FractionText : QP PP 71 sp_fracText := by
  refine QP_pf (fun i h => ?_) fun i h => ?_
  · obtain ⟨p, q⟩ := i; exact ⟨by first | rfl | simp, by first | rfl | simp⟩
  obtain ⟨p, q⟩ := i
  replace h : True := h
  refine P_code (Quiet.q1 q_spec_l02Ok (Quiet.q1 q_spec_l02Abs (Quiet.q1 q_spec_Decimal Quiet.nil))) hmix k_spec_FractionText rfl ?_ ?_
  · first | rfl | simp
  show wpc 0 PP _ c_spec_FractionText (initSt [.agg [.int .i64 p, .int .i64 q]] .nil) (endP r_spec_FractionText (.str (fracT p q)))
  cases hf : frOk p q with
  | false => simp -dsimp -implicitDefEqProofs [c_spec_FractionText, r_spec_FractionText, hf, fracT, noB]
  | true =>
    have hb := frOk_bd hf
    have ha := sp_size_eq p (by omega)
    have hd := sp_decS_eq p.natAbs (by omega)
    have hd2 := sp_decS_eq q (by omega)
    have s0 := decB_size p.natAbs (by omega) (by omega)
    have s2 := decB_size q (by omega) (by omega)
    have z1 : 1 + (decB p.natAbs).size ≤ 9223372036854775807 := by omega
    have z2 : 1 + (decB q).size ≤ 9223372036854775807 := by omega
    have z3 : (decB p.natAbs).size + (1 + (decB q).size) ≤ 9223372036854775807 := by omega
    have z4 : 1 + (decB p.natAbs).size + (1 + (decB q).size) ≤ 9223372036854775807 := by omega
    by_cases hp : p < 0
    · by_cases hq : q = 1
      · subst hq
        simp -dsimp -implicitDefEqProofs [c_spec_FractionText, r_spec_FractionText, hf, fracT, frT, ha, hd, hp, decB_neg hp, z1]
      · have hqb : (q != 1) = true := by simpa using hq
        simp -dsimp -implicitDefEqProofs [c_spec_FractionText, r_spec_FractionText, hf, fracT, frT, ha, hd, hd2, hp, hq, hqb, decB_neg hp, z1, z2, z4, slashB, ByteArray.append_assoc]
    · have e0 : ((p.natAbs : Nat) : Int) = p := by omega
      rw [e0] at hd s0 z1 z3 z4 ha
      by_cases hq : q = 1
      · subst hq
        simp -dsimp -implicitDefEqProofs [c_spec_FractionText, r_spec_FractionText, hf, fracT, frT, ha, hd, hp, z1]
      · have hqb : (q != 1) = true := by simpa using hq
        simp -dsimp -implicitDefEqProofs [c_spec_FractionText, r_spec_FractionText, hf, fracT, frT, ha, hd, hd2, hp, hq, hqb, z1, z2, z3, slashB, ByteArray.append_assoc]
theorem beq_ba (a : ByteArray) : (a == a) = true := by show (a.data == a.data) = true; simp
end Go.Proofs.YtlglgcmpeabdnaaGreatDoorAi
end

section
/- Plain law: numerals are parsed. Contracts: strconv.ParseInt, number. -/
namespace Go.Proofs.YtlglgcmpeabdnaaGreatDoorAi
open Go Go.RowKit
set_option linter.unusedVariables false
set_option linter.unusedSimpArgs false
set_option maxRecDepth 20000

/-! ### numerals -/
theorem dig_toNat {d : Nat} (h : d < 10) : (UInt8.ofNat (48 + d)).toNat = 48 + d := by
  rw [UInt8.toNat_ofNat']; omega
theorem decD_dig (u : Nat) : ∀ c ∈ Go.Lib.decDigits u, 48 ≤ c.toNat ∧ c.toNat ≤ 57 := by
  induction u using Nat.strongRecOn with
  | ind u ih =>
    intro c hc
    rw [Go.Lib.decDigits] at hc
    split at hc
    · obtain rfl := List.mem_singleton.1 hc
      rw [dig_toNat (by omega)]; omega
    · rcases List.mem_append.1 hc with hc | hc
      · exact ih (u / 10) (by omega) c hc
      · obtain rfl := List.mem_singleton.1 hc
        rw [dig_toNat (by omega)]; omega
theorem decD_ne (u : Nat) : Go.Lib.decDigits u ≠ [] := by
  intro h
  have := congrArg List.length h
  rw [Go.Lib.decDigits_length] at this
  have := Go.Lib.nDigits_pos u
  simp at *
  omega
theorem pU_snoc (M : Nat) (c : UInt8) : ∀ (l : List UInt8) (acc v : Nat), Go.Lib.parseUintM M acc l = .ok v → Go.Lib.parseUintM M acc (l ++ [c]) = Go.Lib.parseUintM M v [c]
  | [], acc, v, h => by
    rw [Go.Lib.parseUintM] at h
    injection h with h
    rw [h]; rfl
  | d :: l, acc, v, h => by
    rw [List.cons_append, Go.Lib.parseUintM]
    rw [Go.Lib.parseUintM] at h
    split at h
    · rename_i h1
      rw [if_pos h1]
      split at h
      · cases h
      · rename_i h2
        rw [if_neg h2]
        split at h
        · cases h
        · rename_i h3
          rw [if_neg h3]
          exact pU_snoc M c l _ v h
    · cases h
theorem pU_dec (u : Nat) (hu : u ≤ 9223372036854775808) : Go.Lib.parseUintM (2 ^ 64 - 1) 0 (Go.Lib.decDigits u) = .ok u := by
  induction u using Nat.strongRecOn with
  | ind u ih =>
    rw [Go.Lib.decDigits]
    split
    · rename_i h
      rw [Go.Lib.parseUintM, dig_toNat h, if_pos (by omega), if_neg (by omega), if_neg (by omega), Go.Lib.parseUintM]
      congr 1; omega
    · rw [pU_snoc _ _ _ _ _ (ih (u / 10) (by omega) (by omega)), Go.Lib.parseUintM, dig_toNat (by omega), if_pos (by omega), if_neg (by omega), if_neg (by omega), Go.Lib.parseUintM]
      congr 1; omega
theorem pUB_dec (u : Nat) (hu : u ≤ 9223372036854775808) : Go.Lib.parseUintB 64 (Go.Lib.decDigits u) = .ok u := by
  unfold Go.Lib.parseUintB
  rw [if_neg (decD_ne u), pU_dec u hu]
theorem pI_dec (n : Int) (h0 : -9223372036854775808 ≤ n) (h1 : n ≤ 9223372036854775807) : Go.Lib.parseIntB 64 (decB n).data.toList = .ok n := by
  have e : (decB n).data.toList = Go.Lib.itoa n := by simp [decB]
  rw [e]
  unfold Go.Lib.itoa
  by_cases hn : n < 0
  · rw [if_pos hn, Go.Lib.parseIntB]
    have h45 : (45 : UInt8).toNat = 45 := rfl
    simp only [h45]
    rw [if_pos (by simp), pUB_dec _ (by omega)]
    simp only
    rw [if_neg (by simp), if_neg (by omega)]
    simp; omega
  · rw [if_neg hn]
    have hp := pUB_dec n.toNat (by omega)
    have hd := decD_dig n.toNat
    cases hl : Go.Lib.decDigits n.toNat with
    | nil => exact absurd hl (decD_ne _)
    | cons c r =>
      rw [hl] at hp hd
      have hc := hd c (List.mem_cons_self ..)
      rw [Go.Lib.parseIntB]
      rw [if_neg (by omega), hp]
      simp only
      rw [if_neg (by omega), if_neg (by omega), if_neg (by omega)]
      congr 1; omega
theorem pI_in {l : List UInt8} {v : Int} (h : Go.Lib.parseIntB 64 l = .ok v) : -9223372036854775808 ≤ v ∧ v ≤ 9223372036854775807 := by
  unfold Go.Lib.parseIntB at h
  split at h
  · cases h
  · rename_i c r
    simp only at h
    split at h
    · cases h
    · cases h
    · rename_i u hu
      split at h
      · cases h
      · rename_i h1
        split at h
        · cases h
        · rename_i h2
          injection h with h
          subst h
          split <;> omega

/-! ### contracts -/
def numV (s : ByteArray) : Int := match Go.Lib.parseIntB 64 s.data.toList with
  | .ok v => v
  | .range => Go.Lib.intSat 64 s.data.toList
  | _ => 0
def numE (s : ByteArray) : Bool := match Go.Lib.parseIntB 64 s.data.toList with
  | .ok _ => true
  | _ => false
def parErr (s : ByteArray) : AV := if numE s = true then .nili else .iface
theorem parErr_lt (s : ByteArray) : (parErr s).lt 0 = true := by unfold parErr; split <;> rfl
noncomputable def sp_parseI : List AV → Option (AV) := pf (ι := (ByteArray)) (α := AV) (fun s => s.size ≤ 1048576) (fun s => [.str s, .int .i64 10, .int .i64 64]) (fun s => .tup [.int .i64 (numV s), parErr s])
theorem sp_parseI_eq (s : ByteArray) (h : s.size ≤ 1048576) : sp_parseI [.str s, .int .i64 10, .int .i64 64] = some (.tup [.int .i64 (numV s), parErr s]) := by
  unfold sp_parseI
  exact pf_eq (ι := (ByteArray)) (α := AV) s h (by rintro s' _ e; simp_all [Int.natCast_inj])
theorem var_cell0 {P : Program} {w : World} {name : String} {g : Nat} {v : Value} (hg : P.globalNamed name = some g) (h : w.var? P name = some #[v]) : w.cell? ⟨g, 0, none⟩ = some v := by
  have := World.var?_cell hg h 0
  simpa using this
theorem q_strconv_ParseInt : QP PP 87 sp_parseI := by
  refine QP_pf (fun s h => ?_) fun s h => ?_
  · exact ⟨by first | rfl | simp, by simp [parErr_lt]⟩
  replace h : s.size ≤ 1048576 := h
  refine T.lib ⟨_, Tryz.func87, by kernel_rfl, by kernel_rfl⟩ (fun σ w vs hr hG => ?_) .nil
  obtain ⟨v1, us, rfl, h1, h2⟩ := hr.head
  obtain ⟨v2, us2, rfl, h3, h4⟩ := h2.head
  obtain ⟨v3, us3, rfl, h5, h6⟩ := h4.head
  obtain rfl : us3 = [] := List.eq_nil_of_length_eq_zero h6.1.symm
  cases h1; cases h3; cases h5
  have rep2 : ∀ {x y : AV} {u v : Value}, Rep σ x u → Rep σ y v → Rep σ (.tup [x, y]) (.tuple #[u, v]) := by
    intro x y u v hu hv
    exact .tup [x, y] [u, v] rfl (fun i c z hc hz => by
      match i, hc, hz with
      | 0, hc, hz => cases hc; cases hz; exact hu
      | 1, hc, hz => cases hc; cases hz; exact hv
      | n + 2, hc, hz => cases hc)
  cases hp : Go.Lib.parseIntB 64 s.data.toList with
  | ok v =>
    have e1 : numV s = v := by unfold numV; rw [hp]
    have e2 : parErr s = .nili := by unfold parErr numE; rw [hp]; rfl
    refine (Tryz.strconv_ParseInt_10_at64_ok s (by omega) v hp w).mono ?_
    rintro e w' ⟨rfl, hw⟩
    refine ⟨_, rfl, ?_, ?_⟩
    · rcases hw with rfl | ⟨t, rfl⟩
      · exact Below.refl _ _
      · exact Go.Lib.bytesWorld_below _ _ _
    · rw [e1, e2]; exact rep2 (.int _ _) .nili
  | range =>
    have e1 : numV s = Go.Lib.intSat 64 s.data.toList := by unfold numV; rw [hp]
    have e2 : parErr s = .iface := by unfold parErr numE; rw [hp]; rfl
    obtain ⟨t, v, hv⟩ := hG.rng rfl (by kernel_rfl)
    refine (Go.Proofs.Any.strconv_ParseInt_10_at64_range Tryz.laysC174 s (by omega) hp (.iface t v) w (var_cell0 (by kernel_rfl) hv) (.inr ⟨t, v, rfl⟩)).mono ?_
    rintro e w' ⟨N, rfl, _, _, hb⟩
    refine ⟨_, rfl, hb, ?_⟩
    rw [e1, e2]; exact rep2 (.int _ _) (.iface _ _)
  | _ =>
    have e1 : numV s = 0 := by unfold numV; rw [hp]
    have e2 : parErr s = .iface := by unfold parErr numE; rw [hp]; rfl
    obtain ⟨t, v, hv⟩ := hG.syn rfl (by kernel_rfl)
    refine (Go.Proofs.Any.strconv_ParseInt_10_at64_syntax Tryz.laysC174 s (by omega) hp (.iface t v) w (var_cell0 (by kernel_rfl) hv) (.inr ⟨t, v, rfl⟩)).mono ?_
    rintro e w' ⟨N, rfl, _, _, hb⟩
    refine ⟨_, rfl, hb, ?_⟩
    rw [e1, e2]; exact rep2 (.int _ _) (.iface _ _)
end Go.Proofs.YtlglgcmpeabdnaaGreatDoorAi
end

section
/- MADE BY PROGRAM (wip/tools/gen.py): the abstract code of functions. -/
namespace Go.Proofs.YtlglgcmpeabdnaaGreatDoorAi
open Go AC AOp Opd
set_option linter.unusedVariables false
set_option maxRecDepth 100000
def c_impl_number : AC := seq (reg [⟨(some 2), mv (c (.int .i64 0)), none⟩, ⟨(some 3), mv (c (.bool false)), none⟩]) (seq (reg [⟨(some 7), mv (t 0), none⟩, ⟨(some 8), callq (c (.fn 87 [])) [t 7, c (.int .i64 10), c (.int .i64 64)], none⟩, ⟨(some 6), mv (t 8), none⟩, ⟨(some 9), ext (t 6) 0, none⟩, ⟨(some 10), ext (t 6) 1, none⟩, ⟨(some 4), mv (t 9), none⟩, ⟨(some 5), mv (t 10), none⟩]) (seq (reg [⟨(some 11), mv (t 4), none⟩, ⟨(some 12), mv (t 5), none⟩, ⟨(some 13), eqi false (t 12), none⟩, ⟨(some 14), mv (t 13), none⟩, ⟨(some 15), mv (t 4), some (14, true)⟩, ⟨(some 16), callq (c (.fn 50 [])) [t 15], some (14, true)⟩, ⟨(some 17), mv (t 0), some (14, true)⟩, ⟨(some 18), bin .eql (t 16) (t 17), some (14, true)⟩, ⟨(some 19), pick (t 14) (t 18) (c (.bool false)), none⟩, ⟨(some 2), mv (t 11), none⟩, ⟨(some 3), mv (t 19), none⟩]) (ret)))
def r_impl_number : List ARes := [.tmp 2, .tmp 3]
theorem k_impl_number : acLin Go.Proofs.Tryz.prog 36 1 (inQ [50, 87] []) [] = some (c_impl_number, r_impl_number) := by kernel_rfl
def c_impl_ReadFraction : AC := seq (reg [⟨(some 2), alloc [.int .i64 0, .int .i64 0], none⟩, ⟨(some 3), mv (c (.int .i64 0)), none⟩]) (seq (reg [⟨(some 13), mv (t 0), none⟩, ⟨(some 14), callq (c (.fn 59 [])) [t 13, c (.str ⟨#[47]⟩)], none⟩, ⟨(some 12), mv (t 14), none⟩, ⟨(some 15), ext (t 12) 0, none⟩, ⟨(some 16), ext (t 12) 1, none⟩, ⟨(some 17), ext (t 12) 2, none⟩, ⟨(some 4), mv (t 15), none⟩, ⟨(some 5), mv (t 16), none⟩, ⟨(some 6), mv (t 17), none⟩]) (seq (seq (reg [⟨(some 18), mv (t 6), none⟩, ⟨(some 19), un .not (t 18), none⟩]) (cond (t 19) (reg [⟨(some 5), mv (c (.str ⟨#[49]⟩)), none⟩]) (skip))) (seq (reg [⟨(some 21), mv (t 4), none⟩, ⟨(some 22), callq (c (.fn 36 [])) [t 21], none⟩, ⟨(some 20), mv (t 22), none⟩, ⟨(some 23), ext (t 20) 0, none⟩, ⟨(some 24), ext (t 20) 1, none⟩, ⟨(some 7), mv (t 23), none⟩, ⟨(some 8), mv (t 24), none⟩]) (seq (reg [⟨(some 26), mv (t 5), none⟩, ⟨(some 27), callq (c (.fn 36 [])) [t 26], none⟩, ⟨(some 25), mv (t 27), none⟩, ⟨(some 28), ext (t 25) 0, none⟩, ⟨(some 29), ext (t 25) 1, none⟩, ⟨(some 9), mv (t 28), none⟩, ⟨(some 10), mv (t 29), none⟩]) (seq (reg [⟨(some 30), mv (t 7), none⟩, ⟨(some 31), mv (t 9), none⟩, ⟨(some 32), bld [.int .i64 0, .int .i64 0] [(0, 1, t 30), (1, 1, t 31)], none⟩, ⟨(some 11), alloc [.int .i64 0, .int .i64 0], none⟩, ⟨none, st (t 11) 2 (t 32), none⟩]) (seq (seq (reg [⟨(some 33), mv (t 8), none⟩, ⟨(some 34), un .not (t 33), none⟩, ⟨(some 35), mv (t 34), none⟩, ⟨(some 36), mv (t 10), some (35, false)⟩, ⟨(some 37), un .not (t 36), some (35, false)⟩, ⟨(some 38), pick (t 35) (c (.bool true)) (t 37), none⟩, ⟨(some 39), mv (t 38), none⟩, ⟨(some 40), ld (t 11) 2 true, some (39, false)⟩, ⟨(some 41), callq (c (.fn 133 [])) [t 40], some (39, false)⟩, ⟨(some 42), un .not (t 41), some (39, false)⟩, ⟨(some 43), pick (t 39) (c (.bool true)) (t 42), none⟩, ⟨(some 44), mv (t 43), none⟩, ⟨(some 45), ld (t 11) 2 true, some (44, false)⟩, ⟨(some 46), callq (c (.fn 134 [])) [t 45], some (44, false)⟩, ⟨(some 47), mv (t 0), some (44, false)⟩, ⟨(some 48), bin .neq (t 46) (t 47), some (44, false)⟩, ⟨(some 49), pick (t 44) (c (.bool true)) (t 48), none⟩]) (cond (t 49) (seq (reg [⟨(some 50), bld [.int .i64 0, .int .i64 0] [], none⟩, ⟨none, st (t 2) 2 (t 50), none⟩, ⟨(some 3), mv (c (.int .i64 5)), none⟩]) (ret)) (skip))) (seq (reg [⟨(some 51), ld (t 11) 2 true, none⟩, ⟨none, st (t 2) 2 (t 51), none⟩, ⟨(some 3), mv (c (.int .i64 0)), none⟩]) (ret))))))))
def r_impl_ReadFraction : List ARes := [.cell 2 2 true, .tmp 3]
theorem k_impl_ReadFraction : acLin Go.Proofs.Tryz.prog 86 1 (inQ [36, 59, 133, 134] []) [] = some (c_impl_ReadFraction, r_impl_ReadFraction) := by kernel_rfl
def c_spec_l01Split : AC := seq (reg [⟨(some 4), mv (c (.sl [] true)), none⟩]) (seq (reg [⟨(some 8), bsl 1 0 [.str ⟨#[]⟩] [], none⟩, ⟨(some 5), mv (t 8), none⟩]) (seq (reg [⟨(some 6), mv (c (.int .i64 0)), none⟩]) (seq (seq (reg [⟨(some 7), mv (c (.int .i64 0)), none⟩]) (block 0 (loop (seq (seq (reg [⟨(some 9), mv (t 7), none⟩, ⟨(some 10), mv (t 0), none⟩, ⟨(some 11), lens (t 10), none⟩, ⟨(some 12), bin .lss (t 9) (t 11), none⟩]) (cond (t 12) (skip) (exit 0))) (seq (block 1 (seq (reg [⟨(some 15), mv (t 0), none⟩, ⟨(some 16), mv (t 7), none⟩, ⟨(some 17), idx (t 15) (t 16), none⟩, ⟨(some 18), mv (t 1), none⟩, ⟨(some 19), bin .eql (t 17) (t 18), none⟩]) (cond (t 19) (seq (reg [⟨(some 20), mv (t 5), none⟩, ⟨(some 21), mv (t 0), none⟩, ⟨(some 22), mv (t 6), none⟩, ⟨(some 23), mv (t 7), none⟩, ⟨(some 24), sls (t 21) (some (t 22)) (some (t 23)), none⟩, ⟨(some 25), bsl 1 1 [.str ⟨#[]⟩] [(0, t 24)], none⟩, ⟨(some 26), app 1 16 (t 20) (t 25), none⟩, ⟨(some 5), mv (t 26), none⟩]) (reg [⟨(some 27), mv (t 7), none⟩, ⟨(some 28), bin .add (t 27) (c (.int .i64 1)), none⟩, ⟨(some 6), mv (t 28), none⟩])) (skip)))) (reg [⟨(some 13), mv (t 7), none⟩, ⟨(some 14), bin .add (t 13) (c (.int .i64 1)), none⟩, ⟨(some 7), mv (t 14), none⟩])))))) (seq (reg [⟨(some 29), mv (t 5), none⟩, ⟨(some 30), mv (t 0), none⟩, ⟨(some 31), mv (t 6), none⟩, ⟨(some 32), sls (t 30) (some (t 31)) none, none⟩, ⟨(some 33), bsl 1 1 [.str ⟨#[]⟩] [(0, t 32)], none⟩, ⟨(some 34), app 1 16 (t 29) (t 33), none⟩, ⟨(some 4), mv (t 34), none⟩]) (ret)))))
def r_spec_l01Split : List ARes := [.tmp 4]
theorem k_spec_l01Split : acLin Go.Proofs.Tryz.prog 26 2 (inQ [] []) [] = some (c_spec_l01Split, r_spec_l01Split) := by kernel_rfl
def c_spec_l01Number : AC := seq (reg [⟨(some 2), mv (c (.int .i64 0)), none⟩, ⟨(some 3), mv (c (.bool false)), none⟩]) (seq (seq (reg [⟨(some 6), mv (t 0), none⟩, ⟨(some 7), lens (t 6), none⟩, ⟨(some 8), bin .lss (t 7) (c (.int .i64 1)), none⟩, ⟨(some 9), mv (t 8), none⟩, ⟨(some 10), mv (t 0), some (9, false)⟩, ⟨(some 11), lens (t 10), some (9, false)⟩, ⟨(some 12), bin .gtr (t 11) (c (.int .i64 9)), some (9, false)⟩, ⟨(some 13), pick (t 9) (c (.bool true)) (t 12), none⟩, ⟨(some 14), mv (t 13), none⟩, ⟨(some 15), mv (t 0), some (14, false)⟩, ⟨(some 16), idx (t 15) (c (.int .i64 0)), some (14, false)⟩, ⟨(some 17), bin .eql (t 16) (c (.int .u8 48)), some (14, false)⟩, ⟨(some 18), mv (t 17), some (14, false)⟩, ⟨(some 19), mv (t 0), some (18, true)⟩, ⟨(some 20), lens (t 19), some (18, true)⟩, ⟨(some 21), bin .gtr (t 20) (c (.int .i64 1)), some (18, true)⟩, ⟨(some 22), pick (t 18) (t 21) (c (.bool false)), some (14, false)⟩, ⟨(some 23), pick (t 14) (c (.bool true)) (t 22), none⟩]) (cond (t 23) (seq (reg [⟨(some 2), mv (c (.int .i64 0)), none⟩, ⟨(some 3), mv (c (.bool false)), none⟩]) (ret)) (skip))) (seq (reg [⟨(some 4), mv (c (.int .i64 0)), none⟩]) (seq (seq (reg [⟨(some 5), mv (c (.int .i64 0)), none⟩]) (block 0 (loop (seq (seq (reg [⟨(some 24), mv (t 5), none⟩, ⟨(some 25), mv (t 0), none⟩, ⟨(some 26), lens (t 25), none⟩, ⟨(some 27), bin .lss (t 24) (t 26), none⟩]) (cond (t 27) (skip) (exit 0))) (seq (block 1 (seq (seq (reg [⟨(some 30), mv (t 0), none⟩, ⟨(some 31), mv (t 5), none⟩, ⟨(some 32), idx (t 30) (t 31), none⟩, ⟨(some 33), bin .lss (t 32) (c (.int .u8 48)), none⟩, ⟨(some 34), mv (t 33), none⟩, ⟨(some 35), mv (t 0), some (34, false)⟩, ⟨(some 36), mv (t 5), some (34, false)⟩, ⟨(some 37), idx (t 35) (t 36), some (34, false)⟩, ⟨(some 38), bin .gtr (t 37) (c (.int .u8 57)), some (34, false)⟩, ⟨(some 39), pick (t 34) (c (.bool true)) (t 38), none⟩]) (cond (t 39) (seq (reg [⟨(some 2), mv (c (.int .i64 0)), none⟩, ⟨(some 3), mv (c (.bool false)), none⟩]) (ret)) (skip))) (reg [⟨(some 40), mv (t 4), none⟩, ⟨(some 41), bin .mul (t 40) (c (.int .i64 10)), none⟩, ⟨(some 42), mv (t 0), none⟩, ⟨(some 43), mv (t 5), none⟩, ⟨(some 44), idx (t 42) (t 43), none⟩, ⟨(some 45), bin .sub (t 44) (c (.int .u8 48)), none⟩, ⟨(some 46), conv .i64 (t 45), none⟩, ⟨(some 47), bin .add (t 41) (t 46), none⟩, ⟨(some 4), mv (t 47), none⟩]))) (reg [⟨(some 28), mv (t 5), none⟩, ⟨(some 29), bin .add (t 28) (c (.int .i64 1)), none⟩, ⟨(some 5), mv (t 29), none⟩])))))) (seq (reg [⟨(some 48), mv (t 4), none⟩, ⟨(some 2), mv (t 48), none⟩, ⟨(some 3), mv (c (.bool true)), none⟩]) (ret)))))
def r_spec_l01Number : List ARes := [.tmp 2, .tmp 3]
theorem k_spec_l01Number : acLin Go.Proofs.Tryz.prog 28 1 (inQ [] []) [] = some (c_spec_l01Number, r_spec_l01Number) := by kernel_rfl
def c_spec_l02Whole : AC := seq (reg [⟨(some 2), mv (c (.int .i64 0)), none⟩, ⟨(some 3), mv (c (.bool false)), none⟩]) (seq (seq (reg [⟨(some 4), mv (t 0), none⟩, ⟨(some 5), lens (t 4), none⟩, ⟨(some 6), bin .eql (t 5) (c (.int .i64 10)), none⟩, ⟨(some 7), mv (t 6), none⟩, ⟨(some 8), mv (t 0), some (7, true)⟩, ⟨(some 9), bin .eql (t 8) (c (.str ⟨#[49, 48, 48, 48, 48, 48, 48, 48, 48, 48]⟩)), some (7, true)⟩, ⟨(some 10), pick (t 7) (t 9) (c (.bool false)), none⟩]) (cond (t 10) (seq (reg [⟨(some 2), mv (c (.int .i64 1000000000)), none⟩, ⟨(some 3), mv (c (.bool true)), none⟩]) (ret)) (skip))) (seq (reg [⟨(some 11), mv (t 0), none⟩, ⟨(some 12), callq (c (.fn 28 [])) [t 11], none⟩, ⟨(some 13), ext (t 12) 0, none⟩, ⟨(some 14), ext (t 12) 1, none⟩, ⟨(some 2), mv (t 13), none⟩, ⟨(some 3), mv (t 14), none⟩]) (ret)))
def r_spec_l02Whole : List ARes := [.tmp 2, .tmp 3]
theorem k_spec_l02Whole : acLin Go.Proofs.Tryz.prog 69 1 (inQ [28] []) [] = some (c_spec_l02Whole, r_spec_l02Whole) := by kernel_rfl
def c_spec_l02Read : AC := seq (reg [⟨(some 2), alloc [.int .i64 0, .int .i64 0], none⟩, ⟨(some 3), mv (c (.bool false)), none⟩]) (seq (reg [⟨(some 11), mv (t 0), none⟩, ⟨(some 12), calle (c (.fn 26 [])) [t 11, c (.int .u8 47)] [], none⟩, ⟨(some 4), mv (t 12), none⟩]) (seq (reg [⟨(some 13), mv (t 4), none⟩, ⟨(some 14), iad 1 (t 13) (c (.int .i64 0)), none⟩, ⟨(some 15), ld (t 14) 1 false, none⟩, ⟨(some 5), mv (t 15), none⟩]) (seq (reg [⟨(some 16), mv (t 5), none⟩, ⟨(some 17), lens (t 16), none⟩, ⟨(some 18), bin .gtr (t 17) (c (.int .i64 0)), none⟩, ⟨(some 19), mv (t 18), none⟩, ⟨(some 20), mv (t 5), some (19, true)⟩, ⟨(some 21), idx (t 20) (c (.int .i64 0)), some (19, true)⟩, ⟨(some 22), bin .eql (t 21) (c (.int .u8 45)), some (19, true)⟩, ⟨(some 23), pick (t 19) (t 22) (c (.bool false)), none⟩, ⟨(some 6), mv (t 23), none⟩]) (seq (seq (reg [⟨(some 24), mv (t 6), none⟩]) (cond (t 24) (reg [⟨(some 25), mv (t 5), none⟩, ⟨(some 26), sls (t 25) (some (c (.int .i64 1))) none, none⟩, ⟨(some 5), mv (t 26), none⟩]) (skip))) (seq (reg [⟨(some 28), mv (t 5), none⟩, ⟨(some 29), callq (c (.fn 69 [])) [t 28], none⟩, ⟨(some 27), mv (t 29), none⟩, ⟨(some 30), ext (t 27) 0, none⟩, ⟨(some 31), ext (t 27) 1, none⟩, ⟨(some 7), mv (t 30), none⟩, ⟨(some 8), mv (t 31), none⟩]) (seq (reg [⟨(some 32), mv (t 7), none⟩, ⟨(some 33), bld [.int .i64 0, .int .i64 0] [(0, 1, t 32), (1, 1, c (.int .i64 1))], none⟩, ⟨(some 9), alloc [.int .i64 0, .int .i64 0], none⟩, ⟨none, st (t 9) 2 (t 33), none⟩]) (seq (seq (reg [⟨(some 34), mv (t 6), none⟩]) (cond (t 34) (reg [⟨(some 35), mv (t 7), none⟩, ⟨(some 36), un .neg (t 35), none⟩, ⟨(some 37), fad (t 9) 0, none⟩, ⟨none, st (t 37) 1 (t 36), none⟩]) (skip))) (seq (reg [⟨(some 38), mv (t 4), none⟩, ⟨(some 39), len (t 38), none⟩, ⟨(some 40), bin .eql (t 39) (c (.int .i64 1)), none⟩, ⟨(some 10), mv (t 40), none⟩]) (seq (seq (reg [⟨(some 41), mv (t 4), none⟩, ⟨(some 42), len (t 41), none⟩, ⟨(some 43), bin .eql (t 42) (c (.int .i64 2)), none⟩]) (cond (t 43) (reg [⟨(some 45), mv (t 4), none⟩, ⟨(some 46), iad 1 (t 45) (c (.int .i64 1)), none⟩, ⟨(some 47), ld (t 46) 1 false, none⟩, ⟨(some 48), callq (c (.fn 69 [])) [t 47], none⟩, ⟨(some 44), mv (t 48), none⟩, ⟨(some 49), ext (t 44) 0, none⟩, ⟨(some 50), ext (t 44) 1, none⟩, ⟨(some 51), fad (t 9) 1, none⟩, ⟨none, st (t 51) 1 (t 49), none⟩, ⟨(some 10), mv (t 50), none⟩]) (skip))) (seq (reg [⟨(some 52), ld (t 9) 2 true, none⟩, ⟨(some 53), mv (t 8), none⟩, ⟨(some 54), mv (t 53), none⟩, ⟨(some 55), mv (t 10), some (54, true)⟩, ⟨(some 56), pick (t 54) (t 55) (c (.bool false)), none⟩, ⟨(some 57), mv (t 56), none⟩, ⟨(some 58), ld (t 9) 2 true, some (57, true)⟩, ⟨(some 59), callq (c (.fn 70 [])) [t 58], some (57, true)⟩, ⟨(some 60), pick (t 57) (t 59) (c (.bool false)), none⟩, ⟨(some 61), mv (t 60), none⟩, ⟨(some 62), ld (t 9) 2 true, some (61, true)⟩, ⟨(some 63), callq (c (.fn 71 [])) [t 62], some (61, true)⟩, ⟨(some 64), mv (t 0), some (61, true)⟩, ⟨(some 65), bin .eql (t 63) (t 64), some (61, true)⟩, ⟨(some 66), pick (t 61) (t 65) (c (.bool false)), none⟩, ⟨none, st (t 2) 2 (t 52), none⟩, ⟨(some 3), mv (t 66), none⟩]) (ret)))))))))))
def r_spec_l02Read : List ARes := [.cell 2 2 true, .tmp 3]
theorem k_spec_l02Read : acLin Go.Proofs.Tryz.prog 29 1 (inQ [69, 70, 71] [26]) [⟨false, none, [], [], none⟩, ⟨false, none, [], [], none⟩, ⟨false, none, [], [], none⟩, ⟨false, none, [], [], none⟩, ⟨false, none, [], [], none⟩, ⟨false, none, [], [], none⟩, ⟨false, none, [], [], none⟩, ⟨false, none, [], [], none⟩, ⟨false, none, [], [], none⟩, ⟨false, none, [], [], none⟩, ⟨false, none, [], [], none⟩, ⟨false, none, [], [], none⟩, ⟨false, none, [], [], none⟩, ⟨false, some [0, 1, 2, 3, 4, 5, 6, 7, 8, 9, 10, 11, 12, 13, 14, 15, 16], [], [], none⟩] = some (c_spec_l02Read, r_spec_l02Read) := by kernel_rfl
end Go.Proofs.YtlglgcmpeabdnaaGreatDoorAi
end

section
/- Contracts: number, strings.Cut, ReadFraction of the program. -/
namespace Go.Proofs.YtlglgcmpeabdnaaGreatDoorAi
open Go Go.RowKit
set_option linter.unusedVariables false
set_option linter.unusedSimpArgs false
set_option maxRecDepth 20000

def numB (s : ByteArray) : Bool := numE s && (decB (numV s) == s)
theorem numV_in (s : ByteArray) (h : numE s = true) : -9223372036854775808 ≤ numV s ∧ numV s ≤ 9223372036854775807 := by
  unfold numE at h
  unfold numV
  cases hp : Go.Lib.parseIntB 64 s.data.toList with
  | ok v => exact pI_in hp
  | range => rw [hp] at h; cases h
  | _ => rw [hp] at h; cases h
theorem ba_eq {a b : ByteArray} : (a == b) = decide (a = b) := by
  show (a.data == b.data) = _
  rw [Bool.eq_iff_iff, decide_eq_true_iff, beq_iff_eq]
  exact ⟨fun h => ByteArray.ext h, fun h => by rw [h]⟩
theorem num_dec (n : Int) (h0 : -9223372036854775808 ≤ n) (h1 : n ≤ 9223372036854775807) : numV (decB n) = n ∧ numB (decB n) = true := by
  have hp := pI_dec n h0 h1
  have e1 : numV (decB n) = n := by unfold numV; rw [hp]
  have e2 : numE (decB n) = true := by unfold numE; rw [hp]
  refine ⟨e1, ?_⟩
  unfold numB
  rw [e1, e2, beq_ba]; rfl
noncomputable def sp_numI : List AV → Option (AV) := pf (ι := (ByteArray)) (α := AV) (fun s => s.size ≤ 1048576) (fun s => [.str s]) (fun s => .tup [.int .i64 (numV s), .bool (numB s)])
theorem sp_numI_eq (s : ByteArray) (h : s.size ≤ 1048576) : sp_numI [.str s] = some (.tup [.int .i64 (numV s), .bool (numB s)]) := by
  unfold sp_numI
  exact pf_eq (ι := (ByteArray)) (α := AV) s h (by rintro s' _ e; simp_all [Int.natCast_inj])
theorem q_impl_number : QP PP 36 sp_numI := by
  refine QP_pf (fun s h => ?_) fun s h => ?_
  · exact ⟨by first | rfl | simp, by first | rfl | simp⟩
  replace h : s.size ≤ 1048576 := h
  refine P_code (Quiet.q1 q_strconv_ParseInt (Quiet.q1 q_impl_decimal Quiet.nil)) hmix k_impl_number rfl ?_ ?_
  · first | rfl | simp
  show wpc 0 PP _ c_impl_number (initSt [.str s] .nil) (endP r_impl_number (.tup [.int .i64 (numV s), .bool (numB s)]))
  have hp := sp_parseI_eq s h
  unfold numB
  cases he : numE s with
  | false =>
    have e : parErr s = .iface := by unfold parErr; rw [he]; rfl
    rw [e] at hp
    simp -dsimp -implicitDefEqProofs [c_impl_number, r_impl_number, hp]
  | true =>
    have e : parErr s = .nili := by unfold parErr; rw [he]; rfl
    rw [e] at hp
    have hd := sp_decimal_eq (numV s) (numV_in s he)
    simp -dsimp -implicitDefEqProofs [c_impl_number, r_impl_number, hp, hd]

def cutA (s sep : ByteArray) : ByteArray := ⟨(Go.Lib.cut s.data.toList sep.data.toList).1.toArray⟩
def cutB (s sep : ByteArray) : ByteArray := ⟨(Go.Lib.cut s.data.toList sep.data.toList).2.1.toArray⟩
def cutI (s sep : ByteArray) : Bool := (Go.Lib.cut s.data.toList sep.data.toList).2.2
noncomputable def sp_cutS : List AV → Option (AV) := pf (ι := (ByteArray) × (ByteArray)) (α := AV) (fun ⟨s, sep⟩ => s.size ≤ 1048576) (fun ⟨s, sep⟩ => [.str s, .str sep]) (fun ⟨s, sep⟩ => .tup [.str (cutA s sep), .str (cutB s sep), .bool (cutI s sep)])
theorem sp_cutS_eq (s sep : ByteArray) (h : s.size ≤ 1048576) : sp_cutS [.str s, .str sep] = some (.tup [.str (cutA s sep), .str (cutB s sep), .bool (cutI s sep)]) := by
  unfold sp_cutS
  exact pf_eq (ι := (ByteArray) × (ByteArray)) (α := AV) (s, sep) h (by rintro ⟨s', sep'⟩ _ e; simp_all [Int.natCast_inj])
theorem q_strings_Cut : QP PP 59 sp_cutS := by
  refine QP_pf (fun i h => ?_) fun i h => ?_
  · obtain ⟨s, sep⟩ := i; exact ⟨by first | rfl | simp, by first | rfl | simp⟩
  obtain ⟨s, sep⟩ := i
  replace h : s.size ≤ 1048576 := h
  refine T.lib ⟨_, Tryz.func59, by kernel_rfl, by kernel_rfl⟩ (fun σ w vs hr hG => ?_) .nil
  obtain ⟨v1, us, rfl, h1, h2⟩ := hr.head
  obtain ⟨v2, us2, rfl, h3, h4⟩ := h2.head
  obtain rfl : us2 = [] := List.eq_nil_of_length_eq_zero h4.1.symm
  cases h1; cases h3
  obtain ⟨m, hm⟩ := hG.max (by kernel_rfl)
  refine (Tryz.strings_Cut s sep m w (by omega) (var_cell0 (by kernel_rfl) hm)).mono ?_
  rintro e w' ⟨rfl, n, rfl⟩
  refine ⟨_, rfl, ⟨rfl, rfl, rfl, Nat.le_refl _, fun _ _ => rfl⟩, ?_⟩
  exact .tup [.str (cutA s sep), .str (cutB s sep), .bool (cutI s sep)] [.string _, .string _, .bool _] rfl (fun i c z hc hz => by
    match i, hc, hz with
    | 0, hc, hz => cases hc; cases hz; exact .str _
    | 1, hc, hz => cases hc; cases hz; exact .str _
    | 2, hc, hz => cases hc; cases hz; exact .bool _
    | n + 3, hc, hz => cases hc)
theorem cut_sizes (s sep : ByteArray) : (cutA s sep).size ≤ s.size ∧ (cutB s sep).size ≤ s.size := by
  have e : s.size = s.data.toList.length := by rw [Array.length_toList]; rfl
  unfold cutA cutB Go.Lib.cut
  rw [e]
  split
  · simp only [ba_size, List.size_toArray, List.length_take, List.length_drop]; omega
  · simp only [ba_size, List.size_toArray, List.length_nil]; omega
def onesB : ByteArray := ⟨#[49]⟩
def topS (s : ByteArray) : ByteArray := cutA s slashB
def botS (s : ByteArray) : ByteArray := if cutI s slashB = true then cutB s slashB else onesB
def readOk (s : ByteArray) : Bool := (numB (topS s) && numB (botS s)) && frOk (numV (topS s)) (numV (botS s)) && (frT (numV (topS s)) (numV (botS s)) == s)
def readR (s : ByteArray) : AV := if readOk s = true then .tup [.agg [.int .i64 (numV (topS s)), .int .i64 (numV (botS s))], .int .i64 0] else .tup [.agg [.int .i64 0, .int .i64 0], .int .i64 5]
theorem readR_lt (s : ByteArray) : (readR s).lt 0 = true := by unfold readR; split <;> rfl
noncomputable def sp_readFr : List AV → Option (AV) := pf (ι := (ByteArray)) (α := AV) (fun s => s.size ≤ 1048576) (fun s => [.str s]) (fun s => readR s)
theorem sp_readFr_eq (s : ByteArray) (h : s.size ≤ 1048576) : sp_readFr [.str s] = some (readR s) := by
  unfold sp_readFr
  exact pf_eq (ι := (ByteArray)) (α := AV) s h (by rintro s' _ e; simp_all [Int.natCast_inj])
attribute [simp] readR_lt
theorem q_impl_ReadFraction : QP PP 86 sp_readFr := by
  refine QP_pf (fun s h => ?_) fun s h => ?_
  · exact ⟨by first | rfl | simp, by first | rfl | simp⟩
  replace h : s.size ≤ 1048576 := h
  refine P_code (Quiet.q1 q_strings_Cut (Quiet.q1 q_impl_number (Quiet.q1 q_impl_ValidFraction (Quiet.q1 q_impl_Fraction_text Quiet.nil)))) hmix k_impl_ReadFraction rfl ?_ ?_
  · first | rfl | simp
  show wpc 0 PP _ c_impl_ReadFraction (initSt [.str s] .nil) (endP r_impl_ReadFraction (readR s))
  have hc := sp_cutS_eq s slashB h
  have hs := cut_sizes s slashB
  have hA := sp_numI_eq (topS s) (by unfold topS; omega)
  have hB := sp_numI_eq (botS s) (by
    unfold botS
    split
    · omega
    · show 1 ≤ 1048576; omega)
  unfold readR
  have hc' : sp_cutS [.str s, .str ⟨#[47]⟩] = some (.tup [.str (topS s), .str (cutB s slashB), .bool (cutI s slashB)]) := hc
  cases hi : cutI s slashB <;> rw [hi] at hc'
  · have eb : botS s = onesB := by unfold botS; rw [hi]; rfl
    rw [eb] at hB
    have hB' : sp_numI [.str ⟨#[49]⟩] = some (.tup [.int .i64 (numV onesB), .bool (numB onesB)]) := hB
    unfold readOk
    rw [eb]
    cases h1 : numB (topS s) <;> cases h2 : numB onesB <;> rw [h1] at hA <;> rw [h2] at hB'
    · simp -dsimp -implicitDefEqProofs [c_impl_ReadFraction, r_impl_ReadFraction, hc', hA, hB']
    · simp -dsimp -implicitDefEqProofs [c_impl_ReadFraction, r_impl_ReadFraction, hc', hA, hB']
    · simp -dsimp -implicitDefEqProofs [c_impl_ReadFraction, r_impl_ReadFraction, hc', hA, hB']
    · cases h3 : frOk (numV (topS s)) (numV onesB) with
      | false => simp -dsimp -implicitDefEqProofs [c_impl_ReadFraction, r_impl_ReadFraction, hc', hA, hB', h3]
      | true =>
        have hb := frOk_bd h3
        have ht := sp_frText_eq (numV (topS s)) (numV onesB) (by omega)
        cases h4 : (frT (numV (topS s)) (numV onesB) == s) with
        | false =>
          have h4' : (frT (numV (topS s)) (numV onesB) != s) = true := by unfold bne; rw [h4]; rfl
          simp -dsimp -implicitDefEqProofs [c_impl_ReadFraction, r_impl_ReadFraction, hc', hA, hB', h3, ht, h4, h4']
        | true =>
          have h4' : (frT (numV (topS s)) (numV onesB) != s) = false := by unfold bne; rw [h4]; rfl
          simp -dsimp -implicitDefEqProofs [c_impl_ReadFraction, r_impl_ReadFraction, hc', hA, hB', h3, ht, h4, h4']
  · have eb : botS s = cutB s slashB := by unfold botS; rw [hi]; rfl
    rw [eb] at hB
    unfold readOk
    rw [eb]
    generalize cutB s slashB = bs at *
    cases h1 : numB (topS s) <;> cases h2 : numB bs <;> rw [h1] at hA <;> rw [h2] at hB
    · simp -dsimp -implicitDefEqProofs [c_impl_ReadFraction, r_impl_ReadFraction, hc', hA, hB]
    · simp -dsimp -implicitDefEqProofs [c_impl_ReadFraction, r_impl_ReadFraction, hc', hA, hB]
    · simp -dsimp -implicitDefEqProofs [c_impl_ReadFraction, r_impl_ReadFraction, hc', hA, hB]
    · cases h3 : frOk (numV (topS s)) (numV bs) with
      | false => simp -dsimp -implicitDefEqProofs [c_impl_ReadFraction, r_impl_ReadFraction, hc', hA, hB, h3]
      | true =>
        have hb := frOk_bd h3
        have ht := sp_frText_eq (numV (topS s)) (numV bs) (by omega)
        cases h4 : (frT (numV (topS s)) (numV bs) == s) with
        | false =>
          have h4' : (frT (numV (topS s)) (numV bs) != s) = true := by unfold bne; rw [h4]; rfl
          simp -dsimp -implicitDefEqProofs [c_impl_ReadFraction, r_impl_ReadFraction, hc', hA, hB, h3, ht, h4, h4']
        | true =>
          have h4' : (frT (numV (topS s)) (numV bs) != s) = false := by unfold bne; rw [h4]; rfl
          simp -dsimp -implicitDefEqProofs [c_impl_ReadFraction, r_impl_ReadFraction, hc', hA, hB, h3, ht, h4, h4']
end Go.Proofs.YtlglgcmpeabdnaaGreatDoorAi
end
