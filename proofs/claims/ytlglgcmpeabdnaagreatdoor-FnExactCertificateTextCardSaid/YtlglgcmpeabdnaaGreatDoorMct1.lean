/- Contracts, joined. -/
import Derived.Test.YtlglgcmpeabdnaaGreatDoorAiZ
import Derived.Test.YtlglgcmpeabdnaaGreatDoorProg
import Derived.Test.YtlglgcmpeabdnaaGreatDoorAiX
section
/- The program, for contracts. -/
namespace Go.Proofs.YtlglgcmpeabdnaaGreatDoorAi
open Go Go.RowKit
noncomputable abbrev PP : Program := Go.Proofs.Tryz.prog
theorem hmix : PP.follows .mixedOrders = true := by kernel_rfl
end Go.Proofs.YtlglgcmpeabdnaaGreatDoorAi
end

section
/- Data of the program, and how they lie. -/
namespace Go.Proofs.YtlglgcmpeabdnaaGreatDoorAi
open Go Go.RowKit
set_option linter.unusedVariables false
set_option linter.unusedSimpArgs false

structure Fr where
  p : Int
  q : Int
  deriving DecidableEq
structure Gr where
  n : Int
  e : Int
  deriving DecidableEq
structure Fl where
  l : Int
  g : Gr
  deriving DecidableEq

abbrev frA (x : Fr) : AV := .agg [.int .i64 x.p, .int .i64 x.q]
abbrev grA (x : Gr) : AV := .agg [.int .i64 x.n, .int .u32 x.e]
abbrev flA (x : Fl) : AV := .agg [.int .i64 x.l, .int .i64 x.g.n, .int .u32 x.g.e]
abbrev inA (n : Int) : AV := .int .i64 n

/-- A list of encoded data. -/
def mapA {α : Type} (f : α → AV) (l : List α) : List AV := l.map f
@[simp] theorem mapA_length {α : Type} (f : α → AV) (l : List α) : (mapA f l).length = l.length := by simp [mapA]
@[simp] theorem mapA_get {α : Type} (f : α → AV) (l : List α) (i : Nat) : (mapA f l)[i]? = (l[i]?).map f := by simp [mapA]
@[simp] theorem mapA_getElem {α : Type} (f : α → AV) (l : List α) (i : Nat) (h : i < (mapA f l).length) : (mapA f l)[i] = f (l[i]'(by simpa using h)) := by simp [mapA]
theorem mapA_inj {α : Type} {f : α → AV} (hf : ∀ x y, f x = f y → x = y) : ∀ {l k : List α}, mapA f l = mapA f k → l = k
  | [], [], _ => rfl
  | [], _ :: _, h => by simp [mapA] at h
  | _ :: _, [], h => by simp [mapA] at h
  | x :: l, y :: k, h => by
    simp only [mapA, List.map_cons, List.cons.injEq] at h
    rw [hf _ _ h.1, mapA_inj hf (show mapA f l = mapA f k from h.2)]
theorem frA_inj (x y : Fr) (h : frA x = frA y) : x = y := by cases x; cases y; simp_all
theorem grA_inj (x y : Gr) (h : grA x = grA y) : x = y := by cases x; cases y; simp_all
theorem flA_inj (x y : Fl) (h : flA x = flA y) : x = y := by rcases x with ⟨_, _, _⟩; rcases y with ⟨_, _, _⟩; simp_all
theorem inA_inj (x y : Int) (h : inA x = inA y) : x = y := by simpa using h
abbrev frsA (l : List Fr) : List AV := mapA frA l
abbrev flsA (l : List Fl) : List AV := mapA flA l
abbrev insA (l : List Int) : List AV := mapA inA l
@[simp] theorem frsA_inj {l k : List Fr} : mapA frA l = mapA frA k ↔ l = k := ⟨mapA_inj frA_inj, fun h => by rw [h]⟩
@[simp] theorem grsA_inj {l k : List Gr} : mapA grA l = mapA grA k ↔ l = k := ⟨mapA_inj grA_inj, fun h => by rw [h]⟩
@[simp] theorem flsA_inj {l k : List Fl} : mapA flA l = mapA flA k ↔ l = k := ⟨mapA_inj flA_inj, fun h => by rw [h]⟩
@[simp] theorem insA_inj {l k : List Int} : mapA inA l = mapA inA k ↔ l = k := ⟨mapA_inj inA_inj, fun h => by rw [h]⟩

theorem take_snoc {α : Type} (ps : List α) (i : Nat) (h : i < ps.length) : ps.take (i + 1) = ps.take i ++ [ps[i]] := by
  rw [List.take_add_one, List.getElem?_eq_getElem h]; rfl
theorem wrapNat {i : Nat} (h : i < 9223372036854775807) : IntKind.i64.wrap ((i : Int) + 1) = (i : Int) + 1 := wrapI64 (by omega) (by omega)

/-- Nothing is forgotten but temporaries: the first objects are the same. -/
theorem Sub.keep {N : Nat} {s : St} {l : List (Nat × AV)} {os : List (Option (List AV))} (hN : N ≤ os.length) (hs : hsub (fun b => b) os.length s.A 0 os) (ht : ∀ p ∈ l, p.2.lt os.length = true ∧ s.t p.1 = p.2) : Sub N s ⟨tl l, ⟨os⟩⟩ := by
  obtain ⟨h1, h2⟩ := hsub_get hs
  refine ⟨fun b => b, hN, fun _ _ => rfl, ⟨fun b hb => by simpa using h1 b hb, fun b cs hb => by simpa using h2 b cs hb, fun b b' cs cs' e1 e2 e => e⟩, tl_sub fun p hp => ⟨(ht p hp).1, by rw [ren_id]; exact (ht p hp).2⟩⟩

end Go.Proofs.YtlglgcmpeabdnaaGreatDoorAi
end

section
/- Lists in order, element by element; going through lists until one is enough. -/
namespace Go.Proofs.YtlglgcmpeabdnaaGreatDoorAi
open Go Go.RowKit
set_option linter.unusedVariables false
set_option linter.unusedSimpArgs false

/-! ### lists one behind another -/
end Go.Proofs.YtlglgcmpeabdnaaGreatDoorAi
end

section
/- MADE BY PROGRAM (wip/tools/gen.py): the abstract code of functions. -/
namespace Go.Proofs.YtlglgcmpeabdnaaGreatDoorAi
open Go AC AOp Opd
set_option linter.unusedVariables false
set_option maxRecDepth 100000
def c_impl_in : AC := seq (reg [⟨(some 6), mv (c (.bool false)), none⟩]) (seq (reg [⟨(some 7), mv (t 0), none⟩, ⟨(some 8), mv (t 1), none⟩, ⟨(some 9), bin .geq (t 7) (t 8), none⟩, ⟨(some 10), mv (t 9), none⟩, ⟨(some 11), mv (t 0), some (10, true)⟩, ⟨(some 12), mv (t 2), some (10, true)⟩, ⟨(some 13), bin .leq (t 11) (t 12), some (10, true)⟩, ⟨(some 14), pick (t 10) (t 13) (c (.bool false)), none⟩, ⟨(some 6), mv (t 14), none⟩]) (ret))
def r_impl_in : List ARes := [.tmp 6]
theorem k_impl_in : acLin Go.Proofs.Tryz.prog 37 3 (inQ [] []) [] = some (c_impl_in, r_impl_in) := by kernel_rfl
def c_spec_l00In : AC := seq (reg [⟨(some 6), mv (c (.bool false)), none⟩]) (seq (reg [⟨(some 7), mv (t 0), none⟩, ⟨(some 8), mv (t 1), none⟩, ⟨(some 9), bin .geq (t 7) (t 8), none⟩, ⟨(some 10), mv (t 9), none⟩, ⟨(some 11), mv (t 0), some (10, true)⟩, ⟨(some 12), mv (t 2), some (10, true)⟩, ⟨(some 13), bin .leq (t 11) (t 12), some (10, true)⟩, ⟨(some 14), pick (t 10) (t 13) (c (.bool false)), none⟩, ⟨(some 6), mv (t 14), none⟩]) (ret))
def r_spec_l00In : List ARes := [.tmp 6]
theorem k_spec_l00In : acLin Go.Proofs.Tryz.prog 98 3 (inQ [] []) [] = some (c_spec_l00In, r_spec_l00In) := by kernel_rfl
def c_impl_pairs : AC := seq (reg [⟨(some 2), mv (c (.int .i64 0)), none⟩]) (seq (reg [⟨(some 3), mv (t 0), none⟩, ⟨(some 4), mv (t 0), none⟩, ⟨(some 5), bin .sub (t 4) (c (.int .i64 1)), none⟩, ⟨(some 6), bin .mul (t 3) (t 5), none⟩, ⟨(some 7), bin .quo (t 6) (c (.int .i64 2)), none⟩, ⟨(some 2), mv (t 7), none⟩]) (ret))
def r_impl_pairs : List ARes := [.tmp 2]
theorem k_impl_pairs : acLin Go.Proofs.Tryz.prog 130 1 (inQ [] []) [] = some (c_impl_pairs, r_impl_pairs) := by kernel_rfl
def c_spec_l01Bits : AC := seq (reg [⟨(some 2), mv (c (.int .i64 0)), none⟩]) (seq (reg [⟨(some 3), mv (t 0), none⟩, ⟨(some 4), mv (t 0), none⟩, ⟨(some 5), bin .sub (t 4) (c (.int .i64 1)), none⟩, ⟨(some 6), bin .mul (t 3) (t 5), none⟩, ⟨(some 7), bin .quo (t 6) (c (.int .i64 2)), none⟩, ⟨(some 2), mv (t 7), none⟩]) (ret))
def r_spec_l01Bits : List ARes := [.tmp 2]
theorem k_spec_l01Bits : acLin Go.Proofs.Tryz.prog 119 1 (inQ [] []) [] = some (c_spec_l01Bits, r_spec_l01Bits) := by kernel_rfl
def c_impl_ValidGraph : AC := seq (reg [⟨(some 1), box 2 (t 0), none⟩, ⟨(some 2), mv (c (.bool false)), none⟩]) (seq (reg [⟨(some 3), fad (t 1) 0, none⟩, ⟨(some 4), ld (t 3) 1 false, none⟩, ⟨(some 5), callq (c (.fn 37 [])) [t 4, c (.int .i64 0), c (.int .i64 5)], none⟩, ⟨(some 6), mv (t 5), none⟩, ⟨(some 7), fad (t 1) 1, some (6, true)⟩, ⟨(some 8), ld (t 7) 1 false, some (6, true)⟩, ⟨(some 9), fad (t 1) 0, some (6, true)⟩, ⟨(some 10), ld (t 9) 1 false, some (6, true)⟩, ⟨(some 11), callq (c (.fn 130 [])) [t 10], some (6, true)⟩, ⟨(some 12), bin .shr (t 8) (t 11), some (6, true)⟩, ⟨(some 13), bin .eql (t 12) (c (.int .u32 0)), some (6, true)⟩, ⟨(some 14), pick (t 6) (t 13) (c (.bool false)), none⟩, ⟨(some 2), mv (t 14), none⟩]) (ret))
def r_impl_ValidGraph : List ARes := [.tmp 2]
theorem k_impl_ValidGraph : acLin Go.Proofs.Tryz.prog 137 1 (inQ [37, 130] []) [⟨false, none, [], [], none⟩, ⟨false, some [0, 1, 2, 3, 4, 5, 6, 7, 8, 9, 10, 11, 12], [], [], none⟩] = some (c_impl_ValidGraph, r_impl_ValidGraph) := by kernel_rfl
def c_spec_l01Ok : AC := seq (reg [⟨(some 1), box 2 (t 0), none⟩, ⟨(some 2), mv (c (.bool false)), none⟩]) (seq (reg [⟨(some 3), fad (t 1) 0, none⟩, ⟨(some 4), ld (t 3) 1 false, none⟩, ⟨(some 5), callq (c (.fn 98 [])) [t 4, c (.int .i64 0), c (.int .i64 5)], none⟩, ⟨(some 6), mv (t 5), none⟩, ⟨(some 7), fad (t 1) 1, some (6, true)⟩, ⟨(some 8), ld (t 7) 1 false, some (6, true)⟩, ⟨(some 9), conv .i64 (t 8), some (6, true)⟩, ⟨(some 10), fad (t 1) 0, some (6, true)⟩, ⟨(some 11), ld (t 10) 1 false, some (6, true)⟩, ⟨(some 12), callq (c (.fn 119 [])) [t 11], some (6, true)⟩, ⟨(some 13), conv .u64 (t 12), some (6, true)⟩, ⟨(some 14), bin .shl (c (.int .i64 1)) (t 13), some (6, true)⟩, ⟨(some 15), bin .lss (t 9) (t 14), some (6, true)⟩, ⟨(some 16), pick (t 6) (t 15) (c (.bool false)), none⟩, ⟨(some 2), mv (t 16), none⟩]) (ret))
def r_spec_l01Ok : List ARes := [.tmp 2]
theorem k_spec_l01Ok : acLin Go.Proofs.Tryz.prog 72 1 (inQ [98, 119] []) [⟨false, none, [], [], none⟩, ⟨false, some [0, 1, 2, 3, 4, 5, 6, 7, 8, 9, 10, 11, 12, 13, 14], [], [], none⟩] = some (c_spec_l01Ok, r_spec_l01Ok) := by kernel_rfl
def c_impl_size : AC := seq (reg [⟨(some 2), mv (c (.int .i64 0)), none⟩]) (seq (reg [⟨(some 3), mv (t 0), none⟩, ⟨(some 4), mv (t 0), none⟩, ⟨(some 5), un .neg (t 4), none⟩, ⟨(some 6), max (t 3) (t 5), none⟩, ⟨(some 2), mv (t 6), none⟩]) (ret))
def r_impl_size : List ARes := [.tmp 2]
theorem k_impl_size : acLin Go.Proofs.Tryz.prog 187 1 (inQ [] []) [] = some (c_impl_size, r_impl_size) := by kernel_rfl
def c_impl_gcd : AC := seq (reg [⟨(some 4), mv (c (.int .i64 0)), none⟩]) (seq (block 0 (loop (seq (seq (reg [⟨(some 5), mv (t 1), none⟩, ⟨(some 6), bin .neq (t 5) (c (.int .i64 0)), none⟩]) (cond (t 6) (skip) (exit 0))) (block 1 (reg [⟨(some 7), mv (t 1), none⟩, ⟨(some 8), mv (t 0), none⟩, ⟨(some 9), mv (t 1), none⟩, ⟨(some 10), bin .rem (t 8) (t 9), none⟩, ⟨(some 0), mv (t 7), none⟩, ⟨(some 1), mv (t 10), none⟩]))))) (seq (reg [⟨(some 11), mv (t 0), none⟩, ⟨(some 12), callq (c (.fn 187 [])) [t 11], none⟩, ⟨(some 4), mv (t 12), none⟩]) (ret)))
def r_impl_gcd : List ARes := [.tmp 4]
theorem k_impl_gcd : acLin Go.Proofs.Tryz.prog 162 2 (inQ [187] []) [⟨false, none, [], [], none⟩, ⟨false, none, [], [], none⟩, ⟨false, none, [], [], none⟩, ⟨false, some [0, 1, 2, 3, 4, 5], [], [], none⟩] = some (c_impl_gcd, r_impl_gcd) := by kernel_rfl
def c_spec_l02Abs : AC := seq (reg [⟨(some 2), mv (c (.int .i64 0)), none⟩]) (seq (seq (reg [⟨(some 3), mv (t 0), none⟩, ⟨(some 4), bin .lss (t 3) (c (.int .i64 0)), none⟩]) (cond (t 4) (seq (reg [⟨(some 5), mv (t 0), none⟩, ⟨(some 6), un .neg (t 5), none⟩, ⟨(some 2), mv (t 6), none⟩]) (ret)) (skip))) (seq (reg [⟨(some 7), mv (t 0), none⟩, ⟨(some 2), mv (t 7), none⟩]) (ret)))
def r_spec_l02Abs : List ARes := [.tmp 2]
theorem k_spec_l02Abs : acLin Go.Proofs.Tryz.prog 122 1 (inQ [] []) [] = some (c_spec_l02Abs, r_spec_l02Abs) := by kernel_rfl
def c_spec_l02Common : AC := seq (reg [⟨(some 4), mv (c (.int .i64 0)), none⟩]) (seq (block 0 (loop (seq (seq (reg [⟨(some 6), mv (t 1), none⟩, ⟨(some 7), bin .neq (t 6) (c (.int .i64 0)), none⟩]) (cond (t 7) (skip) (exit 0))) (block 1 (seq (reg [⟨(some 8), mv (t 0), none⟩, ⟨(some 9), mv (t 1), none⟩, ⟨(some 10), bin .rem (t 8) (t 9), none⟩, ⟨(some 5), mv (t 10), none⟩]) (seq (reg [⟨(some 11), mv (t 1), none⟩, ⟨(some 0), mv (t 11), none⟩]) (reg [⟨(some 12), mv (t 5), none⟩, ⟨(some 1), mv (t 12), none⟩]))))))) (seq (reg [⟨(some 13), mv (t 0), none⟩, ⟨(some 4), mv (t 13), none⟩]) (ret)))
def r_spec_l02Common : List ARes := [.tmp 4]
theorem k_spec_l02Common : acLin Go.Proofs.Tryz.prog 121 2 (inQ [] []) [] = some (c_spec_l02Common, r_spec_l02Common) := by kernel_rfl
def c_impl_ValidFraction : AC := seq (reg [⟨(some 1), box 2 (t 0), none⟩, ⟨(some 2), mv (c (.bool false)), none⟩]) (seq (reg [⟨(some 3), fad (t 1) 1, none⟩, ⟨(some 4), ld (t 3) 1 false, none⟩, ⟨(some 5), bin .gtr (t 4) (c (.int .i64 0)), none⟩, ⟨(some 6), mv (t 5), none⟩, ⟨(some 7), fad (t 1) 0, some (6, true)⟩, ⟨(some 8), ld (t 7) 1 false, some (6, true)⟩, ⟨(some 9), bin .geq (t 8) (c (.int .i64 (-1000000000))), some (6, true)⟩, ⟨(some 10), pick (t 6) (t 9) (c (.bool false)), none⟩, ⟨(some 11), mv (t 10), none⟩, ⟨(some 12), fad (t 1) 0, some (11, true)⟩, ⟨(some 13), ld (t 12) 1 false, some (11, true)⟩, ⟨(some 14), bin .leq (t 13) (c (.int .i64 1000000000)), some (11, true)⟩, ⟨(some 15), pick (t 11) (t 14) (c (.bool false)), none⟩, ⟨(some 16), mv (t 15), none⟩, ⟨(some 17), fad (t 1) 1, some (16, true)⟩, ⟨(some 18), ld (t 17) 1 false, some (16, true)⟩, ⟨(some 19), bin .leq (t 18) (c (.int .i64 1000000000)), some (16, true)⟩, ⟨(some 20), pick (t 16) (t 19) (c (.bool false)), none⟩, ⟨(some 21), mv (t 20), none⟩, ⟨(some 22), fad (t 1) 0, some (21, true)⟩, ⟨(some 23), ld (t 22) 1 false, some (21, true)⟩, ⟨(some 24), fad (t 1) 1, some (21, true)⟩, ⟨(some 25), ld (t 24) 1 false, some (21, true)⟩, ⟨(some 26), callq (c (.fn 162 [])) [t 23, t 25], some (21, true)⟩, ⟨(some 27), bin .eql (t 26) (c (.int .i64 1)), some (21, true)⟩, ⟨(some 28), pick (t 21) (t 27) (c (.bool false)), none⟩, ⟨(some 2), mv (t 28), none⟩]) (ret))
def r_impl_ValidFraction : List ARes := [.tmp 2]
theorem k_impl_ValidFraction : acLin Go.Proofs.Tryz.prog 133 1 (inQ [162] []) [] = some (c_impl_ValidFraction, r_impl_ValidFraction) := by kernel_rfl
def c_spec_l02Ok : AC := seq (reg [⟨(some 1), box 2 (t 0), none⟩, ⟨(some 2), mv (c (.bool false)), none⟩]) (seq (reg [⟨(some 3), fad (t 1) 0, none⟩, ⟨(some 4), ld (t 3) 1 false, none⟩, ⟨(some 5), callq (c (.fn 98 [])) [t 4, c (.int .i64 (-1000000000)), c (.int .i64 1000000000)], none⟩, ⟨(some 6), mv (t 5), none⟩, ⟨(some 7), fad (t 1) 1, some (6, true)⟩, ⟨(some 8), ld (t 7) 1 false, some (6, true)⟩, ⟨(some 9), callq (c (.fn 98 [])) [t 8, c (.int .i64 1), c (.int .i64 1000000000)], some (6, true)⟩, ⟨(some 10), pick (t 6) (t 9) (c (.bool false)), none⟩, ⟨(some 11), mv (t 10), none⟩, ⟨(some 12), fad (t 1) 0, some (11, true)⟩, ⟨(some 13), ld (t 12) 1 false, some (11, true)⟩, ⟨(some 14), callq (c (.fn 122 [])) [t 13], some (11, true)⟩, ⟨(some 15), fad (t 1) 1, some (11, true)⟩, ⟨(some 16), ld (t 15) 1 false, some (11, true)⟩, ⟨(some 17), callq (c (.fn 121 [])) [t 14, t 16], some (11, true)⟩, ⟨(some 18), bin .eql (t 17) (c (.int .i64 1)), some (11, true)⟩, ⟨(some 19), pick (t 11) (t 18) (c (.bool false)), none⟩, ⟨(some 2), mv (t 19), none⟩]) (ret))
def r_spec_l02Ok : List ARes := [.tmp 2]
theorem k_spec_l02Ok : acLin Go.Proofs.Tryz.prog 70 1 (inQ [98, 121, 122] []) [⟨false, none, [], [], none⟩, ⟨false, some [0, 1, 2, 3, 4, 5, 6, 7, 8, 9, 10, 11, 12, 13, 14, 15, 16, 17], [], [], none⟩] = some (c_spec_l02Ok, r_spec_l02Ok) := by kernel_rfl
def c_impl_badFraction : AC := seq (reg [⟨(some 1), box 2 (t 0), none⟩, ⟨(some 2), mv (c (.bool false)), none⟩]) (seq (reg [⟨(some 3), ld (t 1) 2 true, none⟩, ⟨(some 4), callq (c (.fn 133 [])) [t 3], none⟩, ⟨(some 5), un .not (t 4), none⟩, ⟨(some 2), mv (t 5), none⟩]) (ret))
def r_impl_badFraction : List ARes := [.tmp 2]
theorem k_impl_badFraction : acLin Go.Proofs.Tryz.prog 90 1 (inQ [133] []) [] = some (c_impl_badFraction, r_impl_badFraction) := by kernel_rfl
end Go.Proofs.YtlglgcmpeabdnaaGreatDoorAi
end

section
/- Contracts: bounds, numbers of pairs, validity of graphs. -/
namespace Go.Proofs.YtlglgcmpeabdnaaGreatDoorAi
open Go Go.RowKit
set_option linter.unusedVariables false
set_option linter.unusedSimpArgs false

noncomputable def sp_in : List AV → Option (AV) := pf (ι := (Int) × (Int) × (Int)) (α := AV) (fun ⟨n, lo, hi⟩ => True) (fun ⟨n, lo, hi⟩ => [.int .i64 n, .int .i64 lo, .int .i64 hi]) (fun ⟨n, lo, hi⟩ => .bool (decide (lo ≤ n) && decide (n ≤ hi)))
theorem sp_in_eq (n lo hi : Int) : sp_in [.int .i64 n, .int .i64 lo, .int .i64 hi] = some (.bool (decide (lo ≤ n) && decide (n ≤ hi))) := by
  unfold sp_in
  exact pf_eq (ι := (Int) × (Int) × (Int)) (α := AV) (n, lo, hi) trivial (by rintro ⟨n', lo', hi'⟩ _ e; simp_all [Int.natCast_inj])
attribute [simp] sp_in_eq
theorem q_impl_in : QP PP 37 sp_in := by
  refine QP_pf (fun i h => ?_) fun i h => ?_
  · obtain ⟨n, lo, hi⟩ := i; exact ⟨by first | rfl | simp, by first | rfl | simp⟩
  obtain ⟨n, lo, hi⟩ := i
  replace h : True := h
  refine P_code Quiet.nil hmix k_impl_in rfl ?_ ?_
  · first | rfl | simp
  show wpc 0 PP _ c_impl_in (initSt [.int .i64 n, .int .i64 lo, .int .i64 hi] .nil) (endP r_impl_in (.bool (decide (lo ≤ n) && decide (n ≤ hi))))
  simp -dsimp -implicitDefEqProofs [c_impl_in, r_impl_in]
  repeat' (refine brW_of (fun h => ?_) (fun h => ?_) <;> have h0 := h <;> (try simp only [Bool.and_eq_true, Bool.and_eq_false_iff, Bool.or_eq_true, Bool.or_eq_false_iff, Bool.not_eq_true', Bool.not_eq_false', decide_eq_true_eq, decide_eq_false_iff_not, beq_iff_eq, beq_eq_false_iff_ne, bne_iff_ne, bne_eq_false_iff_eq] at h) <;> simp -dsimp -implicitDefEqProofs [h, h0])
theorem q_spec_l00In : QP PP 98 sp_in := by
  refine QP_pf (fun i h => ?_) fun i h => ?_
  · obtain ⟨n, lo, hi⟩ := i; exact ⟨by first | rfl | simp, by first | rfl | simp⟩
  obtain ⟨n, lo, hi⟩ := i
  replace h : True := h
  refine P_code Quiet.nil hmix k_spec_l00In rfl ?_ ?_
  · first | rfl | simp
  show wpc 0 PP _ c_spec_l00In (initSt [.int .i64 n, .int .i64 lo, .int .i64 hi] .nil) (endP r_spec_l00In (.bool (decide (lo ≤ n) && decide (n ≤ hi))))
  simp -dsimp -implicitDefEqProofs [c_spec_l00In, r_spec_l00In]
  repeat' (refine brW_of (fun h => ?_) (fun h => ?_) <;> have h0 := h <;> (try simp only [Bool.and_eq_true, Bool.and_eq_false_iff, Bool.or_eq_true, Bool.or_eq_false_iff, Bool.not_eq_true', Bool.not_eq_false', decide_eq_true_eq, decide_eq_false_iff_not, beq_iff_eq, beq_eq_false_iff_ne, bne_iff_ne, bne_eq_false_iff_eq] at h) <;> simp -dsimp -implicitDefEqProofs [h, h0])

def pairsI (n : Int) : Int := (n * (n - 1)).tdiv 2
theorem pI0 : pairsI 0 = 0 := by decide
theorem pI1 : pairsI 1 = 0 := by decide
theorem pI2 : pairsI 2 = 1 := by decide
theorem pI3 : pairsI 3 = 3 := by decide
theorem pI4 : pairsI 4 = 6 := by decide
theorem pI5 : pairsI 5 = 10 := by decide
noncomputable def sp_pairs : List AV → Option (AV) := pf (ι := (Int)) (α := AV) (fun n => 0 ≤ n ∧ n ≤ 5) (fun n => [.int .i64 n]) (fun n => .int .i64 (pairsI n))
theorem sp_pairs_eq (n : Int) (h : 0 ≤ n ∧ n ≤ 5) : sp_pairs [.int .i64 n] = some (.int .i64 (pairsI n)) := by
  unfold sp_pairs
  exact pf_eq (ι := (Int)) (α := AV) n h (by rintro n' _ e; simp_all [Int.natCast_inj])
theorem q_impl_pairs : QP PP 130 sp_pairs := by
  refine QP_pf (fun n h => ?_) fun n h => ?_
  · exact ⟨by first | rfl | simp, by first | rfl | simp⟩
  replace h : 0 ≤ n ∧ n ≤ 5 := h
  refine P_code Quiet.nil hmix k_impl_pairs rfl ?_ ?_
  · first | rfl | simp
  show wpc 0 PP _ c_impl_pairs (initSt [.int .i64 n] .nil) (endP r_impl_pairs (.int .i64 (pairsI n)))
  have h5 : n = 0 ∨ n = 1 ∨ n = 2 ∨ n = 3 ∨ n = 4 ∨ n = 5 := by omega
  rcases h5 with rfl | rfl | rfl | rfl | rfl | rfl <;> simp -dsimp -implicitDefEqProofs [c_impl_pairs, r_impl_pairs] <;> decide
theorem q_spec_l01Bits : QP PP 119 sp_pairs := by
  refine QP_pf (fun n h => ?_) fun n h => ?_
  · exact ⟨by first | rfl | simp, by first | rfl | simp⟩
  replace h : 0 ≤ n ∧ n ≤ 5 := h
  refine P_code Quiet.nil hmix k_spec_l01Bits rfl ?_ ?_
  · first | rfl | simp
  show wpc 0 PP _ c_spec_l01Bits (initSt [.int .i64 n] .nil) (endP r_spec_l01Bits (.int .i64 (pairsI n)))
  have h5 : n = 0 ∨ n = 1 ∨ n = 2 ∨ n = 3 ∨ n = 4 ∨ n = 5 := by omega
  rcases h5 with rfl | rfl | rfl | rfl | rfl | rfl <;> simp -dsimp -implicitDefEqProofs [c_spec_l01Bits, r_spec_l01Bits] <;> decide

theorem fdiv_zero {e m : Int} (hm : 0 < m) (h0 : 0 ≤ e) : (e.fdiv m == 0) = decide (e < m) := by
  rw [Int.fdiv_eq_ediv_of_nonneg _ (by omega), Bool.eq_iff_iff]
  simp
  constructor
  · intro h
    have := Int.emod_add_mul_ediv e m
    have := Int.emod_lt_of_pos e hm
    rw [h] at *
    omega
  · intro h
    exact Int.ediv_eq_zero_of_lt h0 h

def graphOk (n e : Int) : Bool := decide ((0 ≤ n ∧ n ≤ 5) ∧ e < 2 ^ (pairsI n).toNat)
noncomputable def sp_graphOk : List AV → Option (AV) := pf (ι := (Int) × (Int)) (α := AV) (fun ⟨n, e⟩ => 0 ≤ e ∧ e ≤ 4294967295) (fun ⟨n, e⟩ => [.agg [.int .i64 n, .int .u32 e]]) (fun ⟨n, e⟩ => .bool (graphOk n e))
theorem sp_graphOk_eq (n e : Int) (h : 0 ≤ e ∧ e ≤ 4294967295) : sp_graphOk [.agg [.int .i64 n, .int .u32 e]] = some (.bool (graphOk n e)) := by
  unfold sp_graphOk
  exact pf_eq (ι := (Int) × (Int)) (α := AV) (n, e) h (by rintro ⟨n', e'⟩ _ e; simp_all [Int.natCast_inj])
theorem q_impl_ValidGraph : QP PP 137 sp_graphOk := by
  refine QP_pf (fun i h => ?_) fun i h => ?_
  · obtain ⟨n, e⟩ := i; exact ⟨by first | rfl | simp, by first | rfl | simp⟩
  obtain ⟨n, e⟩ := i
  replace h : 0 ≤ e ∧ e ≤ 4294967295 := h
  refine P_code (Quiet.q1 q_impl_in (Quiet.q1 q_impl_pairs Quiet.nil)) hmix k_impl_ValidGraph rfl ?_ ?_
  · first | rfl | simp
  show wpc 0 PP _ c_impl_ValidGraph (initSt [.agg [.int .i64 n, .int .u32 e]] .nil) (endP r_impl_ValidGraph (.bool (graphOk n e)))
  simp -dsimp -implicitDefEqProofs [c_impl_ValidGraph, r_impl_ValidGraph]
  by_cases hn : 0 ≤ n ∧ n ≤ 5
  · have h5 : n = 0 ∨ n = 1 ∨ n = 2 ∨ n = 3 ∨ n = 4 ∨ n = 5 := by omega
    rcases h5 with rfl | rfl | rfl | rfl | rfl | rfl <;> simp -dsimp -implicitDefEqProofs [sp_pairs_eq, pI0, pI1, pI2, pI3, pI4, pI5, IntKind.bits]
    all_goals (try rw [fdiv_zero (by decide) h.1])
    all_goals (rw [Bool.eq_iff_iff]; simp [graphOk, pI0, pI1, pI2, pI3, pI4, pI5] <;> omega)
  · have hv : graphOk n e = false := decide_eq_false fun h => hn h.1
    have hv' : (decide (0 ≤ n) && decide (n ≤ 5)) = false := by simpa using hn
    simp -dsimp -implicitDefEqProofs [hv, hv']
theorem q_spec_l01Ok : QP PP 72 sp_graphOk := by
  refine QP_pf (fun i h => ?_) fun i h => ?_
  · obtain ⟨n, e⟩ := i; exact ⟨by first | rfl | simp, by first | rfl | simp⟩
  obtain ⟨n, e⟩ := i
  replace h : 0 ≤ e ∧ e ≤ 4294967295 := h
  refine P_code (Quiet.q1 q_spec_l00In (Quiet.q1 q_spec_l01Bits Quiet.nil)) hmix k_spec_l01Ok rfl ?_ ?_
  · first | rfl | simp
  show wpc 0 PP _ c_spec_l01Ok (initSt [.agg [.int .i64 n, .int .u32 e]] .nil) (endP r_spec_l01Ok (.bool (graphOk n e)))
  have em : e % 18446744073709551616 = e := by omega
  simp -dsimp -implicitDefEqProofs [c_spec_l01Ok, r_spec_l01Ok]
  by_cases hn : 0 ≤ n ∧ n ≤ 5
  · have h5 : n = 0 ∨ n = 1 ∨ n = 2 ∨ n = 3 ∨ n = 4 ∨ n = 5 := by omega
    rcases h5 with rfl | rfl | rfl | rfl | rfl | rfl <;> simp -dsimp -implicitDefEqProofs [sp_pairs_eq, pI0, pI1, pI2, pI3, pI4, pI5, IntKind.bits, IntKind.wrap, IntKind.signed]
    all_goals (rw [em, if_neg (by omega), Bool.eq_iff_iff]; simp [graphOk, pI0, pI1, pI2, pI3, pI4, pI5] <;> omega)
  · have hv : graphOk n e = false := decide_eq_false fun h => hn h.1
    have hv' : (decide (0 ≤ n) && decide (n ≤ 5)) = false := by simpa using hn
    simp -dsimp -implicitDefEqProofs [hv, hv']
noncomputable def sp_zero : List AV → Option (AV) := pf (ι := Unit) (α := AV) (fun _ => True) (fun _ => []) (fun _ => .agg [.int .i64 0, .int .i64 1])
theorem sp_zero_eq  : sp_zero [] = some (.agg [.int .i64 0, .int .i64 1]) := by
  unfold sp_zero
  exact pf_eq (ι := Unit) (α := AV) () trivial (by rintro _ _ e; simp_all [Int.natCast_inj])
attribute [simp] sp_zero_eq
noncomputable def sp_one : List AV → Option (AV) := pf (ι := Unit) (α := AV) (fun _ => True) (fun _ => []) (fun _ => .agg [.int .i64 1, .int .i64 1])
theorem sp_one_eq  : sp_one [] = some (.agg [.int .i64 1, .int .i64 1]) := by
  unfold sp_one
  exact pf_eq (ι := Unit) (α := AV) () trivial (by rintro _ _ e; simp_all [Int.natCast_inj])
attribute [simp] sp_one_eq
noncomputable def sp_whole : List AV → Option (AV) := pf (ι := (Int)) (α := AV) (fun n => True) (fun n => [.int .i64 n]) (fun n => .agg [.int .i64 n, .int .i64 1])
theorem sp_whole_eq (n : Int) : sp_whole [.int .i64 n] = some (.agg [.int .i64 n, .int .i64 1]) := by
  unfold sp_whole
  exact pf_eq (ι := (Int)) (α := AV) n trivial (by rintro n' _ e; simp_all [Int.natCast_inj])
attribute [simp] sp_whole_eq
end Go.Proofs.YtlglgcmpeabdnaaGreatDoorAi
end

section
/- Contracts: common divisors, validity of fractions. -/
namespace Go.Proofs.YtlglgcmpeabdnaaGreatDoorAi
open Go Go.RowKit
set_option linter.unusedVariables false
set_option linter.unusedSimpArgs false

theorem gcd_step (x y : Int) : Int.gcd y (x.tmod y) = Int.gcd x y := by
  unfold Int.gcd
  rw [Int.natAbs_tmod, Nat.gcd_comm, ← Nat.gcd_rec, Nat.gcd_comm]
theorem tmod_bound {a b : Int} (ha : -4611686018427387904 ≤ a ∧ a ≤ 4611686018427387904) : -4611686018427387904 ≤ a.tmod b ∧ a.tmod b ≤ 4611686018427387904 := by
  have h1 : (a.tmod b).natAbs = a.natAbs % b.natAbs := Int.natAbs_tmod ..
  have h2 : a.natAbs % b.natAbs ≤ a.natAbs := Nat.mod_le ..
  omega
theorem tmod_less {a b : Int} (hb : b ≠ 0) : (a.tmod b).natAbs < b.natAbs := by
  rw [Int.natAbs_tmod]
  exact Nat.mod_lt _ (by omega)

noncomputable def sp_size : List AV → Option (AV) := pf (ι := (Int)) (α := AV) (fun n => -4611686018427387904 ≤ n ∧ n ≤ 4611686018427387904) (fun n => [.int .i64 n]) (fun n => .int .i64 n.natAbs)
theorem sp_size_eq (n : Int) (h : -4611686018427387904 ≤ n ∧ n ≤ 4611686018427387904) : sp_size [.int .i64 n] = some (.int .i64 n.natAbs) := by
  unfold sp_size
  exact pf_eq (ι := (Int)) (α := AV) n h (by rintro n' _ e; simp_all [Int.natCast_inj])
theorem q_impl_size : QP PP 187 sp_size := by
  refine QP_pf (fun n h => ?_) fun n h => ?_
  · exact ⟨by first | rfl | simp, by first | rfl | simp⟩
  replace h : -4611686018427387904 ≤ n ∧ n ≤ 4611686018427387904 := h
  refine P_code Quiet.nil hmix k_impl_size rfl ?_ ?_
  · first | rfl | simp
  show wpc 0 PP _ c_impl_size (initSt [.int .i64 n] .nil) (endP r_impl_size (.int .i64 n.natAbs))
  have hw : IntKind.i64.wrap (-n) = -n := wrapI64 (by omega) (by omega)
  simp -dsimp -implicitDefEqProofs [c_impl_size, r_impl_size, hw]
  split <;> omega
theorem q_spec_l02Abs : QP PP 122 sp_size := by
  refine QP_pf (fun n h => ?_) fun n h => ?_
  · exact ⟨by first | rfl | simp, by first | rfl | simp⟩
  replace h : -4611686018427387904 ≤ n ∧ n ≤ 4611686018427387904 := h
  refine P_code Quiet.nil hmix k_spec_l02Abs rfl ?_ ?_
  · first | rfl | simp
  show wpc 0 PP _ c_spec_l02Abs (initSt [.int .i64 n] .nil) (endP r_spec_l02Abs (.int .i64 n.natAbs))
  have hw : IntKind.i64.wrap (-n) = -n := wrapI64 (by omega) (by omega)
  simp -dsimp -implicitDefEqProofs [c_spec_l02Abs, r_spec_l02Abs, hw]
  refine brW_of (fun h => ?_) (fun h => ?_) <;> simp only [decide_eq_true_eq, decide_eq_false_iff_not] at h <;> simp -dsimp -implicitDefEqProofs [h, hw] <;> omega

def in62 (n : Int) : Prop := -4611686018427387904 ≤ n ∧ n ≤ 4611686018427387904
noncomputable def sp_gcd : List AV → Option (AV) := pf (ι := (Int) × (Int)) (α := AV) (fun ⟨a, b⟩ => in62 a ∧ in62 b) (fun ⟨a, b⟩ => [.int .i64 a, .int .i64 b]) (fun ⟨a, b⟩ => .int .i64 (Int.gcd a b))
theorem sp_gcd_eq (a b : Int) (h : in62 a ∧ in62 b) : sp_gcd [.int .i64 a, .int .i64 b] = some (.int .i64 (Int.gcd a b)) := by
  unfold sp_gcd
  exact pf_eq (ι := (Int) × (Int)) (α := AV) (a, b) h (by rintro ⟨a', b'⟩ _ e; simp_all [Int.natCast_inj])
theorem q_impl_gcd : QP PP 162 sp_gcd := by
  refine QP_pf (fun i h => ?_) fun i h => ?_
  · obtain ⟨a, b⟩ := i; exact ⟨by first | rfl | simp, by first | rfl | simp⟩
  obtain ⟨a, b⟩ := i
  replace h : in62 a ∧ in62 b := h
  refine P_code (Quiet.q1 q_impl_size Quiet.nil) hmix k_impl_gcd rfl ?_ ?_
  · first | rfl | simp
  show wpc 0 PP _ c_impl_gcd (initSt [.int .i64 a, .int .i64 b] .nil) (endP r_impl_gcd (.int .i64 (Int.gcd a b)))
  simp -dsimp -implicitDefEqProofs [c_impl_gcd, r_impl_gcd]
  refine wpLoop_st (fun (x : Int × Int) => ⟨tl [(0, .int .i64 x.1), (1, .int .i64 x.2)], ⟨[]⟩⟩) (fun x => in62 x.1 ∧ in62 x.2 ∧ Int.gcd x.1 x.2 = Int.gcd a b) (fun x => x.2.natAbs) (a, b) ⟨h.1, h.2, rfl⟩ (Sub.keep (by simp) (by simp [hsub]) (by simp)) ?_
  rintro ⟨x, y⟩ ⟨bx, by_, hg⟩
  simp -dsimp -implicitDefEqProofs
  refine brW_of (fun h => ?_) (fun h => ?_)
  · have hy0 : y ≠ 0 := by simpa using h
    simp -dsimp -implicitDefEqProofs [hy0]
    exact .mk (y, x.tmod y) ⟨by_, tmod_bound bx, by rw [gcd_step]; exact hg⟩ (tmod_less hy0) (Sub.keep (by simp) (by simp [hsub]) (by simp))
  · have hy0 : y = 0 := by simpa using h
    subst hy0
    simp -dsimp -implicitDefEqProofs [sp_size_eq x bx]
    rw [← hg, Int.gcd_zero_right]

noncomputable def sp_common : List AV → Option (AV) := pf (ι := (Int) × (Int)) (α := AV) (fun ⟨a, b⟩ => (0 ≤ a ∧ a ≤ 4611686018427387904) ∧ (0 ≤ b ∧ b ≤ 4611686018427387904)) (fun ⟨a, b⟩ => [.int .i64 a, .int .i64 b]) (fun ⟨a, b⟩ => .int .i64 (Int.gcd a b))
theorem sp_common_eq (a b : Int) (h : (0 ≤ a ∧ a ≤ 4611686018427387904) ∧ (0 ≤ b ∧ b ≤ 4611686018427387904)) : sp_common [.int .i64 a, .int .i64 b] = some (.int .i64 (Int.gcd a b)) := by
  unfold sp_common
  exact pf_eq (ι := (Int) × (Int)) (α := AV) (a, b) h (by rintro ⟨a', b'⟩ _ e; simp_all [Int.natCast_inj])
theorem q_spec_l02Common : QP PP 121 sp_common := by
  refine QP_pf (fun i h => ?_) fun i h => ?_
  · obtain ⟨a, b⟩ := i; exact ⟨by first | rfl | simp, by first | rfl | simp⟩
  obtain ⟨a, b⟩ := i
  replace h : (0 ≤ a ∧ a ≤ 4611686018427387904) ∧ (0 ≤ b ∧ b ≤ 4611686018427387904) := h
  refine P_code Quiet.nil hmix k_spec_l02Common rfl ?_ ?_
  · first | rfl | simp
  show wpc 0 PP _ c_spec_l02Common (initSt [.int .i64 a, .int .i64 b] .nil) (endP r_spec_l02Common (.int .i64 (Int.gcd a b)))
  simp -dsimp -implicitDefEqProofs [c_spec_l02Common, r_spec_l02Common]
  refine wpLoop_st (fun (x : Int × Int) => ⟨tl [(0, .int .i64 x.1), (1, .int .i64 x.2)], ⟨[]⟩⟩) (fun x => (0 ≤ x.1 ∧ x.1 ≤ 4611686018427387904) ∧ (0 ≤ x.2 ∧ x.2 ≤ 4611686018427387904) ∧ Int.gcd x.1 x.2 = Int.gcd a b) (fun x => x.2.natAbs) (a, b) ⟨h.1, h.2, rfl⟩ (Sub.keep (by simp) (by simp [hsub]) (by simp)) ?_
  rintro ⟨x, y⟩ ⟨bx, by_, hg⟩
  simp -dsimp -implicitDefEqProofs
  simp only at bx by_
  refine brW_of (fun h => ?_) (fun h => ?_)
  · have hy0 : y ≠ 0 := by simpa using h
    simp -dsimp -implicitDefEqProofs [hy0]
    exact .mk (y, x.tmod y) ⟨by_, ⟨Int.tmod_nonneg _ bx.1, (tmod_bound ⟨by omega, bx.2⟩).2⟩, by rw [gcd_step]; exact hg⟩ (tmod_less hy0) (Sub.keep (by simp) (by simp [hsub]) (by simp))
  · have hy0 : y = 0 := by simpa using h
    subst hy0
    simp -dsimp -implicitDefEqProofs
    rw [← hg, Int.gcd_zero_right]
    omega

def frOk (p q : Int) : Bool := decide ((-1000000000 ≤ p ∧ p ≤ 1000000000) ∧ (1 ≤ q ∧ q ≤ 1000000000) ∧ Int.gcd p q = 1)
theorem gcd_abs (p q : Int) : Int.gcd (p.natAbs : Int) q = Int.gcd p q := by simp [Int.gcd]
noncomputable def sp_frOk : List AV → Option (AV) := pf (ι := (Int) × (Int)) (α := AV) (fun ⟨p, q⟩ => True) (fun ⟨p, q⟩ => [.agg [.int .i64 p, .int .i64 q]]) (fun ⟨p, q⟩ => .bool (frOk p q))
theorem sp_frOk_eq (p q : Int) : sp_frOk [.agg [.int .i64 p, .int .i64 q]] = some (.bool (frOk p q)) := by
  unfold sp_frOk
  exact pf_eq (ι := (Int) × (Int)) (α := AV) (p, q) trivial (by rintro ⟨p', q'⟩ _ e; simp_all [Int.natCast_inj])
attribute [simp] sp_frOk_eq
theorem q_spec_l02Ok : QP PP 70 sp_frOk := by
  refine QP_pf (fun i h => ?_) fun i h => ?_
  · obtain ⟨p, q⟩ := i; exact ⟨by first | rfl | simp, by first | rfl | simp⟩
  obtain ⟨p, q⟩ := i
  replace h : True := h
  refine P_code (Quiet.q1 q_spec_l00In (Quiet.q1 q_spec_l02Abs (Quiet.q1 q_spec_l02Common Quiet.nil))) hmix k_spec_l02Ok rfl ?_ ?_
  · first | rfl | simp
  show wpc 0 PP _ c_spec_l02Ok (initSt [.agg [.int .i64 p, .int .i64 q]] .nil) (endP r_spec_l02Ok (.bool (frOk p q)))
  simp -dsimp -implicitDefEqProofs [c_spec_l02Ok, r_spec_l02Ok]
  by_cases c1 : -1000000000 ≤ p ∧ p ≤ 1000000000
  · by_cases c2 : 1 ≤ q ∧ q ≤ 1000000000
    · have hv : frOk p q = ((Int.gcd p q : Int) == 1) := by
        unfold frOk
        rw [Bool.eq_iff_iff]
        simp [c1, c2]
        omega
      simp -dsimp -implicitDefEqProofs [sp_size_eq p (by omega), sp_common_eq p.natAbs q (by omega), c1, c2, gcd_abs, hv]
    · have hv : frOk p q = false := decide_eq_false fun h => c2 h.2.1
      have c2' : (decide (1 ≤ q) && decide (q ≤ 1000000000)) = false := by simpa using c2
      simp -dsimp -implicitDefEqProofs [c1, c2', hv]
  · have hv : frOk p q = false := decide_eq_false fun h => c1 h.1
    have c1' : (decide (-1000000000 ≤ p) && decide (p ≤ 1000000000)) = false := by simpa using c1
    simp -dsimp -implicitDefEqProofs [c1', hv]
theorem q_impl_ValidFraction : QP PP 133 sp_frOk := by
  refine QP_pf (fun i h => ?_) fun i h => ?_
  · obtain ⟨p, q⟩ := i; exact ⟨by first | rfl | simp, by first | rfl | simp⟩
  obtain ⟨p, q⟩ := i
  replace h : True := h
  refine P_code (Quiet.q1 q_impl_gcd Quiet.nil) hmix k_impl_ValidFraction rfl ?_ ?_
  · first | rfl | simp
  show wpc 0 PP _ c_impl_ValidFraction (initSt [.agg [.int .i64 p, .int .i64 q]] .nil) (endP r_impl_ValidFraction (.bool (frOk p q)))
  simp -dsimp -implicitDefEqProofs [c_impl_ValidFraction, r_impl_ValidFraction]
  by_cases c : (-1000000000 ≤ p ∧ p ≤ 1000000000) ∧ (1 ≤ q ∧ q ≤ 1000000000)
  · have c1 : 0 < q := by omega
    have c2 : ¬ q < 1 := by omega
    have hv : frOk p q = ((Int.gcd p q : Int) == 1) := by
      unfold frOk
      rw [Bool.eq_iff_iff]
      simp [c.1, c.2]
      omega
    simp -dsimp -implicitDefEqProofs [sp_gcd_eq p q (by unfold in62; omega), c, c1, c2, hv]
  · have hv : frOk p q = false := decide_eq_false fun h => c ⟨h.1, h.2.1⟩
    rw [hv]
    repeat' (refine brW_of (fun h => ?_) (fun h => ?_) <;> have h0 := h <;> (try simp only [Bool.and_eq_true, Bool.and_eq_false_iff, Bool.or_eq_true, Bool.or_eq_false_iff, Bool.not_eq_true', Bool.not_eq_false', decide_eq_true_eq, decide_eq_false_iff_not, beq_iff_eq, beq_eq_false_iff_ne, bne_iff_ne, bne_eq_false_iff_eq] at h) <;> simp -dsimp -implicitDefEqProofs [h, h0, *])
    all_goals (exfalso; apply c; omega)
noncomputable def sp_badFraction : List AV → Option (AV) := pf (ι := (Int) × (Int)) (α := AV) (fun ⟨p, q⟩ => True) (fun ⟨p, q⟩ => [.agg [.int .i64 p, .int .i64 q]]) (fun ⟨p, q⟩ => .bool (!frOk p q))
theorem sp_badFraction_eq (p q : Int) : sp_badFraction [.agg [.int .i64 p, .int .i64 q]] = some (.bool (!frOk p q)) := by
  unfold sp_badFraction
  exact pf_eq (ι := (Int) × (Int)) (α := AV) (p, q) trivial (by rintro ⟨p', q'⟩ _ e; simp_all [Int.natCast_inj])
attribute [simp] sp_badFraction_eq
theorem q_impl_badFraction : QP PP 90 sp_badFraction := by
  refine QP_pf (fun i h => ?_) fun i h => ?_
  · obtain ⟨p, q⟩ := i; exact ⟨by first | rfl | simp, by first | rfl | simp⟩
  obtain ⟨p, q⟩ := i
  replace h : True := h
  refine P_code (Quiet.q1 q_impl_ValidFraction Quiet.nil) hmix k_impl_badFraction rfl ?_ ?_
  · first | rfl | simp
  show wpc 0 PP _ c_impl_badFraction (initSt [.agg [.int .i64 p, .int .i64 q]] .nil) (endP r_impl_badFraction (.bool (!frOk p q)))
  simp -dsimp -implicitDefEqProofs [c_impl_badFraction, r_impl_badFraction]

end Go.Proofs.YtlglgcmpeabdnaaGreatDoorAi
end

section
/- MADE BY PROGRAM (wip/tools/gen.py): the abstract code of functions. -/
namespace Go.Proofs.YtlglgcmpeabdnaaGreatDoorAi
open Go AC AOp Opd
set_option linter.unusedVariables false
set_option maxRecDepth 100000
end Go.Proofs.YtlglgcmpeabdnaaGreatDoorAi
end

section
/- Contracts: fractions in lowest terms, sums, products. -/
namespace Go.Proofs.YtlglgcmpeabdnaaGreatDoorAi
open Go Go.RowKit
set_option linter.unusedVariables false
set_option linter.unusedSimpArgs false

/-- A quotient in lowest terms. -/
def lowP (p q : Int) : Int := (if q < 0 then -p else p).tdiv (Int.gcd p q)
def lowQ (p q : Int) : Int := (if q < 0 then -q else q).tdiv (Int.gcd p q)
def smallB (p q : Int) : Bool := decide (p.natAbs ≤ 1000000000) && decide (q ≤ 1000000000)
def lowO (p q : Int) : Option Fr := if smallB (lowP p q) (lowQ p q) = true then some ⟨lowP p q, lowQ p q⟩ else none
/-- A fraction with a code. -/
def frO : Option Fr → AV
  | some x => .tup [frA x, .int .i64 0]
  | none => .tup [.agg [.int .i64 0, .int .i64 0], .int .i64 3]
theorem frO_lt (x : Option Fr) (n : Nat) : (frO x).lt n = true := by cases x <;> rfl
@[simp] theorem frO_ren (x : Option Fr) (f : Nat → Nat) : (frO x).ren f = frO x := by cases x <;> rfl
@[simp] theorem frO_lt' (x : Option Fr) (n : Nat) : (frO x).lt n = true := frO_lt x n
end Go.Proofs.YtlglgcmpeabdnaaGreatDoorAi
end

section
/- Contracts: sums and products of fractions. -/
namespace Go.Proofs.YtlglgcmpeabdnaaGreatDoorAi
open Go Go.RowKit
set_option linter.unusedVariables false
set_option linter.unusedSimpArgs false

def addO (p q p' q' : Int) : Option Fr := lowO (p * q' + p' * q) (q * q')
def toldA (g : Bool) (p q : Int) : AV := if g = true then .tup [.agg [.int .i64 0, .int .i64 0], .int .i64 3] else .tup [.agg [.int .i64 p, .int .i64 q], .int .i64 0]
@[simp] theorem toldA_ren (g : Bool) (p q : Int) (f : Nat → Nat) : (toldA g p q).ren f = toldA g p q := by cases g <;> rfl
@[simp] theorem toldA_lt (g : Bool) (p q : Int) (n : Nat) : (toldA g p q).lt n = true := by cases g <;> rfl
noncomputable def sp_told : List AV → List AV → Option (AV × List AV) := pm (pf (ι := (Bool) × (Int) × (Int)) (α := AV × List AV) (fun ⟨g, p, q⟩ => True) (fun i => .agg ((fun ⟨g, p, q⟩ => [.bool g] : (Bool) × (Int) × (Int) → List AV) i) :: (fun ⟨g, p, q⟩ => [.agg [.int .i64 p, .int .i64 q]] : (Bool) × (Int) × (Int) → List AV) i) (fun ⟨g, p, q⟩ => (toldA g p q, [.bool g])))
theorem sp_told_eq (g : Bool) (p q : Int) : sp_told [.bool g] [.agg [.int .i64 p, .int .i64 q]] = some (toldA g p q, [.bool g]) := by
  unfold sp_told pm
  exact pf_eq (ι := (Bool) × (Int) × (Int)) (α := AV × List AV) (g, p, q) trivial (by rintro ⟨g', p', q'⟩ _ e; simp_all [Int.natCast_inj])
attribute [simp] sp_told_eq
end Go.Proofs.YtlglgcmpeabdnaaGreatDoorAi
end

section
/- Contracts: products of lists, sums of lists. -/
namespace Go.Proofs.YtlglgcmpeabdnaaGreatDoorAi
open Go Go.RowKit
set_option linter.unusedVariables false
set_option linter.unusedSimpArgs false

theorem drop_cons {α : Type} {l : List α} {i : Nat} (h : i < l.length) : l.drop i = l[i] :: l.drop (i + 1) := by simp
def add2 (x y : Fr) : Option Fr := addO x.p x.q y.p y.q
def allOk (l : List Fr) : Bool := l.all fun x => frOk x.p x.q
end Go.Proofs.YtlglgcmpeabdnaaGreatDoorAi
end

section
/- MADE BY PROGRAM (wip/tools/gen.py): the abstract code of functions. -/
namespace Go.Proofs.YtlglgcmpeabdnaaGreatDoorAi
open Go AC AOp Opd
set_option linter.unusedVariables false
set_option maxRecDepth 100000
def c_laws_szFractionS : AC := seq (reg [⟨(some 4), mv (c (.int .i64 0)), none⟩]) (seq (reg [⟨(some 5), mv (t 1), none⟩, ⟨(some 6), mv (t 0), none⟩, ⟨(some 7), len (t 6), none⟩, ⟨(some 8), bin .sub (t 5) (t 7), none⟩, ⟨(some 1), mv (t 8), none⟩]) (seq (seq (reg [⟨(some 9), mv (t 1), none⟩, ⟨(some 10), bin .lss (t 9) (c (.int .i64 0)), none⟩]) (cond (t 10) (seq (reg [⟨(some 4), mv (c (.int .i64 (-1))), none⟩]) (ret)) (skip))) (seq (reg [⟨(some 11), mv (t 1), none⟩, ⟨(some 4), mv (t 11), none⟩]) (ret))))
def r_laws_szFractionS : List ARes := [.tmp 4]
theorem k_laws_szFractionS : acLin Go.Proofs.Tryz.prog 169 2 (inQ [] []) [] = some (c_laws_szFractionS, r_laws_szFractionS) := by kernel_rfl
def c_laws_toFraction : AC := seq (reg [⟨(some 1), box 2 (t 0), none⟩, ⟨(some 2), alloc [.int .i64 0, .int .i64 0], none⟩]) (seq (reg [⟨(some 3), alloc [.int .i64 0, .int .i64 0], none⟩]) (seq (reg [⟨(some 4), fad (t 1) 0, none⟩, ⟨(some 5), ld (t 4) 1 false, none⟩, ⟨(some 6), fad (t 3) 0, none⟩, ⟨none, st (t 6) 1 (t 5), none⟩]) (seq (reg [⟨(some 7), fad (t 1) 1, none⟩, ⟨(some 8), ld (t 7) 1 false, none⟩, ⟨(some 9), fad (t 3) 1, none⟩, ⟨none, st (t 9) 1 (t 8), none⟩]) (seq (reg [⟨(some 10), ld (t 3) 2 true, none⟩, ⟨none, st (t 2) 2 (t 10), none⟩]) (ret)))))
def r_laws_toFraction : List ARes := [.cell 2 2 true]
theorem k_laws_toFraction : acLin Go.Proofs.Tryz.prog 195 1 (inQ [] []) [] = some (c_laws_toFraction, r_laws_toFraction) := by kernel_rfl
def c_laws_toFractionS : AC := seq (reg [⟨(some 2), mv (c (.sl [] true)), none⟩]) (seq (reg [⟨(some 5), mv (t 0), none⟩, ⟨(some 6), len (t 5), none⟩, ⟨(some 7), mks 2 16 [.int .i64 0, .int .i64 0] (t 6) (t 6), none⟩, ⟨(some 3), mv (t 7), none⟩]) (seq (seq (reg [⟨(some 4), mv (c (.int .i64 0)), none⟩]) (block 0 (loop (seq (seq (reg [⟨(some 8), mv (t 4), none⟩, ⟨(some 9), mv (t 0), none⟩, ⟨(some 10), len (t 9), none⟩, ⟨(some 11), bin .lss (t 8) (t 10), none⟩]) (cond (t 11) (skip) (exit 0))) (seq (block 1 (reg [⟨(some 14), mv (t 3), none⟩, ⟨(some 15), mv (t 4), none⟩, ⟨(some 16), mv (t 0), none⟩, ⟨(some 17), mv (t 4), none⟩, ⟨(some 18), iad 2 (t 16) (t 17), none⟩, ⟨(some 19), ld (t 18) 2 true, none⟩, ⟨(some 20), callq (c (.fn 195 [])) [t 19], none⟩, ⟨(some 21), iad 2 (t 14) (t 15), none⟩, ⟨none, st (t 21) 2 (t 20), none⟩])) (reg [⟨(some 12), mv (t 4), none⟩, ⟨(some 13), bin .add (t 12) (c (.int .i64 1)), none⟩, ⟨(some 4), mv (t 13), none⟩])))))) (seq (reg [⟨(some 22), mv (t 3), none⟩, ⟨(some 2), mv (t 22), none⟩]) (seq shift (ret)))))
def r_laws_toFractionS : List ARes := [.tmp 2]
theorem k_laws_toFractionS : acLin Go.Proofs.Tryz.prog 172 1 (inQ [195] []) [⟨false, none, [], [], none⟩, ⟨false, none, [], [], none⟩, ⟨false, none, [], [], none⟩, ⟨false, none, [], [], none⟩, ⟨false, none, [], [], none⟩, ⟨false, none, [], [], none⟩, ⟨false, none, [], [], none⟩, ⟨false, none, [], [], none⟩, ⟨true, none, [], [], none⟩] = some (c_laws_toFractionS, r_laws_toFractionS) := by kernel_rfl
def c_laws_toGraph : AC := seq (reg [⟨(some 1), box 2 (t 0), none⟩, ⟨(some 2), alloc [.int .i64 0, .int .u32 0], none⟩]) (seq (reg [⟨(some 3), alloc [.int .i64 0, .int .u32 0], none⟩]) (seq (reg [⟨(some 4), fad (t 1) 0, none⟩, ⟨(some 5), ld (t 4) 1 false, none⟩, ⟨(some 6), fad (t 3) 0, none⟩, ⟨none, st (t 6) 1 (t 5), none⟩]) (seq (reg [⟨(some 7), fad (t 1) 1, none⟩, ⟨(some 8), ld (t 7) 1 false, none⟩, ⟨(some 9), fad (t 3) 1, none⟩, ⟨none, st (t 9) 1 (t 8), none⟩]) (seq (reg [⟨(some 10), ld (t 3) 2 true, none⟩, ⟨none, st (t 2) 2 (t 10), none⟩]) (ret)))))
def r_laws_toGraph : List ARes := [.cell 2 2 true]
theorem k_laws_toGraph : acLin Go.Proofs.Tryz.prog 194 1 (inQ [] []) [] = some (c_laws_toGraph, r_laws_toGraph) := by kernel_rfl
def c_laws_eqFraction : AC := seq (reg [⟨(some 2), box 2 (t 0), none⟩, ⟨(some 3), box 2 (t 1), none⟩, ⟨(some 4), mv (c (.bool false)), none⟩]) (seq (seq (reg [⟨(some 5), fad (t 2) 0, none⟩, ⟨(some 6), ld (t 5) 1 false, none⟩, ⟨(some 7), fad (t 3) 0, none⟩, ⟨(some 8), ld (t 7) 1 false, none⟩, ⟨(some 9), bin .neq (t 6) (t 8), none⟩]) (cond (t 9) (seq (reg [⟨(some 4), mv (c (.bool false)), none⟩]) (ret)) (skip))) (seq (seq (reg [⟨(some 10), fad (t 2) 1, none⟩, ⟨(some 11), ld (t 10) 1 false, none⟩, ⟨(some 12), fad (t 3) 1, none⟩, ⟨(some 13), ld (t 12) 1 false, none⟩, ⟨(some 14), bin .neq (t 11) (t 13), none⟩]) (cond (t 14) (seq (reg [⟨(some 4), mv (c (.bool false)), none⟩]) (ret)) (skip))) (seq (reg [⟨(some 4), mv (c (.bool true)), none⟩]) (ret))))
def r_laws_eqFraction : List ARes := [.tmp 4]
theorem k_laws_eqFraction : acLin Go.Proofs.Tryz.prog 95 2 (inQ [] []) [] = some (c_laws_eqFraction, r_laws_eqFraction) := by kernel_rfl
def c_laws_eqFractionS : AC := seq (reg [⟨(some 4), mv (c (.bool false)), none⟩]) (seq (seq (reg [⟨(some 6), mv (t 0), none⟩, ⟨(some 7), len (t 6), none⟩, ⟨(some 8), mv (t 1), none⟩, ⟨(some 9), len (t 8), none⟩, ⟨(some 10), bin .neq (t 7) (t 9), none⟩]) (cond (t 10) (seq (reg [⟨(some 4), mv (c (.bool false)), none⟩]) (ret)) (skip))) (seq (seq (reg [⟨(some 5), mv (c (.int .i64 0)), none⟩]) (block 0 (loop (seq (seq (reg [⟨(some 11), mv (t 5), none⟩, ⟨(some 12), mv (t 0), none⟩, ⟨(some 13), len (t 12), none⟩, ⟨(some 14), bin .lss (t 11) (t 13), none⟩]) (cond (t 14) (skip) (exit 0))) (seq (block 1 (seq (reg [⟨(some 17), mv (t 0), none⟩, ⟨(some 18), mv (t 5), none⟩, ⟨(some 19), iad 2 (t 17) (t 18), none⟩, ⟨(some 20), ld (t 19) 2 true, none⟩, ⟨(some 21), mv (t 1), none⟩, ⟨(some 22), mv (t 5), none⟩, ⟨(some 23), iad 2 (t 21) (t 22), none⟩, ⟨(some 24), ld (t 23) 2 true, none⟩, ⟨(some 25), callq (c (.fn 95 [])) [t 20, t 24], none⟩, ⟨(some 26), un .not (t 25), none⟩]) (cond (t 26) (seq (reg [⟨(some 4), mv (c (.bool false)), none⟩]) (ret)) (skip)))) (reg [⟨(some 15), mv (t 5), none⟩, ⟨(some 16), bin .add (t 15) (c (.int .i64 1)), none⟩, ⟨(some 5), mv (t 16), none⟩])))))) (seq (reg [⟨(some 4), mv (c (.bool true)), none⟩]) (ret))))
def r_laws_eqFractionS : List ARes := [.tmp 4]
theorem k_laws_eqFractionS : acLin Go.Proofs.Tryz.prog 41 2 (inQ [95] []) [⟨false, none, [], [], none⟩, ⟨false, none, [], [], none⟩, ⟨false, none, [], [], none⟩, ⟨false, none, [], [], none⟩, ⟨false, none, [], [], none⟩, ⟨false, none, [], [], none⟩, ⟨false, none, [], [], none⟩, ⟨false, some [0, 1, 2, 3, 4, 5, 6, 7, 8, 9], [], [], none⟩] = some (c_laws_eqFractionS, r_laws_eqFractionS) := by kernel_rfl
def c_laws_eqGraph : AC := seq (reg [⟨(some 2), box 2 (t 0), none⟩, ⟨(some 3), box 2 (t 1), none⟩, ⟨(some 4), mv (c (.bool false)), none⟩]) (seq (seq (reg [⟨(some 5), fad (t 2) 0, none⟩, ⟨(some 6), ld (t 5) 1 false, none⟩, ⟨(some 7), fad (t 3) 0, none⟩, ⟨(some 8), ld (t 7) 1 false, none⟩, ⟨(some 9), bin .neq (t 6) (t 8), none⟩]) (cond (t 9) (seq (reg [⟨(some 4), mv (c (.bool false)), none⟩]) (ret)) (skip))) (seq (seq (reg [⟨(some 10), fad (t 2) 1, none⟩, ⟨(some 11), ld (t 10) 1 false, none⟩, ⟨(some 12), fad (t 3) 1, none⟩, ⟨(some 13), ld (t 12) 1 false, none⟩, ⟨(some 14), bin .neq (t 11) (t 13), none⟩]) (cond (t 14) (seq (reg [⟨(some 4), mv (c (.bool false)), none⟩]) (ret)) (skip))) (seq (reg [⟨(some 4), mv (c (.bool true)), none⟩]) (ret))))
def r_laws_eqGraph : List ARes := [.tmp 4]
theorem k_laws_eqGraph : acLin Go.Proofs.Tryz.prog 40 2 (inQ [] []) [] = some (c_laws_eqGraph, r_laws_eqGraph) := by kernel_rfl
end Go.Proofs.YtlglgcmpeabdnaaGreatDoorAi
end

section
/- Contracts: validity of patterns. -/
namespace Go.Proofs.YtlglgcmpeabdnaaGreatDoorAi
open Go Go.RowKit
set_option linter.unusedVariables false
set_option linter.unusedSimpArgs false

def sumO : Fr → List Fr → Option Fr
  | a, [] => some a
  | a, x :: xs => (add2 a x).bind fun s => sumO s xs
def sumA (l : List Fr) : AV := if allOk l = true ∧ l.length ≤ 256 then frO (sumO ⟨0, 1⟩ l) else .tup [.agg [.int .i64 0, .int .i64 0], .int .i64 1]
@[simp] theorem sumA_lt (l : List Fr) (n : Nat) : (sumA l).lt n = true := by unfold sumA; split <;> first | simp | rfl
def loopsOk (n l : Int) : Bool := decide ((1 ≤ n ∧ n ≤ 4) ∧ l < 2 ^ n.toNat)
def nnAll (ps : List Fr) : Bool := ps.all fun x => decide (0 ≤ x.p)
def patOk (n e l : Int) (ps : List Fr) : Bool := graphOk n e && loopsOk n l && decide ((ps.length : Int) = n) && allOk ps && nnAll ps && decide (sumO ⟨0, 1⟩ ps = some ⟨1, 1⟩)
end Go.Proofs.YtlglgcmpeabdnaaGreatDoorAi
end

section
/- Contracts: validity of patterns, as the program has it; its law. -/
namespace Go.Proofs.YtlglgcmpeabdnaaGreatDoorAi
open Go Go.RowKit
set_option linter.unusedVariables false
set_option linter.unusedSimpArgs false

/-! ### the law's own functions -/
noncomputable def sp_szFractionS : List AV → Option (AV) := pf (ι := (List Fr) × (Int)) (α := AV) (fun ⟨l, n⟩ => 0 ≤ n ∧ n ≤ 1048576 ∧ l.length ≤ maxLen) (fun ⟨l, n⟩ => [.sl (frsA l) false, .int .i64 n]) (fun ⟨l, n⟩ => .int .i64 (if (l.length : Int) ≤ n then n - l.length else -1))
theorem sp_szFractionS_eq (l : List Fr) (n : Int) (h : 0 ≤ n ∧ n ≤ 1048576 ∧ l.length ≤ maxLen) : sp_szFractionS [.sl (frsA l) false, .int .i64 n] = some (.int .i64 (if (l.length : Int) ≤ n then n - l.length else -1)) := by
  unfold sp_szFractionS
  exact pf_eq (ι := (List Fr) × (Int)) (α := AV) (l, n) h (by rintro ⟨l', n'⟩ _ e; simp_all [Int.natCast_inj])
theorem q_laws_szFractionS : QP PP 169 sp_szFractionS := by
  refine QP_pf (fun i h => ?_) fun i h => ?_
  · obtain ⟨l, n⟩ := i; exact ⟨by first | rfl | simp, by first | rfl | simp⟩
  obtain ⟨l, n⟩ := i
  replace h : 0 ≤ n ∧ n ≤ 1048576 ∧ l.length ≤ maxLen := h
  refine P_code Quiet.nil hmix k_laws_szFractionS rfl ?_ ?_
  · first | rfl | simp
  show wpc 0 PP _ c_laws_szFractionS (initSt [.sl (frsA l) false, .int .i64 n] .nil) (endP r_laws_szFractionS (.int .i64 (if (l.length : Int) ≤ n then n - l.length else -1)))
  obtain ⟨h0, h1, hl⟩ := h
  have hw : IntKind.i64.wrap (n - l.length) = n - l.length := wrapI64 (by simp only [maxLen] at hl; omega) (by omega)
  simp -dsimp -implicitDefEqProofs [c_laws_szFractionS, r_laws_szFractionS, hw]
  by_cases hlt : (l.length : Int) ≤ n
  · have h2 : ¬ (n - (l.length : Int) < 0) := by omega
    simp -dsimp -implicitDefEqProofs [hlt, h2]
  · have h2 : n - (l.length : Int) < 0 := by omega
    simp -dsimp -implicitDefEqProofs [hlt, h2]
noncomputable def sp_toFraction : List AV → Option (AV) := pf (ι := (Int) × (Int)) (α := AV) (fun ⟨p, q⟩ => True) (fun ⟨p, q⟩ => [.agg [.int .i64 p, .int .i64 q]]) (fun ⟨p, q⟩ => .agg [.int .i64 p, .int .i64 q])
theorem sp_toFraction_eq (p q : Int) : sp_toFraction [.agg [.int .i64 p, .int .i64 q]] = some (.agg [.int .i64 p, .int .i64 q]) := by
  unfold sp_toFraction
  exact pf_eq (ι := (Int) × (Int)) (α := AV) (p, q) trivial (by rintro ⟨p', q'⟩ _ e; simp_all [Int.natCast_inj])
attribute [simp] sp_toFraction_eq
theorem q_laws_toFraction : QP PP 195 sp_toFraction := by
  refine QP_pf (fun i h => ?_) fun i h => ?_
  · obtain ⟨p, q⟩ := i; exact ⟨by first | rfl | simp, by first | rfl | simp⟩
  obtain ⟨p, q⟩ := i
  replace h : True := h
  refine P_code Quiet.nil hmix k_laws_toFraction rfl ?_ ?_
  · first | rfl | simp
  show wpc 0 PP _ c_laws_toFraction (initSt [.agg [.int .i64 p, .int .i64 q]] .nil) (endP r_laws_toFraction (.agg [.int .i64 p, .int .i64 q]))
  simp -dsimp -implicitDefEqProofs [c_laws_toFraction, r_laws_toFraction]
noncomputable def sp_toGraph : List AV → Option (AV) := pf (ι := (Int) × (Int)) (α := AV) (fun ⟨n, e⟩ => True) (fun ⟨n, e⟩ => [.agg [.int .i64 n, .int .u32 e]]) (fun ⟨n, e⟩ => .agg [.int .i64 n, .int .u32 e])
theorem sp_toGraph_eq (n e : Int) : sp_toGraph [.agg [.int .i64 n, .int .u32 e]] = some (.agg [.int .i64 n, .int .u32 e]) := by
  unfold sp_toGraph
  exact pf_eq (ι := (Int) × (Int)) (α := AV) (n, e) trivial (by rintro ⟨n', e'⟩ _ e; simp_all [Int.natCast_inj])
attribute [simp] sp_toGraph_eq
theorem q_laws_toGraph : QP PP 194 sp_toGraph := by
  refine QP_pf (fun i h => ?_) fun i h => ?_
  · obtain ⟨n, e⟩ := i; exact ⟨by first | rfl | simp, by first | rfl | simp⟩
  obtain ⟨n, e⟩ := i
  replace h : True := h
  refine P_code Quiet.nil hmix k_laws_toGraph rfl ?_ ?_
  · first | rfl | simp
  show wpc 0 PP _ c_laws_toGraph (initSt [.agg [.int .i64 n, .int .u32 e]] .nil) (endP r_laws_toGraph (.agg [.int .i64 n, .int .u32 e]))
  simp -dsimp -implicitDefEqProofs [c_laws_toGraph, r_laws_toGraph]
theorem frsA_cells (l : List Fr) : ∀ x ∈ frsA l, x.cells.length = 2 ∧ ltL 0 x.cells = true := by
  intro x hx
  obtain ⟨p, _, rfl⟩ := List.mem_map.1 hx
  exact ⟨rfl, rfl⟩
noncomputable def sp_toFractionS : List AV → Option (AV) := pf (ι := (List Fr)) (α := AV) (fun l => l.length ≤ 1048576) (fun l => [.sl (frsA l) false]) (fun l => .sl (frsA l) false)
theorem sp_toFractionS_eq (l : List Fr) (h : l.length ≤ 1048576) : sp_toFractionS [.sl (frsA l) false] = some (.sl (frsA l) false) := by
  unfold sp_toFractionS
  exact pf_eq (ι := (List Fr)) (α := AV) l h (by rintro l' _ e; simp_all [Int.natCast_inj])
theorem q_laws_toFractionS : QP PP 172 sp_toFractionS := by
  refine QP_pf (fun l h => ?_) fun l h => ?_
  · exact ⟨by first | rfl | simp, by first | rfl | simp⟩
  replace h : l.length ≤ 1048576 := h
  refine P_code (Quiet.q1 q_laws_toFraction Quiet.nil) hmix k_laws_toFractionS rfl ?_ ?_
  · first | rfl | simp
  show wpc 0 PP _ c_laws_toFractionS (initSt [.sl (frsA l) false] .nil) (endP r_laws_toFractionS (.sl (frsA l) false))
  have hm : (l.length : Int) * 17 ≤ (mostBytes : Int) := by simp only [mostBytes]; omega
  simp -dsimp -implicitDefEqProofs [c_laws_toFractionS, r_laws_toFractionS, hm]
  refine wpLoop_st (fun (i : Nat × List AV) => ⟨tl [(0, .sl (frsA l) false), (3, .ref 0 2 0 l.length .tight), (4, .int .i64 i.1)], ⟨[some i.2]⟩⟩) (fun i => i.1 ≤ l.length ∧ Filled 2 i.2 (frsA l) i.1 ∧ ltL 0 i.2 = true) (fun i => l.length - i.1) (0, newCells 2 l.length [.int .i64 0, .int .i64 0])
    ⟨Nat.zero_le _, Filled.zero (by simp [newCells, flat_len]), newCells_lt 2 l.length rfl⟩ (Sub.keep (by simp) (by
      have := newCells_lt (n := 1) 2 l.length (z := [.int .i64 0, .int .i64 0]) rfl
      simp [hsub, renL_id] at this ⊢
      exact this) (by simp)) ?_
  rintro ⟨i, cs⟩ ⟨h1, h2, h3⟩
  simp -dsimp -implicitDefEqProofs
  refine brW_of (fun h => ?_) (fun h => ?_) <;> simp only [decide_eq_true_eq, decide_eq_false_iff_not] at h
  · have hi : i < l.length := by omega
    have hw := wrapNat (i := i) (by omega)
    have hl : cs.length = l.length * 2 := by have := h2.len; rw [mapA_length] at this; exact this
    have hfit : i * 2 + 2 ≤ cs.length := by omega
    simp -dsimp -implicitDefEqProofs [hi, hfit, hw]
    refine .mk (i + 1, setCells cs (i * 2) (frA l[i]).cells) ⟨by simp only; omega, h2.step (by simp [hi]) rfl, setCells_lt _ _ _ h3 rfl⟩ (by simp only; omega) (Sub.keep (by simp) ?_ (by simp))
    have := setCells_lt (n := 1) _ (i * 2) (frA l[i]).cells (ltL_mono (Nat.zero_le 1) _ h3) rfl
    simp [hsub, renL_id, setCells] at this ⊢
    exact this
  · have hi : i = l.length := by omega
    subst hi
    simp -dsimp -implicitDefEqProofs
    have h2' : Filled 2 cs (frsA l) (frsA l).length := by rw [mapA_length]; exact h2
    have hl : cs.length = l.length * 2 := by have := h2.len; rw [mapA_length] at this; exact this
    refine ⟨_, Shift.tmp (k := 2) (b := 0) (e := 2) (o := 0) (n := l.length) (xs := frsA l) (t' := false) (t := .tight) (cs := cs) (by simp -dsimp) (by simp -dsimp) (by simp) (by omega) (by simp) (frsA_cells l) (.inl (by rw [h2'.all (fun x hx => (frsA_cells l x hx).1) (by omega)]; simp [← hl])), ?_⟩
    simp -dsimp -implicitDefEqProofs
noncomputable def sp_eqFraction : List AV → Option (AV) := pf (ι := (Int) × (Int) × (Int) × (Int)) (α := AV) (fun ⟨p, q, p', q'⟩ => True) (fun ⟨p, q, p', q'⟩ => [.agg [.int .i64 p, .int .i64 q], .agg [.int .i64 p', .int .i64 q']]) (fun ⟨p, q, p', q'⟩ => .bool (p == p' && q == q'))
theorem sp_eqFraction_eq (p q p' q' : Int) : sp_eqFraction [.agg [.int .i64 p, .int .i64 q], .agg [.int .i64 p', .int .i64 q']] = some (.bool (p == p' && q == q')) := by
  unfold sp_eqFraction
  exact pf_eq (ι := (Int) × (Int) × (Int) × (Int)) (α := AV) (p, q, p', q') trivial (by rintro ⟨p', q', p'', q''⟩ _ e; simp_all [Int.natCast_inj])
attribute [simp] sp_eqFraction_eq
theorem q_laws_eqFraction : QP PP 95 sp_eqFraction := by
  refine QP_pf (fun i h => ?_) fun i h => ?_
  · obtain ⟨p, q, p', q'⟩ := i; exact ⟨by first | rfl | simp, by first | rfl | simp⟩
  obtain ⟨p, q, p', q'⟩ := i
  replace h : True := h
  refine P_code Quiet.nil hmix k_laws_eqFraction rfl ?_ ?_
  · first | rfl | simp
  show wpc 0 PP _ c_laws_eqFraction (initSt [.agg [.int .i64 p, .int .i64 q], .agg [.int .i64 p', .int .i64 q']] .nil) (endP r_laws_eqFraction (.bool (p == p' && q == q')))
  simp -dsimp -implicitDefEqProofs [c_laws_eqFraction, r_laws_eqFraction]
  repeat' (refine brW_of (fun h => ?_) (fun h => ?_) <;> have h0 := h <;> (try simp only [Bool.and_eq_true, Bool.and_eq_false_iff, Bool.or_eq_true, Bool.or_eq_false_iff, Bool.not_eq_true', Bool.not_eq_false', decide_eq_true_eq, decide_eq_false_iff_not, beq_iff_eq, beq_eq_false_iff_ne, bne_iff_ne, bne_eq_false_iff_eq] at h) <;> simp -dsimp -implicitDefEqProofs [h, h0, *])
noncomputable def sp_eqGraph : List AV → Option (AV) := pf (ι := (Int) × (Int) × (Int) × (Int)) (α := AV) (fun ⟨p, q, p', q'⟩ => True) (fun ⟨p, q, p', q'⟩ => [.agg [.int .i64 p, .int .u32 q], .agg [.int .i64 p', .int .u32 q']]) (fun ⟨p, q, p', q'⟩ => .bool (p == p' && q == q'))
theorem sp_eqGraph_eq (p q p' q' : Int) : sp_eqGraph [.agg [.int .i64 p, .int .u32 q], .agg [.int .i64 p', .int .u32 q']] = some (.bool (p == p' && q == q')) := by
  unfold sp_eqGraph
  exact pf_eq (ι := (Int) × (Int) × (Int) × (Int)) (α := AV) (p, q, p', q') trivial (by rintro ⟨p', q', p'', q''⟩ _ e; simp_all [Int.natCast_inj])
attribute [simp] sp_eqGraph_eq
theorem q_laws_eqGraph : QP PP 40 sp_eqGraph := by
  refine QP_pf (fun i h => ?_) fun i h => ?_
  · obtain ⟨p, q, p', q'⟩ := i; exact ⟨by first | rfl | simp, by first | rfl | simp⟩
  obtain ⟨p, q, p', q'⟩ := i
  replace h : True := h
  refine P_code Quiet.nil hmix k_laws_eqGraph rfl ?_ ?_
  · first | rfl | simp
  show wpc 0 PP _ c_laws_eqGraph (initSt [.agg [.int .i64 p, .int .u32 q], .agg [.int .i64 p', .int .u32 q']] .nil) (endP r_laws_eqGraph (.bool (p == p' && q == q')))
  simp -dsimp -implicitDefEqProofs [c_laws_eqGraph, r_laws_eqGraph]
  repeat' (refine brW_of (fun h => ?_) (fun h => ?_) <;> have h0 := h <;> (try simp only [Bool.and_eq_true, Bool.and_eq_false_iff, Bool.or_eq_true, Bool.or_eq_false_iff, Bool.not_eq_true', Bool.not_eq_false', decide_eq_true_eq, decide_eq_false_iff_not, beq_iff_eq, beq_eq_false_iff_ne, bne_iff_ne, bne_eq_false_iff_eq] at h) <;> simp -dsimp -implicitDefEqProofs [h, h0, *])
noncomputable def sp_eqFractionS : List AV → Option (AV) := pf (ι := (List Fr) × (List Fr)) (α := AV) (fun ⟨l, k⟩ => l.length ≤ maxLen) (fun ⟨l, k⟩ => [.sl (frsA l) false, .sl (frsA k) false]) (fun ⟨l, k⟩ => .bool (decide (l = k)))
theorem sp_eqFractionS_eq (l k : List Fr) (h : l.length ≤ maxLen) : sp_eqFractionS [.sl (frsA l) false, .sl (frsA k) false] = some (.bool (decide (l = k))) := by
  unfold sp_eqFractionS
  exact pf_eq (ι := (List Fr) × (List Fr)) (α := AV) (l, k) h (by rintro ⟨l', k'⟩ _ e; simp_all [Int.natCast_inj])
theorem q_laws_eqFractionS : QP PP 41 sp_eqFractionS := by
  refine QP_pf (fun i h => ?_) fun i h => ?_
  · obtain ⟨l, k⟩ := i; exact ⟨by first | rfl | simp, by first | rfl | simp⟩
  obtain ⟨l, k⟩ := i
  replace h : l.length ≤ maxLen := h
  refine P_code (Quiet.q1 q_laws_eqFraction Quiet.nil) hmix k_laws_eqFractionS rfl ?_ ?_
  · first | rfl | simp
  show wpc 0 PP _ c_laws_eqFractionS (initSt [.sl (frsA l) false, .sl (frsA k) false] .nil) (endP r_laws_eqFractionS (.bool (decide (l = k))))
  simp only [maxLen] at h
  by_cases hlen : l.length = k.length
  · simp -dsimp -implicitDefEqProofs [c_laws_eqFractionS, r_laws_eqFractionS, hlen]
    refine wpLoop_st (fun (i : Nat) => ⟨tl [(0, .sl (frsA l) false), (1, .sl (frsA k) false), (5, .int .i64 i)], ⟨[]⟩⟩) (fun i => i ≤ l.length ∧ l.take i = k.take i) (fun i => l.length - i) 0 ⟨Nat.zero_le _, rfl⟩ (Sub.keep (by simp) (by simp [hsub]) (by simp)) ?_
    rintro i ⟨h1, h2⟩
    simp -dsimp -implicitDefEqProofs
    refine brW_of (fun h => ?_) (fun h => ?_) <;> simp only [decide_eq_true_eq, decide_eq_false_iff_not] at h
    · have hi : i < l.length := by omega
      have hj : i < k.length := by omega
      have hw := wrapNat (i := i) (by omega)
      by_cases he : l[i] = k[i]
      · simp -dsimp -implicitDefEqProofs [hi, hj, hw, he]
        exact .mk (i + 1) ⟨by omega, by rw [take_snoc l i hi, take_snoc k i hj, h2, he]⟩ (by omega) (Sub.keep (by simp) (by simp [hsub]) (by simp))
      · have hne : ¬ l = k := fun e => he (by subst e; rfl)
        have he' : (l[i].p == k[i].p && l[i].q == k[i].q) = false := by
          rw [Bool.eq_false_iff]
          intro hh
          simp at hh
          apply he
          cases hx : l[i]; cases hy : k[i]
          simp_all
        have he2 : (!(l[i].p == k[i].p) || !(l[i].q == k[i].q)) = true := by rw [← Bool.not_and, he']; rfl
        simp -dsimp -implicitDefEqProofs [hi, hj, hw, hne, he', he2]
    · have hi : i = l.length := by omega
      have he : l = k := by
        rw [hi, List.take_length, hlen, List.take_length] at h2
        exact h2
      simp -dsimp -implicitDefEqProofs [he]
  · have hne : ¬ l = k := fun e => hlen (by rw [e])
    have hln : ((l.length : Int) != (k.length : Int)) = true := by simp; omega
    simp -dsimp -implicitDefEqProofs [c_laws_eqFractionS, r_laws_eqFractionS, hln, hne]
end Go.Proofs.YtlglgcmpeabdnaaGreatDoorAi
end

section
/- Bits of numbers; copies of cells over and over. -/
namespace Go.Proofs.YtlglgcmpeabdnaaGreatDoorAi
open Go Go.RowKit
set_option linter.unusedVariables false
set_option linter.unusedSimpArgs false

theorem wrapU {k : IntKind} (hk : k.signed = false) {n : Int} (h0 : 0 ≤ n) (h1 : n < 2 ^ k.bits) : k.wrap n = n := by
  simp only [IntKind.wrap, hk, Bool.false_and]
  rw [Int.emod_eq_of_lt h0 h1]
  simp
theorem wrap32 {n : Int} (h0 : 0 ≤ n) (h1 : n < 4294967296) : IntKind.u32.wrap n = n := wrapU rfl h0 h1
/-! ### cells over and over -/
end Go.Proofs.YtlglgcmpeabdnaaGreatDoorAi
end

section
/- Cells of lists of data. -/
namespace Go.Proofs.YtlglgcmpeabdnaaGreatDoorAi
open Go Go.RowKit
set_option linter.unusedVariables false
set_option linter.unusedSimpArgs false
set_option linter.unusedSectionVars false

/-- Data that take so many plain cells. -/
class Plain {α : Type} (f : α → AV) (e : outParam Nat) : Prop where
  len : ∀ x, (f x).cells.length = e
  pos : 0 < e
  low : ∀ x, ltL 0 (f x).cells = true
  flat : ∀ x, flatL (f x).cells = true
  loose : ∀ x, looseL (f x).cells = (f x).cells
  elem : ∀ x r, elemA e ((f x).cells ++ r) = f x
instance : Plain frA 2 := ⟨fun _ => rfl, by omega, fun _ => rfl, fun _ => rfl, fun _ => rfl, fun _ _ => rfl⟩
instance : Plain grA 2 := ⟨fun _ => rfl, by omega, fun _ => rfl, fun _ => rfl, fun _ => rfl, fun _ _ => rfl⟩
instance : Plain flA 3 := ⟨fun _ => rfl, by omega, fun _ => rfl, fun _ => rfl, fun _ => rfl, fun _ _ => rfl⟩
instance : Plain inA 1 := ⟨fun _ => rfl, by omega, fun _ => rfl, fun _ => rfl, fun _ => rfl, fun _ _ => rfl⟩

def flatA (xs : List AV) : List AV := xs.flatMap AV.cells
section
variable {α : Type} {f : α → AV} {e : Nat} [hP : Plain f e]
include hP
theorem flatA_mem (l : List α) : ∀ x ∈ mapA f l, x.cells.length = e := by
  intro x hx
  obtain ⟨a, _, rfl⟩ := List.mem_map.1 hx
  exact hP.len a
@[simp] theorem flatA_len (l : List α) : (flatA (mapA f l)).length = l.length * e := by
  unfold flatA
  rw [flatMap_len e _ (flatA_mem l), mapA_length]
theorem flatA_at (l : List α) (k : Nat) : (flatA (mapA f l))[k]? = (l[k / e]?).bind fun x => (f x).cells[k % e]? := by
  unfold flatA
  rw [flatMap_get e _ k (flatA_mem l) hP.pos, mapA_get]
  cases l[k / e]? <;> rfl
theorem flatA_get (l : List α) (i j : Nat) (hj : j < e) : (flatA (mapA f l))[i * e + j]? = (l[i]?).bind fun x => (f x).cells[j]? := by
  rw [flatA_at, Nat.mul_comm, Nat.mul_add_div hP.pos, Nat.div_eq_of_lt hj, Nat.add_zero, Nat.mul_add_mod, Nat.mod_eq_of_lt hj]
omit hP in
theorem flatA_append (l k : List α) : flatA (mapA f (l ++ k)) = flatA (mapA f l) ++ flatA (mapA f k) := by simp [flatA, mapA]
omit hP in
theorem flatA_one (x : α) : flatA (mapA f [x]) = (f x).cells := by simp [flatA, mapA]
omit hP in
@[simp] theorem flatA_nil : flatA (mapA f []) = [] := rfl
omit hP in
theorem flatA_cons (x : α) (l : List α) : flatA (mapA f (x :: l)) = (f x).cells ++ flatA (mapA f l) := by simp [flatA, mapA]
theorem flatA_lt (n : Nat) : ∀ l : List α, ltL n (flatA (mapA f l)) = true
  | [] => rfl
  | x :: l => by rw [flatA_cons, ltL_append, flatA_lt n l, ltL_mono (Nat.zero_le n) _ (hP.low x)]; rfl
theorem flatA_flat : ∀ l : List α, flatL (flatA (mapA f l)) = true
  | [] => rfl
  | x :: l => by
    rw [flatA_cons]
    have : ∀ a b : List AV, flatL a = true → flatL b = true → flatL (a ++ b) = true := by
      intro a b ha hb
      induction a with
      | nil => exact hb
      | cons y a ih =>
        simp only [List.cons_append, flatL, Bool.and_eq_true] at *
        exact ⟨ha.1, ih ha.2⟩
    exact this _ _ (hP.flat x) (flatA_flat l)
theorem flatA_loose : ∀ l : List α, looseL (flatA (mapA f l)) = flatA (mapA f l)
  | [] => rfl
  | x :: l => by
    rw [flatA_cons, looseL_map, List.map_append, ← looseL_map, ← looseL_map, hP.loose, flatA_loose l]
theorem flatA_ren (g : Nat → Nat) (l : List α) : renL g (flatA (mapA f l)) = flatA (mapA f l) := renL_low _ _ (flatA_lt 0 l)
theorem flatA_gath : ∀ (l : List α) (n : Nat), n = l.length → gath e n (flatA (mapA f l)) = mapA f l
  | [], n, h => by subst h; rfl
  | x :: l, n, h => by
    subst h
    rw [List.length_cons, gath, flatA_cons, hP.elem, List.drop_left' (hP.len x), flatA_gath l _ rfl]
    rfl
omit hP in
theorem flatA_rep (n : Nat) (x : α) : (List.replicate n (f x).cells).flatten = flatA (mapA f (List.replicate n x)) := by
  induction n with
  | zero => rfl
  | succ n ih => rw [List.replicate_succ, List.flatten_cons, ih, List.replicate_succ, flatA_cons]
end
@[simp] theorem flatA_nms {α : Type} {f : α → AV} {e : Nat} [Plain f e] (l : List α) : nmsL (flatA (mapA f l)) = [] := nmsL_low _ (flatA_lt 0 l)
attribute [simp] flatA_lt flatA_flat flatA_loose flatA_ren
@[simp] theorem all_plain {α : Type} {f : α → AV} {e : Nat} [hP : Plain f e] (l : List α) : (mapA f l).all (fun x => x.cells.length == e) = true := by
  rw [List.all_eq_true]
  intro x hx
  exact beq_iff_eq.2 (flatA_mem l x hx)
@[simp] theorem fm_plain {α : Type} {f : α → AV} {e : Nat} [hP : Plain f e] (l : List α) : (mapA f l).flatMap AV.cells = flatA (mapA f l) := rfl
@[simp 2000] theorem sliceCells_plain {α : Type} {f : α → AV} {e : Nat} [hP : Plain f e] (A : AHeap) (l : List α) (t : Bool) : sliceCells A e (.sl (mapA f l) t) = some (flatA (mapA f l)) := by
  show (if ((mapA f l).all fun x => x.cells.length == e) = true then some (List.flatMap AV.cells (mapA f l)) else none) = _
  rw [if_pos (all_plain l)]
  rfl
@[simp 2000] theorem sliceA_plain {α : Type} {f : α → AV} {e : Nat} [hP : Plain f e] (l : List α) (t : Bool) (lo hi : Nat) (mx : Option Nat) : sliceA e (.sl (mapA f l) t) lo hi mx = if lo ≤ hi ∧ hi ≤ l.length ∧ maxOk hi l.length mx = true then some (.sl (mapA f ((l.take hi).drop lo)) (maxTight hi l.length t mx)) else none := by
  have h1 := all_plain (f := f) (e := e) l
  unfold sliceA
  dsimp only
  rw [mapA_length]
  by_cases c : lo ≤ hi ∧ hi ≤ l.length ∧ maxOk hi l.length mx = true
  · rw [if_pos ⟨c.1, c.2.1, c.2.2, h1⟩, if_pos c]
    simp [mapA, List.map_drop, List.map_take]
  · rw [if_neg (fun h => c ⟨h.1, h.2.1, h.2.2.1⟩), if_neg c]
@[simp] theorem gath_fr (l : List Fr) (n : Nat) (h : n = l.length) : gath 2 n (flatA (mapA frA l)) = mapA frA l := flatA_gath l n h
@[simp] theorem gath_gr (l : List Gr) (n : Nat) (h : n = l.length) : gath 2 n (flatA (mapA grA l)) = mapA grA l := flatA_gath l n h
@[simp] theorem gath_fl (l : List Fl) (n : Nat) (h : n = l.length) : gath 3 n (flatA (mapA flA l)) = mapA flA l := flatA_gath l n h
@[simp] theorem gath_in (l : List Int) (n : Nat) (h : n = l.length) : gath 1 n (flatA (mapA inA l)) = mapA inA l := flatA_gath l n h
@[simp] theorem news_fr (n : Nat) (p q : Int) : (List.replicate n [.int .i64 p, .int .i64 q]).flatten = flatA (mapA frA (List.replicate n ⟨p, q⟩)) := flatA_rep (f := frA) n ⟨p, q⟩
@[simp] theorem news_gr (n : Nat) (p q : Int) : (List.replicate n [.int .i64 p, .int .u32 q]).flatten = flatA (mapA grA (List.replicate n ⟨p, q⟩)) := flatA_rep (f := grA) n ⟨p, q⟩
@[simp] theorem news_fl (n : Nat) (m p q : Int) : (List.replicate n [.int .i64 m, .int .i64 p, .int .u32 q]).flatten = flatA (mapA flA (List.replicate n ⟨m, p, q⟩)) := flatA_rep (f := flA) n ⟨m, p, q⟩
@[simp] theorem news_in (n : Nat) (p : Int) : (List.replicate n [.int .i64 p]).flatten = flatA (mapA inA (List.replicate n p)) := flatA_rep (f := inA) n p
theorem get_fr0 (l : List Fr) (i : Nat) (h : i < l.length) : (flatA (mapA frA l))[i * 2]? = some (.int .i64 l[i].p) := by
  have := flatA_get (f := frA) l i 0 (by omega)
  rw [Nat.add_zero] at this
  rw [this]; simp [h]
theorem get_fr1 (l : List Fr) (i : Nat) (h : i < l.length) : (flatA (mapA frA l))[i * 2 + 1]? = some (.int .i64 l[i].q) := by
  rw [flatA_get (f := frA) l i 1 (by omega)]; simp [h]
/-! ### marks -/
def marksF : Nat → Int → List Fr
  | 0, _ => []
  | n + 1, k => ⟨k, k + 1⟩ :: marksF n (k + 2)
@[simp] theorem marksF_len : ∀ (n : Nat) (k : Int), (marksF n k).length = n
  | 0, _ => rfl
  | n + 1, k => by simp [marksF, marksF_len n]
@[simp] theorem marksF_inj (n n' : Nat) (k k' : Int) : marksF n k = marksF n' k' ↔ n = n' ∧ (n = 0 ∨ k = k') := by
  constructor
  · intro h
    have hn : n = n' := by have := congrArg List.length h; simpa using this
    subst hn
    refine ⟨rfl, ?_⟩
    cases n with
    | zero => exact .inl rfl
    | succ n =>
      simp only [marksF, List.cons.injEq, Fr.mk.injEq] at h
      exact .inr h.1.1
  · rintro ⟨rfl, rfl | rfl⟩ <;> rfl
end Go.Proofs.YtlglgcmpeabdnaaGreatDoorAi
end

section
/- MADE BY PROGRAM (wip/tools/gen.py): the abstract code of functions. -/
namespace Go.Proofs.YtlglgcmpeabdnaaGreatDoorAi
open Go AC AOp Opd
set_option linter.unusedVariables false
set_option maxRecDepth 100000
def c_impl_bit : AC := seq (reg [⟨(some 4), mv (c (.int .u32 0)), none⟩]) (seq (seq (reg [⟨(some 5), mv (t 0), none⟩, ⟨(some 6), mv (t 1), none⟩, ⟨(some 7), bin .gtr (t 5) (t 6), none⟩]) (cond (t 7) (reg [⟨(some 8), mv (t 1), none⟩, ⟨(some 9), mv (t 0), none⟩, ⟨(some 0), mv (t 8), none⟩, ⟨(some 1), mv (t 9), none⟩]) (skip))) (seq (reg [⟨(some 10), mv (t 1), none⟩, ⟨(some 11), callq (c (.fn 130 [])) [t 10], none⟩, ⟨(some 12), mv (t 0), none⟩, ⟨(some 13), bin .add (t 11) (t 12), none⟩, ⟨(some 14), bin .shl (c (.int .u32 1)) (t 13), none⟩, ⟨(some 4), mv (t 14), none⟩]) (ret)))
def r_impl_bit : List ARes := [.tmp 4]
theorem k_impl_bit : acLin Go.Proofs.Tryz.prog 83 2 (inQ [130] []) [] = some (c_impl_bit, r_impl_bit) := by kernel_rfl
def c_impl_made : AC := seq (reg [⟨(some 4), alloc [.int .i64 0, .int .u32 0], none⟩]) (seq (reg [⟨(some 8), mv (t 0), none⟩, ⟨(some 9), bld [.int .i64 0, .int .u32 0] [(0, 1, t 8)], none⟩, ⟨(some 5), alloc [.int .i64 0, .int .u32 0], none⟩, ⟨none, st (t 5) 2 (t 9), none⟩]) (seq (seq (reg [⟨(some 10), mv (t 0), none⟩, ⟨(some 11), mv (c (.int .i64 0)), none⟩]) (block 0 (loop (seq (reg [⟨(some 12), bin .lss (t 11) (t 10), none⟩]) (seq (cond (t 12) (skip) (exit 0)) (seq (block 1 (seq (reg [⟨(some 13), mv (t 11), none⟩, ⟨(some 6), mv (t 13), none⟩]) (seq (reg [⟨(some 14), mv (t 6), none⟩, ⟨(some 15), mv (c (.int .i64 0)), none⟩]) (block 2 (loop (seq (reg [⟨(some 16), bin .lss (t 15) (t 14), none⟩]) (seq (cond (t 16) (skip) (exit 2)) (seq (block 3 (seq (reg [⟨(some 17), mv (t 15), none⟩, ⟨(some 7), mv (t 17), none⟩]) (seq (reg [⟨(some 18), mv (t 1), none⟩, ⟨(some 19), mv (t 7), none⟩, ⟨(some 20), mv (t 6), none⟩, ⟨(some 21), call (t 18) [t 19, t 20], none⟩]) (cond (t 21) (reg [⟨(some 22), fad (t 5) 1, none⟩, ⟨(some 23), ld (t 22) 1 false, none⟩, ⟨(some 24), mv (t 7), none⟩, ⟨(some 25), mv (t 6), none⟩, ⟨(some 26), callq (c (.fn 83 [])) [t 24, t 25], none⟩, ⟨(some 27), bin .or (t 23) (t 26), none⟩, ⟨(some 28), fad (t 5) 1, none⟩, ⟨none, st (t 28) 1 (t 27), none⟩]) (skip))))) (reg [⟨(some 29), bin .add (t 15) (c (.int .i64 1)), none⟩, ⟨(some 15), mv (t 29), none⟩]))))))))) (reg [⟨(some 30), bin .add (t 11) (c (.int .i64 1)), none⟩, ⟨(some 11), mv (t 30), none⟩]))))))) (seq (reg [⟨(some 31), ld (t 5) 2 true, none⟩, ⟨none, st (t 4) 2 (t 31), none⟩]) (ret))))
def r_impl_made : List ARes := [.cell 4 2 true]
theorem k_impl_made : acLin Go.Proofs.Tryz.prog 217 2 (inQ [83] []) [⟨false, none, [], [], none⟩, ⟨false, none, [], [], none⟩, ⟨false, none, [], [], none⟩, ⟨false, none, [], [], none⟩, ⟨false, none, [], [], none⟩, ⟨false, none, [], [], none⟩, ⟨false, none, [], [], none⟩, ⟨false, none, [], [], none⟩, ⟨false, none, [], [], none⟩, ⟨false, none, [], [], none⟩, ⟨false, none, [], [], none⟩, ⟨false, some [0, 1, 2, 3, 4, 5, 6, 7], [], [], none⟩] = some (c_impl_made, r_impl_made) := by kernel_rfl
end Go.Proofs.YtlglgcmpeabdnaaGreatDoorAi
end

section
/- Contracts: products of words; cells over and over; patterns of equal parts. -/
namespace Go.Proofs.YtlglgcmpeabdnaaGreatDoorAi
open Go Go.RowKit
set_option linter.unusedVariables false
set_option linter.unusedSimpArgs false
set_option maxRecDepth 20000

def evenL (n : Int) : List Fr := List.replicate n.toNat ⟨1, n⟩
end Go.Proofs.YtlglgcmpeabdnaaGreatDoorAi
end

section
/- Contracts: patterns of equal weights. -/
namespace Go.Proofs.YtlglgcmpeabdnaaGreatDoorAi
open Go Go.RowKit
set_option linter.unusedVariables false
set_option linter.unusedSimpArgs false
set_option maxRecDepth 20000

end Go.Proofs.YtlglgcmpeabdnaaGreatDoorAi
end

section
/- Contracts: bits of edges; graphs that are made. -/
namespace Go.Proofs.YtlglgcmpeabdnaaGreatDoorAi
open Go Go.RowKit
set_option linter.unusedVariables false
set_option linter.unusedSimpArgs false
set_option maxRecDepth 20000
variable {P : Program}

def bitI (i j : Nat) : Nat := if i < j then j * (j - 1) / 2 + i else i * (i - 1) / 2 + j
noncomputable def sp_bit : List AV → Option (AV) := pf (ι := (Int) × (Int)) (α := AV) (fun ⟨i, j⟩ => (0 ≤ i ∧ i ≤ 5) ∧ (0 ≤ j ∧ j ≤ 5)) (fun ⟨i, j⟩ => [.int .i64 i, .int .i64 j]) (fun ⟨i, j⟩ => .int .u32 (2 ^ bitI i.toNat j.toNat))
theorem sp_bit_eq (i j : Int) (h : (0 ≤ i ∧ i ≤ 5) ∧ (0 ≤ j ∧ j ≤ 5)) : sp_bit [.int .i64 i, .int .i64 j] = some (.int .u32 (2 ^ bitI i.toNat j.toNat)) := by
  unfold sp_bit
  exact pf_eq (ι := (Int) × (Int)) (α := AV) (i, j) h (by rintro ⟨i', j'⟩ _ e; simp_all [Int.natCast_inj])
theorem q_impl_bit : QP PP 83 sp_bit := by
  refine QP_pf (fun i h => ?_) fun i h => ?_
  · obtain ⟨i, j⟩ := i; exact ⟨by first | rfl | simp, by first | rfl | simp⟩
  obtain ⟨i, j⟩ := i
  replace h : (0 ≤ i ∧ i ≤ 5) ∧ (0 ≤ j ∧ j ≤ 5) := h
  refine P_code (Quiet.q1 q_impl_pairs Quiet.nil) hmix k_impl_bit rfl ?_ ?_
  · first | rfl | simp
  show wpc 0 PP _ c_impl_bit (initSt [.int .i64 i, .int .i64 j] .nil) (endP r_impl_bit (.int .u32 (2 ^ bitI i.toNat j.toNat)))
  obtain ⟨⟨i0, i1⟩, j0, j1⟩ := h
  have hj : j = 0 ∨ j = 1 ∨ j = 2 ∨ j = 3 ∨ j = 4 ∨ j = 5 := by omega
  have hi : i = 0 ∨ i = 1 ∨ i = 2 ∨ i = 3 ∨ i = 4 ∨ i = 5 := by omega
  rcases hi with rfl | rfl | rfl | rfl | rfl | rfl <;> rcases hj with rfl | rfl | rfl | rfl | rfl | rfl <;> simp -dsimp -implicitDefEqProofs [c_impl_bit, r_impl_bit, sp_pairs_eq, pI0, pI1, pI2, pI3, pI4, pI5, bitI, IntKind.wrap, IntKind.bits, IntKind.signed]
/-! ### a call that sees some objects, of which nothing is known here -/
def ClosedH (os : List (Option (List AV))) : Prop := ∀ b cs, hget os b = some cs → ltL os.length cs = true
theorem hset_pre (os r : List (Option (List AV))) (i : Nat) (x : Option (List AV)) : hset (os ++ r) (os.length + i) x = os ++ hset r i x := by
  induction os with
  | nil => simp
  | cons o os ih =>
    simp only [List.cons_append, List.length_cons, hset]
    rw [if_neg (by omega), show os.length + 1 + i - 1 = os.length + i by omega, ih]
theorem hset_pre0 (os r : List (Option (List AV))) (x : Option (List AV)) : hset (os ++ r) os.length x = os ++ hset r 0 x := hset_pre os r 0 x
theorem hsub_of {f : Nat → Nat} {n : Nat} {A : AHeap} : ∀ {l : List (Option (List AV))} {i : Nat}, (∀ b, b < l.length → f (i + b) < A.n) → (∀ b cs, hget l b = some cs → ltL n cs = true ∧ A (f (i + b)) = some (renL f cs)) → hsub f n A i l
  | [], i, _, _ => trivial
  | none :: r, i, h1, h2 => ⟨by simpa using h1 0 (by simp), hsub_of (fun b hb => by have := h1 (b + 1) (by simp; omega); rwa [show i + (b + 1) = i + 1 + b by omega] at this) (fun b cs hb => by have := h2 (b + 1) cs (by simpa [hget] using hb); rwa [show i + (b + 1) = i + 1 + b by omega] at this)⟩
  | some c :: r, i, h1, h2 => ⟨by simpa using h2 0 c (by simp [hget]), hsub_of (fun b hb => by have := h1 (b + 1) (by simp; omega); rwa [show i + (b + 1) = i + 1 + b by omega] at this) (fun b cs hb => by have := h2 (b + 1) cs (by simpa [hget] using hb); rwa [show i + (b + 1) = i + 1 + b by omega] at this)⟩
theorem hsub_pre {os r : List (Option (List AV))} {m : Nat} (ho : ClosedH os) (hm : os.length ≤ m) : hsub (fun b => b) m ⟨os ++ r⟩ 0 os := by
  refine hsub_of (fun b hb => ?_) fun b cs hb => ?_
  · simp [AHeap.n]; omega
  · have hlt := hget_lt hb
    rw [Nat.zero_add]
    refine ⟨ltL_mono hm _ (ho b cs hb), ?_⟩
    show hget (os ++ r) b = _
    rw [hget_append, if_pos hlt, renL_id, hb]
theorem hsub_append {f : Nat → Nat} {n : Nat} {A : AHeap} : ∀ (l k : List (Option (List AV))) (i : Nat), hsub f n A i l → hsub f n A (i + l.length) k → hsub f n A i (l ++ k)
  | [], k, i, _, h => h
  | none :: r, k, i, h1, h => ⟨h1.1, hsub_append r k (i + 1) h1.2 (by rw [List.length_cons, show i + (r.length + 1) = i + 1 + r.length by omega] at h; exact h)⟩
  | some c :: r, k, i, h1, h => ⟨h1.1, hsub_append r k (i + 1) h1.2 (by rw [List.length_cons, show i + (r.length + 1) = i + 1 + r.length by omega] at h; exact h)⟩
theorem Sub.pre {os r r' : List (Option (List AV))} {t : Nat → AV} {l : List (Nat × AV)} (ho : ClosedH os) (hs : hsub (fun b => b) (os.length + r'.length) ⟨os ++ r⟩ os.length r') (ht : ∀ p ∈ l, p.2.lt (os.length + r'.length) = true ∧ t p.1 = p.2) : Sub os.length ⟨t, ⟨os ++ r⟩⟩ ⟨tl l, ⟨os ++ r'⟩⟩ := by
  have e : (os ++ r').length = os.length + r'.length := by simp
  refine Sub.keep (by simp) ?_ (by rw [e]; exact ht)
  rw [e]
  exact hsub_append _ _ _ (hsub_pre ho (by omega)) (by rw [Nat.zero_add]; exact hs)
theorem View.pre {os r : List (Option (List AV))} (ho : ClosedH os) : View (fun b => b) ⟨os ++ r⟩ ⟨os⟩ := by
  refine ⟨fun b hb => ?_, fun b cs hb => ?_, fun b b' cs cs' _ _ e => e⟩
  · have hb : b < os.length := hb
    simp [AHeap.n]; omega
  · have hlt := hget_lt hb
    refine ⟨ho b cs hb, ?_⟩
    show hget (os ++ r) b = _
    rw [hget_append, if_pos hlt, renL_id]
    exact hb
mutual
theorem ren_same {n : Nat} {g : Nat → Nat} (hg : ∀ b, b < n → g b = b) : ∀ x : AV, x.lt n = true → x.ren g = x
  | .ptr b o, h => by rw [AV.ren, hg b (of_decide_eq_true h)]
  | .ref b e o m t, h => by rw [AV.ren, hg b (of_decide_eq_true h)]
  | .ep x i o, h => by rw [AV.ren, ren_same hg x h]
  | .fn f cs, h => by rw [AV.ren, renL_same hg cs h]
  | .agg cs, h => by rw [AV.ren, renL_same hg cs h]
  | .tup cs, h => by rw [AV.ren, renL_same hg cs h]
  | .bool _, _ | .int _ _, _ | .str _, _ | .sl _ _, _ | .nilp, _ | .nilf, _ | .nili, _ | .iface, _ | .mv _ _, _ | .any, _ => rfl
theorem renL_same {n : Nat} {g : Nat → Nat} (hg : ∀ b, b < n → g b = b) : ∀ cs : List AV, ltL n cs = true → renL g cs = cs
  | [], _ => rfl
  | x :: r, h => by
    simp only [ltL, Bool.and_eq_true] at h
    rw [renL, ren_same hg x h.1, renL_same hg r h.2]
end
theorem upd_pre (g : Nat → Nat) (os r : List (Option (List AV))) (ho : ClosedH os) (hg : ∀ b, b < os.length → g b = b) : upd (fun b => b) g 0 os os (os ++ r) = os ++ r := by
  have key : ∀ (a b : List (Option (List AV))), (∀ i cs, hget b i = some cs → renL g cs = cs) → upd (fun b => b) g a.length b b (a ++ b ++ r) = a ++ b ++ r := by
    intro a b
    induction b generalizing a with
    | nil => intro _; simp [upd]
    | cons o b ih =>
      intro h
      rw [upd]
      have h0 : (if o.isSome = true then hset (a ++ o :: b ++ r) a.length (o.map (renL g)) else a ++ o :: b ++ r) = (a ++ [o]) ++ b ++ r := by
        cases o with
        | none => simp
        | some c =>
          simp only [Option.isSome_some, if_true, Option.map_some, List.append_assoc, List.cons_append]
          rw [hset_pre0, hset, if_pos rfl, h 0 c (by simp [hget])]
          simp
      rw [h0]
      have := ih (a ++ [o]) (fun i cs hi => h (i + 1) cs (by simpa [hget] using hi))
      simp only [List.length_append, List.length_cons, List.length_nil] at this
      rw [this]
      simp
  have := key [] os (fun i cs hi => renL_same hg cs (ho i cs hi))
  simpa using this
/-- A call that sees some objects and leaves them as they are. -/
theorem T.sees {f : FuncId} {args : List AV} {os : List (Option (List AV))} {v : AV} (h : T P f args ⟨os⟩ fun r A' => r = v ∧ A' = ⟨os⟩) (ho : ClosedH os) (ha : ltL os.length args = true) (hv : v.lt 0 = true) (r : List (Option (List AV))) :
    T P f args ⟨os ++ r⟩ fun x A' => x = v ∧ A' = ⟨os ++ r⟩ := by
  have := h.embed (A := ⟨os ++ r⟩) (View.pre ho) ha
  rw [renL_id] at this
  refine this.mono ?_
  rintro x A1 ⟨r', A1', ⟨rfl, rfl⟩, rfl, rfl⟩
  refine ⟨ren_low _ _ hv, AHeap.ext' ?_⟩
  exact upd_pre _ os r ho (fun b hb => by simp [extN, AHeap.n, hb])
end Go.Proofs.YtlglgcmpeabdnaaGreatDoorAi
end

section
/- Contracts: graphs that are made. -/
namespace Go.Proofs.YtlglgcmpeabdnaaGreatDoorAi
open Go Go.RowKit
set_option linter.unusedVariables false
set_option linter.unusedSimpArgs false
set_option maxRecDepth 20000

def rowE (J : Nat → Nat → Bool) (j : Nat) (e : Nat) : Nat → Nat
  | 0 => e
  | i + 1 => if J i j = true then rowE J j e i ||| 2 ^ bitI i j else rowE J j e i
def madeE (J : Nat → Nat → Bool) : Nat → Nat
  | 0 => 0
  | j + 1 => rowE J j (madeE J j) j
theorem bitI_lt {i j : Nat} (h : i < j) (hj : j < 5) : bitI i j < 10 := by
  unfold bitI
  rw [if_pos h]
  have h5 : j = 1 ∨ j = 2 ∨ j = 3 ∨ j = 4 := by omega
  rcases h5 with rfl | rfl | rfl | rfl <;> omega
theorem rowE_lt {J : Nat → Nat → Bool} {j e : Nat} (he : e < 1024) (hj : j < 5) : ∀ {i : Nat}, i ≤ j → rowE J j e i < 1024
  | 0, _ => he
  | i + 1, hi => by
    have h1 := rowE_lt (J := J) he hj (show i ≤ j by omega)
    rw [rowE]
    split
    · exact Nat.or_lt_two_pow (n := 10) h1 (Nat.pow_lt_pow_right (by omega) (bitI_lt (by omega) hj))
    · exact h1
theorem madeE_lt {J : Nat → Nat → Bool} : ∀ {n : Nat}, n ≤ 5 → madeE J n < 1024
  | 0, _ => by simp [madeE]
  | j + 1, hj => rowE_lt (madeE_lt (by omega)) (by omega) (Nat.le_refl _)

theorem orBit0 {a c : Nat} (ha : a < 1024) (hc : c < 1024) : IntKind.u32.wrap ((a % 2 ^ IntKind.u32.bits ||| ((c : Int) % 2 ^ IntKind.u32.bits).toNat : Nat)) = ((a ||| c : Nat) : Int) := by
  have e1 : a % 2 ^ IntKind.u32.bits = a := Nat.mod_eq_of_lt (by simp only [IntKind.bits]; omega)
  have e2 : ((c : Int) % 2 ^ IntKind.u32.bits).toNat = c := by
    rw [Int.emod_eq_of_lt (by omega) (by simp only [IntKind.bits]; omega)]
    simp
  rw [e1, e2]
  have := Nat.or_lt_two_pow (n := 10) ha hc
  exact wrap32 (by omega) (by omega)
theorem orBit {a b : Nat} (ha : a < 1024) (hb : b < 10) : IntKind.u32.wrap ((a % 2 ^ IntKind.u32.bits ||| ((2 : Int) ^ b % 2 ^ IntKind.u32.bits).toNat : Nat)) = ((a ||| 2 ^ b : Nat) : Int) := by
  have e : (2 : Int) ^ b = ((2 ^ b : Nat) : Int) := by simp
  rw [e]
  exact orBit0 ha (Nat.pow_lt_pow_right (n := 10) (by omega) hb)
theorem injB_id (n : Nat) : injB (fun b => b) n = true := by
  simp only [injB, List.all_eq_true]
  intro i _ j _
  by_cases h : i = j <;> simp [h]
theorem T_made {g : FuncId} {caps : List AV} {os : List (Option (List AV))} (J : Nat → Nat → Bool) (n : Nat) (hn : n ≤ 5) (ho : ClosedH os) (hc : ltL os.length caps = true)
    (hf : ∀ i j, i < j → j < n → T PP g ([.int .i64 i, .int .i64 j] ++ caps) ⟨os⟩ fun r A' => r = .bool (J i j) ∧ A' = ⟨os⟩) :
    T PP 217 [.int .i64 n, .fn g caps] ⟨os⟩ fun r A' => r = .agg [.int .i64 n, .int .u32 (madeE J n)] ∧ A' = ⟨os⟩ := by
  refine H_code (Quiet.q1 q_impl_bit Quiet.nil) hmix k_impl_made rfl (fun b => b) (Nat.le_refl _) (fun _ _ => rfl) (injB_id _) (by rfl) ?_
  show wpc os.length PP _ c_impl_made (initSt [.int .i64 n, .fn g caps] ⟨os⟩) _
  have k1 : ¬ (os.length + 1 < os.length) := by omega
  simp -dsimp -implicitDefEqProofs [c_impl_made, r_impl_made, hset_pre0, hset_pre, k1]
  refine wpLoop_st (fun (j : Nat) => ⟨tl [(0, .int .i64 n), (1, .fn g caps), (4, .ptr os.length 0), (5, .ptr (os.length + 1) 0), (10, .int .i64 n), (11, .int .i64 j)], ⟨os ++ [some [.int .i64 0, .int .u32 0], some [.int .i64 n, .int .u32 (madeE J j)]]⟩⟩) (fun j => j ≤ n) (fun j => n - j) 0 (by omega) (Sub.pre ho (by simp [hsub, k1, madeE]) (by simp [ltL_mono (Nat.le_add_right os.length 2) _ hc])) ?_
  intro j hj
  simp -dsimp -implicitDefEqProofs [hset_pre0, hset_pre, k1]
  refine brW_of (fun h => ?_) (fun h => ?_) <;> simp only [decide_eq_true_eq, decide_eq_false_iff_not] at h
  · have hw := wrapNat (i := j) (by omega)
    simp -dsimp -implicitDefEqProofs [k1, hw]
    refine wpLoop_st (fun (i : Nat) => ⟨tl [(0, .int .i64 n), (1, .fn g caps), (4, .ptr os.length 0), (5, .ptr (os.length + 1) 0), (10, .int .i64 n), (11, .int .i64 j), (6, .int .i64 j), (14, .int .i64 j), (15, .int .i64 i)], ⟨os ++ [some [.int .i64 0, .int .u32 0], some [.int .i64 n, .int .u32 (rowE J j (madeE J j) i)]]⟩⟩) (fun i => i ≤ j) (fun i => j - i) 0 (by omega) (Sub.pre ho (by simp [hsub, k1, rowE]) (by simp [ltL_mono (Nat.le_add_right os.length 2) _ hc])) ?_
    intro i hi
    simp -dsimp -implicitDefEqProofs [k1, hw]
    refine brW_of (fun h => ?_) (fun h => ?_) <;> simp only [decide_eq_true_eq, decide_eq_false_iff_not] at h
    · have hw := wrapNat (i := i) (by omega)
      simp -dsimp -implicitDefEqProofs [k1, hw]
      refine ((hf i j h (by omega)).sees ho (by simpa using hc) rfl _).mono ?_
      rintro r A' ⟨rfl, rfl⟩
      have hb := sp_bit_eq i j (by omega)
      cases hJ : J i j with
      | false =>
        simp -dsimp -implicitDefEqProofs [k1, hw]
        exact .mk (i + 1) (by omega) (by omega) (Sub.pre ho (by simp [hsub, k1, rowE, hJ]) (by simp [hw, ltL_mono (Nat.le_add_right os.length 2) _ hc]))
      | true =>
        simp -dsimp -implicitDefEqProofs [k1, hw, hb, hset_pre0, hset_pre]
        have he := orBit (rowE_lt (J := J) (madeE_lt (J := J) (n := j) (by omega)) (by omega) hi) (bitI_lt h (by omega))
        exact .mk (i + 1) (by omega) (by omega) (Sub.pre ho (by simp [hsub, k1, rowE, hJ, he]) (by simp [hw, ltL_mono (Nat.le_add_right os.length 2) _ hc]))
    · have : i = j := by omega
      subst this
      simp -dsimp -implicitDefEqProofs [k1, hw]
      exact .mk (i + 1) (by omega) (by omega) (Sub.pre ho (by simp [hsub, k1, madeE]) (by simp [hw, ltL_mono (Nat.le_add_right os.length 2) _ hc]))
  · have : j = n := by omega
    subst this
    simp -dsimp -implicitDefEqProofs [hset_pre0, hset_pre, k1, hsub_pre ho]

def yes (i j : Nat) : Bool := true
theorem ClosedH.nil : ClosedH [] := fun b cs h => by cases h
end Go.Proofs.YtlglgcmpeabdnaaGreatDoorAi
end

section
/- Edges of graphs as bits. -/
namespace Go.Proofs.YtlglgcmpeabdnaaGreatDoorAi
open Go Go.RowKit
set_option linter.unusedVariables false
set_option linter.unusedSimpArgs false

theorem bitI_c {i j : Nat} : bitI i j = bitI j i := by
  unfold bitI
  by_cases h : i < j
  · rw [if_pos h, if_neg (by omega)]
  · by_cases h2 : j < i
    · rw [if_neg h, if_pos h2]
    · have : i = j := by omega
      subst this; simp
end Go.Proofs.YtlglgcmpeabdnaaGreatDoorAi
end

section
/- Contracts of functions that take functions. -/
namespace Go.Proofs.YtlglgcmpeabdnaaGreatDoorAi
open Go Go.RowKit
set_option linter.unusedVariables false
set_option linter.unusedSimpArgs false
set_option maxRecDepth 20000
variable {P : Program}

theorem T.of_closed {f : FuncId} {args : List AV} {A : AHeap} {R : AV → AHeap → Prop} (he : Enters P f) (h : ClosedH A.l → ltL A.n args = true → T P f args A R) : T P f args A R := by
  refine ⟨he, fun B w0 σ w vs hG hb hs ha => (h (fun b cs e => ?_) ?_).2 B w0 σ w vs hG hb hs ha⟩
  · obtain ⟨c, cur, t, k1, k2, k3, k4, k5, k6⟩ := hs.own b cs e
    refine ltL_of fun x hx => ?_
    obtain ⟨j, hj⟩ := List.mem_iff_getElem?.1 hx
    obtain ⟨v, _, e2, _⟩ := k6 j x hj
    exact hs.lt_of x v e2
  · refine ltL_of fun x hx => ?_
    obtain ⟨j, hj⟩ := List.mem_iff_getElem?.1 hx
    have hlt : j < vs.length := by rw [← ha.1]; exact (List.getElem?_eq_some_iff.1 hj).1
    exact hs.lt_of x _ (ha.2 j x _ hj (List.getElem?_eq_getElem hlt))

theorem rowE_congr {J J' : Nat → Nat → Bool} {j e : Nat} : ∀ {i : Nat}, (∀ a, a < i → J a j = J' a j) → rowE J j e i = rowE J' j e i
  | 0, _ => rfl
  | i + 1, h => by rw [rowE, rowE, h i (by omega), rowE_congr (fun a ha => h a (by omega))]
theorem madeE_congr {J J' : Nat → Nat → Bool} : ∀ {n : Nat}, (∀ i j, i < j → j < n → J i j = J' i j) → madeE J n = madeE J' n
  | 0, _ => rfl
  | n + 1, h => by rw [madeE, madeE, madeE_congr (fun i j hi hj => h i j hi (by omega)), rowE_congr (fun a ha => h a n ha (by omega))]

def yesOf (sp : List AV → AHeap → Option (AV × AHeap)) (args : List AV) (A : AHeap) : Bool := match sp args A with
  | some (.bool b, _) => b
  | _ => false
open Classical in
noncomputable def spMade (g : FuncId) (sp : List AV → AHeap → Option (AV × AHeap)) : List AV → AHeap → Option (AV × AHeap)
  | [.int .i64 n, .fn g' caps], A => if g' = g ∧ 0 ≤ n ∧ n ≤ 5 ∧ ∀ i j : Nat, i < j → j < n.toNat → sp ([.int .i64 i, .int .i64 j] ++ caps) A = some (.bool (yesOf sp ([.int .i64 i, .int .i64 j] ++ caps) A), A)
      then some (.agg [.int .i64 n, .int .u32 (madeE (fun i j => yesOf sp ([.int .i64 i, .int .i64 j] ++ caps) A) n.toNat)], A) else none
  | _, _ => none
theorem spMade_eq {g : FuncId} {sp : List AV → AHeap → Option (AV × AHeap)} (J : Nat → Nat → Bool) {n : Int} {caps : List AV} {A : AHeap} (hn : 0 ≤ n ∧ n ≤ 5) (h : ∀ i j : Nat, i < j → j < n.toNat → sp ([.int .i64 i, .int .i64 j] ++ caps) A = some (.bool (J i j), A)) :
    spMade g sp [.int .i64 n, .fn g caps] A = some (.agg [.int .i64 n, .int .u32 (madeE J n.toNat)], A) := by
  have hy : ∀ i j : Nat, i < j → j < n.toNat → yesOf sp ([.int .i64 i, .int .i64 j] ++ caps) A = J i j := by
    intro i j hi hj
    unfold yesOf
    rw [h i j hi hj]
  unfold spMade
  dsimp only
  rw [if_pos ⟨rfl, hn.1, hn.2, fun i j hi hj => by rw [hy i j hi hj]; exact h i j hi hj⟩, madeE_congr hy]
theorem QE_made {g : FuncId} {sp : List AV → AHeap → Option (AV × AHeap)} (hg : QE PP g sp) : QE PP 217 (spMade g sp) := by
  intro args A r A1 e
  unfold spMade at e
  split at e
  · rename_i n g' caps
    split at e
    · rename_i hc
      obtain ⟨rfl, h0, h5, hJ⟩ := hc
      injection e with e
      injection e with e1 e2
      subst e1; subst e2
      obtain ⟨m, rfl⟩ := Int.eq_ofNat_of_zero_le h0
      refine T.of_closed (T_made (g := g') (caps := []) (os := []) yes 0 (by omega) ClosedH.nil rfl (fun i j _ hj => absurd hj (Nat.not_lt_zero _))).1 fun ho hl => ?_
      exact T_made (os := A.l) _ m (by omega) ho (by simpa [ltL, AV.lt] using hl) fun i j hi hj => hg _ _ _ _ (hJ i j hi hj)
    · cases e
  · cases e
end Go.Proofs.YtlglgcmpeabdnaaGreatDoorAi
end

section
/- Contracts: the graph with all edges. -/
namespace Go.Proofs.YtlglgcmpeabdnaaGreatDoorAi
open Go Go.RowKit
set_option linter.unusedVariables false
set_option linter.unusedSimpArgs false
set_option maxRecDepth 20000

def compR (n : Int) : AV := if 0 ≤ n ∧ n ≤ 5 then .tup [.agg [.int .i64 n, .int .u32 (2 ^ (n.toNat * (n.toNat - 1) / 2) - 1 : Nat)], .int .i64 0] else .tup [.agg [.int .i64 0, .int .u32 0], .int .i64 2]
@[simp] theorem compR_lt (n : Int) (k : Nat) : (compR n).lt k = true := by unfold compR; split <;> rfl
noncomputable def sp_CompleteGraph : List AV → Option (AV) := pf (ι := (Int)) (α := AV) (fun n => True) (fun n => [.int .i64 n]) (fun n => compR n)
theorem sp_CompleteGraph_eq (n : Int) : sp_CompleteGraph [.int .i64 n] = some (compR n) := by
  unfold sp_CompleteGraph
  exact pf_eq (ι := (Int)) (α := AV) n trivial (by rintro n' _ e; simp_all [Int.natCast_inj])
attribute [simp] sp_CompleteGraph_eq
end Go.Proofs.YtlglgcmpeabdnaaGreatDoorAi
end

section
/- MADE BY PROGRAM (wip/tools/gen.py): the abstract code of functions. -/
namespace Go.Proofs.YtlglgcmpeabdnaaGreatDoorAi
open Go AC AOp Opd
set_option linter.unusedVariables false
set_option maxRecDepth 100000
def c_impl_Graph_has : AC := seq (reg [⟨(some 3), box 2 (t 0), none⟩, ⟨(some 6), mv (c (.bool false)), none⟩]) (seq (reg [⟨(some 7), fad (t 3) 1, none⟩, ⟨(some 8), ld (t 7) 1 false, none⟩, ⟨(some 9), mv (t 1), none⟩, ⟨(some 10), mv (t 2), none⟩, ⟨(some 11), callq (c (.fn 83 [])) [t 9, t 10], none⟩, ⟨(some 12), bin .and (t 8) (t 11), none⟩, ⟨(some 13), bin .neq (t 12) (c (.int .u32 0)), none⟩, ⟨(some 6), mv (t 13), none⟩]) (ret))
def r_impl_Graph_has : List ARes := [.tmp 6]
theorem k_impl_Graph_has : acLin Go.Proofs.Tryz.prog 161 3 (inQ [83] []) [⟨false, none, [], [], none⟩, ⟨false, some [0, 1, 2, 3, 4, 5, 6, 7], [], [], none⟩] = some (c_impl_Graph_has, r_impl_Graph_has) := by kernel_rfl
end Go.Proofs.YtlglgcmpeabdnaaGreatDoorAi
end

section
/- Contracts: edges of graphs; opposite graphs; copies of lists. -/
namespace Go.Proofs.YtlglgcmpeabdnaaGreatDoorAi
open Go Go.RowKit
set_option linter.unusedVariables false
set_option linter.unusedSimpArgs false
set_option maxRecDepth 20000

theorem andBit0 {a c : Nat} (ha : a < 4294967296) (hc : c < 1024) : IntKind.u32.wrap ((a % 2 ^ IntKind.u32.bits &&& ((c : Int) % 2 ^ IntKind.u32.bits).toNat : Nat)) = ((a &&& c : Nat) : Int) := by
  have e1 : a % 2 ^ IntKind.u32.bits = a := Nat.mod_eq_of_lt (by simp only [IntKind.bits]; omega)
  have e2 : ((c : Int) % 2 ^ IntKind.u32.bits).toNat = c := by
    rw [Int.emod_eq_of_lt (by omega) (by simp only [IntKind.bits]; omega)]
    simp
  rw [e1, e2]
  have : a &&& c ≤ c := Nat.and_le_right
  exact wrap32 (by omega) (by omega)
theorem and_pow (a b : Nat) : a &&& 2 ^ b = if a.testBit b = true then 2 ^ b else 0 := by
  apply Nat.eq_of_testBit_eq
  intro k
  rw [Nat.testBit_and, Nat.testBit_two_pow]
  by_cases h : b = k
  · subst h
    cases a.testBit b <;> simp
  · cases a.testBit b <;> simp [h, Nat.testBit_two_pow]
theorem andBit {a b : Nat} (ha : a < 4294967296) (hb : b < 10) : IntKind.u32.wrap ((a % 2 ^ IntKind.u32.bits &&& ((2 : Int) ^ b % 2 ^ IntKind.u32.bits).toNat : Nat)) = if a.testBit b = true then ((2 ^ b : Nat) : Int) else 0 := by
  have e : (2 : Int) ^ b = ((2 ^ b : Nat) : Int) := by simp
  rw [e, andBit0 ha (Nat.pow_lt_pow_right (n := 10) (by omega) hb), and_pow]
  cases a.testBit b <;> simp
theorem bitI_10 {i j : Nat} (hi : i < 5) (hj : j < 5) (h : i ≠ j) : bitI i j < 10 := by
  rcases Nat.lt_or_gt_of_ne h with h | h
  · exact bitI_lt h hj
  · rw [bitI_c]; exact bitI_lt h hi

def hasB (e i j : Int) : Bool := e.toNat.testBit (bitI i.toNat j.toNat)
def vx (i j : Int) : Prop := (0 ≤ i ∧ i < 5) ∧ (0 ≤ j ∧ j < 5) ∧ i ≠ j
noncomputable def sp_has : List AV → Option (AV) := pf (ι := (Int) × (Int) × (Int) × (Int)) (α := AV) (fun ⟨n, e, i, j⟩ => (0 ≤ e ∧ e ≤ 4294967295) ∧ vx i j) (fun ⟨n, e, i, j⟩ => [.agg [.int .i64 n, .int .u32 e], .int .i64 i, .int .i64 j]) (fun ⟨n, e, i, j⟩ => .bool (hasB e i j))
theorem sp_has_eq (n e i j : Int) (h : (0 ≤ e ∧ e ≤ 4294967295) ∧ vx i j) : sp_has [.agg [.int .i64 n, .int .u32 e], .int .i64 i, .int .i64 j] = some (.bool (hasB e i j)) := by
  unfold sp_has
  exact pf_eq (ι := (Int) × (Int) × (Int) × (Int)) (α := AV) (n, e, i, j) h (by rintro ⟨n', e', i', j'⟩ _ e; simp_all [Int.natCast_inj])
theorem q_impl_Graph_has : QP PP 161 sp_has := by
  refine QP_pf (fun i h => ?_) fun i h => ?_
  · obtain ⟨n, e, i, j⟩ := i; exact ⟨by first | rfl | simp, by first | rfl | simp⟩
  obtain ⟨n, e, i, j⟩ := i
  replace h : (0 ≤ e ∧ e ≤ 4294967295) ∧ vx i j := h
  refine P_code (Quiet.q1 q_impl_bit Quiet.nil) hmix k_impl_Graph_has rfl ?_ ?_
  · first | rfl | simp
  show wpc 0 PP _ c_impl_Graph_has (initSt [.agg [.int .i64 n, .int .u32 e], .int .i64 i, .int .i64 j] .nil) (endP r_impl_Graph_has (.bool (hasB e i j)))
  obtain ⟨⟨e0, e1⟩, ⟨i0, i1⟩, ⟨j0, j1⟩, hij⟩ := h
  obtain ⟨m, rfl⟩ := Int.eq_ofNat_of_zero_le e0
  have hb := andBit (a := m) (b := bitI i.toNat j.toNat) (by omega) (bitI_10 (by omega) (by omega) (by omega))
  simp -dsimp -implicitDefEqProofs [c_impl_Graph_has, r_impl_Graph_has, sp_bit_eq i j (by omega), hb, hasB]
  have hp : (2 : Int) ^ bitI i.toNat j.toNat ≠ 0 := Int.pow_ne_zero (by omega)
  cases m.testBit (bitI i.toNat j.toNat) <;> simp [hp]

def notE (e : Int) (n : Int) : Nat := madeE (fun i j => !hasB e i j) n.toNat
end Go.Proofs.YtlglgcmpeabdnaaGreatDoorAi
end

section
/- MADE BY PROGRAM (wip/tools/gen.py): the abstract code of functions. -/
namespace Go.Proofs.YtlglgcmpeabdnaaGreatDoorAi
open Go AC AOp Opd
set_option linter.unusedVariables false
set_option maxRecDepth 100000
def c_spec_l01Bit : AC := seq (reg [⟨(some 4), mv (c (.int .u32 0)), none⟩]) (seq (seq (reg [⟨(some 5), mv (t 0), none⟩, ⟨(some 6), mv (t 1), none⟩, ⟨(some 7), bin .gtr (t 5) (t 6), none⟩]) (cond (t 7) (seq (reg [⟨(some 8), mv (t 1), none⟩, ⟨(some 9), mv (t 0), none⟩, ⟨(some 10), callq (c (.fn 67 [])) [t 8, t 9], none⟩, ⟨(some 4), mv (t 10), none⟩]) (ret)) (skip))) (seq (reg [⟨(some 11), mv (t 1), none⟩, ⟨(some 12), callq (c (.fn 119 [])) [t 11], none⟩, ⟨(some 13), mv (t 0), none⟩, ⟨(some 14), bin .add (t 12) (t 13), none⟩, ⟨(some 15), conv .u64 (t 14), none⟩, ⟨(some 16), bin .shl (c (.int .u32 1)) (t 15), none⟩, ⟨(some 4), mv (t 16), none⟩]) (ret)))
def r_spec_l01Bit : List ARes := [.tmp 4]
theorem k_spec_l01Bit : acLin Go.Proofs.Tryz.prog 67 2 (inQ [67, 119] []) [] = some (c_spec_l01Bit, r_spec_l01Bit) := by kernel_rfl
def c_spec_l01Joined : AC := seq (reg [⟨(some 3), box 2 (t 0), none⟩, ⟨(some 6), mv (c (.bool false)), none⟩]) (seq (reg [⟨(some 7), mv (t 1), none⟩, ⟨(some 8), mv (t 2), none⟩, ⟨(some 9), bin .neq (t 7) (t 8), none⟩, ⟨(some 10), mv (t 9), none⟩, ⟨(some 11), fad (t 3) 1, some (10, true)⟩, ⟨(some 12), ld (t 11) 1 false, some (10, true)⟩, ⟨(some 13), mv (t 1), some (10, true)⟩, ⟨(some 14), mv (t 2), some (10, true)⟩, ⟨(some 15), callq (c (.fn 67 [])) [t 13, t 14], some (10, true)⟩, ⟨(some 16), bin .and (t 12) (t 15), some (10, true)⟩, ⟨(some 17), bin .neq (t 16) (c (.int .u32 0)), some (10, true)⟩, ⟨(some 18), pick (t 10) (t 17) (c (.bool false)), none⟩, ⟨(some 6), mv (t 18), none⟩]) (ret))
def r_spec_l01Joined : List ARes := [.tmp 6]
theorem k_spec_l01Joined : acLin Go.Proofs.Tryz.prog 125 3 (inQ [67] []) [⟨false, none, [], [], none⟩, ⟨false, some [0, 1, 2, 3, 4, 5, 6, 7, 8, 9, 10, 11, 12], [], [], none⟩] = some (c_spec_l01Joined, r_spec_l01Joined) := by kernel_rfl
end Go.Proofs.YtlglgcmpeabdnaaGreatDoorAi
end

section
/- Contracts: joined parts of patterns. (Under way.) -/
namespace Go.Proofs.YtlglgcmpeabdnaaGreatDoorAi
open Go Go.RowKit
set_option linter.unusedVariables false
set_option linter.unusedSimpArgs false
set_option maxRecDepth 20000

noncomputable def sp_sizeOk : List AV → Option (AV) := pf (ι := (Int)) (α := AV) (fun n => True) (fun n => [.int .i64 n]) (fun n => .bool (decide (0 ≤ n) && decide (n ≤ 5)))
theorem sp_sizeOk_eq (n : Int) : sp_sizeOk [.int .i64 n] = some (.bool (decide (0 ≤ n) && decide (n ≤ 5))) := by
  unfold sp_sizeOk
  exact pf_eq (ι := (Int)) (α := AV) n trivial (by rintro n' _ e; simp_all [Int.natCast_inj])
attribute [simp] sp_sizeOk_eq
def loopB (l i : Int) : Bool := l.toNat.testBit i.toNat
def joinB (e l i j : Int) : Bool := if i = j then loopB l i else hasB e i j
end Go.Proofs.YtlglgcmpeabdnaaGreatDoorAi
end

section
/- Contracts: joined vertices, as the reference has them. (Under way.) -/
namespace Go.Proofs.YtlglgcmpeabdnaaGreatDoorAi
open Go Go.RowKit
set_option linter.unusedVariables false
set_option linter.unusedSimpArgs false
set_option maxRecDepth 20000

/-- A contract that says nothing: for a call that does not come. -/
theorem QP.none (P : Program) (f : FuncId) : QP P f (fun _ => Option.none) := fun _ _ h => by cases h
noncomputable def sp_bitLe : List AV → Option (AV) := pf (ι := (Int) × (Int)) (α := AV) (fun ⟨i, j⟩ => (0 ≤ i ∧ i ≤ 5) ∧ (0 ≤ j ∧ j ≤ 5) ∧ i ≤ j) (fun ⟨i, j⟩ => [.int .i64 i, .int .i64 j]) (fun ⟨i, j⟩ => .int .u32 (2 ^ bitI i.toNat j.toNat))
theorem sp_bitLe_eq (i j : Int) (h : (0 ≤ i ∧ i ≤ 5) ∧ (0 ≤ j ∧ j ≤ 5) ∧ i ≤ j) : sp_bitLe [.int .i64 i, .int .i64 j] = some (.int .u32 (2 ^ bitI i.toNat j.toNat)) := by
  unfold sp_bitLe
  exact pf_eq (ι := (Int) × (Int)) (α := AV) (i, j) h (by rintro ⟨i', j'⟩ _ e; simp_all [Int.natCast_inj])
theorem q_bitLe : QP PP 67 sp_bitLe := by
  refine QP_pf (fun i h => ?_) fun i h => ?_
  · obtain ⟨i, j⟩ := i; exact ⟨rfl, rfl⟩
  obtain ⟨i, j⟩ := i
  replace h : (0 ≤ i ∧ i ≤ 5) ∧ (0 ≤ j ∧ j ≤ 5) ∧ i ≤ j := h
  refine P_code (Quiet.q1 (QP.none PP 67) (Quiet.q1 q_spec_l01Bits Quiet.nil)) hmix k_spec_l01Bit rfl rfl ?_
  obtain ⟨⟨i0, i1⟩, ⟨j0, j1⟩, hij⟩ := h
  have hj : j = 0 ∨ j = 1 ∨ j = 2 ∨ j = 3 ∨ j = 4 ∨ j = 5 := by omega
  have hi : i = 0 ∨ i = 1 ∨ i = 2 ∨ i = 3 ∨ i = 4 ∨ i = 5 := by omega
  rcases hi with rfl | rfl | rfl | rfl | rfl | rfl <;> rcases hj with rfl | rfl | rfl | rfl | rfl | rfl <;> first | (exfalso; omega) | simp -dsimp -implicitDefEqProofs [c_spec_l01Bit, r_spec_l01Bit, sp_pairs_eq, pI0, pI1, pI2, pI3, pI4, pI5, bitI, IntKind.wrap, IntKind.bits, IntKind.signed]
theorem q_spec_l01Bit : QP PP 67 sp_bit := by
  refine QP_pf (fun i h => ?_) fun i h => ?_
  · obtain ⟨i, j⟩ := i; exact ⟨rfl, rfl⟩
  obtain ⟨i, j⟩ := i
  replace h : (0 ≤ i ∧ i ≤ 5) ∧ (0 ≤ j ∧ j ≤ 5) := h
  by_cases hij : i ≤ j
  · exact (q_bitLe _ _ (sp_bitLe_eq i j ⟨h.1, h.2, hij⟩)).2
  · refine P_code (Quiet.q1 q_bitLe (Quiet.q1 q_spec_l01Bits Quiet.nil)) hmix k_spec_l01Bit rfl rfl ?_
    have hlt : j < i := by omega
    simp -dsimp -implicitDefEqProofs [c_spec_l01Bit, r_spec_l01Bit, hlt, sp_bitLe_eq j i ⟨h.2, h.1, by omega⟩, bitI_c (i := j.toNat) (j := i.toNat)]
def joinedB (e i j : Int) : Bool := decide (i ≠ j) && hasB e i j
noncomputable def sp_l01Joined : List AV → Option (AV) := pf (ι := (Int) × (Int) × (Int) × (Int)) (α := AV) (fun ⟨n, e, i, j⟩ => (0 ≤ e ∧ e ≤ 4294967295) ∧ (0 ≤ i ∧ i < 5) ∧ (0 ≤ j ∧ j < 5)) (fun ⟨n, e, i, j⟩ => [.agg [.int .i64 n, .int .u32 e], .int .i64 i, .int .i64 j]) (fun ⟨n, e, i, j⟩ => .bool (joinedB e i j))
theorem sp_l01Joined_eq (n e i j : Int) (h : (0 ≤ e ∧ e ≤ 4294967295) ∧ (0 ≤ i ∧ i < 5) ∧ (0 ≤ j ∧ j < 5)) : sp_l01Joined [.agg [.int .i64 n, .int .u32 e], .int .i64 i, .int .i64 j] = some (.bool (joinedB e i j)) := by
  unfold sp_l01Joined
  exact pf_eq (ι := (Int) × (Int) × (Int) × (Int)) (α := AV) (n, e, i, j) h (by rintro ⟨n', e', i', j'⟩ _ e; simp_all [Int.natCast_inj])
theorem q_spec_l01Joined : QP PP 125 sp_l01Joined := by
  refine QP_pf (fun i h => ?_) fun i h => ?_
  · obtain ⟨n, e, i, j⟩ := i; exact ⟨by first | rfl | simp, by first | rfl | simp⟩
  obtain ⟨n, e, i, j⟩ := i
  replace h : (0 ≤ e ∧ e ≤ 4294967295) ∧ (0 ≤ i ∧ i < 5) ∧ (0 ≤ j ∧ j < 5) := h
  refine P_code (Quiet.q1 q_spec_l01Bit Quiet.nil) hmix k_spec_l01Joined rfl ?_ ?_
  · first | rfl | simp
  show wpc 0 PP _ c_spec_l01Joined (initSt [.agg [.int .i64 n, .int .u32 e], .int .i64 i, .int .i64 j] .nil) (endP r_spec_l01Joined (.bool (joinedB e i j)))
  obtain ⟨⟨e0, e1⟩, ⟨i0, i1⟩, ⟨j0, j1⟩⟩ := h
  by_cases hij : i = j
  · subst hij
    simp -dsimp -implicitDefEqProofs [c_spec_l01Joined, r_spec_l01Joined, joinedB]
  · obtain ⟨m, rfl⟩ := Int.eq_ofNat_of_zero_le e0
    have hb := andBit (a := m) (b := bitI i.toNat j.toNat) (by omega) (bitI_10 (by omega) (by omega) (by omega))
    have hn : (i != j) = true := by simpa using hij
    simp -dsimp -implicitDefEqProofs [c_spec_l01Joined, r_spec_l01Joined, hn, sp_bit_eq i j (by omega), hb, joinedB, hasB, hij]
    have hp : (2 : Int) ^ bitI i.toNat j.toNat ≠ 0 := Int.pow_ne_zero (by omega)
    cases m.testBit (bitI i.toNat j.toNat) <;> simp [hp]
end Go.Proofs.YtlglgcmpeabdnaaGreatDoorAi
end

section
/- Contracts: opposite patterns. -/
namespace Go.Proofs.YtlglgcmpeabdnaaGreatDoorAi
open Go Go.RowKit
set_option linter.unusedVariables false
set_option linter.unusedSimpArgs false
set_option maxRecDepth 20000

def oppG (n e : Int) : AV := if graphOk n e = true then .tup [.agg [.int .i64 n, .int .u32 (notE e n)], .int .i64 0] else .tup [.agg [.int .i64 0, .int .u32 0], .int .i64 1]
@[simp] theorem oppG_lt (n e : Int) (k : Nat) : (oppG n e).lt k = true := by unfold oppG; split <;> rfl
end Go.Proofs.YtlglgcmpeabdnaaGreatDoorAi
end

section
/- Contracts: marks in patterns. -/
namespace Go.Proofs.YtlglgcmpeabdnaaGreatDoorAi
open Go Go.RowKit
set_option linter.unusedVariables false
set_option linter.unusedSimpArgs false
set_option maxRecDepth 20000

noncomputable def sp_markFr0 : List AV → Option (AV) := pf (ι := (Int)) (α := AV) (fun k => True) (fun k => [.sl [] false, .int .i64 k]) (fun k => .int .i64 k)
theorem sp_markFr0_eq (k : Int) : sp_markFr0 [.sl [] false, .int .i64 k] = some (.int .i64 k) := by
  unfold sp_markFr0
  exact pf_eq (ι := (Int)) (α := AV) k trivial (by rintro k' _ e; simp_all [Int.natCast_inj])
attribute [simp] sp_markFr0_eq
noncomputable def sp_markPat0 : List AV → Option (AV) := pf (ι := (Int) × (Int) × (Int) × (Int)) (α := AV) (fun ⟨a, b, c, k⟩ => True) (fun ⟨a, b, c, k⟩ => [.agg [.int .i64 a, .int .u32 b, .int .u32 c, .sl [] false], .int .i64 k]) (fun ⟨a, b, c, k⟩ => .int .i64 k)
theorem sp_markPat0_eq (a b c k : Int) : sp_markPat0 [.agg [.int .i64 a, .int .u32 b, .int .u32 c, .sl [] false], .int .i64 k] = some (.int .i64 k) := by
  unfold sp_markPat0
  exact pf_eq (ι := (Int) × (Int) × (Int) × (Int)) (α := AV) (a, b, c, k) trivial (by rintro ⟨a', b', c', k'⟩ _ e; simp_all [Int.natCast_inj])
attribute [simp] sp_markPat0_eq
end Go.Proofs.YtlglgcmpeabdnaaGreatDoorAi
end

section
/- Contracts: the pattern of opposite graphs. -/
namespace Go.Proofs.YtlglgcmpeabdnaaGreatDoorAi
open Go Go.RowKit
set_option linter.unusedVariables false
set_option linter.unusedSimpArgs false
set_option maxRecDepth 20000

end Go.Proofs.YtlglgcmpeabdnaaGreatDoorAi
end

section
/- Contracts: lists of numbers; graphs with so many vertices in each part. -/
namespace Go.Proofs.YtlglgcmpeabdnaaGreatDoorAi
open Go Go.RowKit
set_option linter.unusedVariables false
set_option linter.unusedSimpArgs false
set_option maxRecDepth 20000

/-! ### searching in lists -/
def idxF {α : Type} (f : α → Bool) : List α → Nat → Int
  | [], _ => -1
  | x :: r, i => if f x = true then i else idxF f r (i + 1)
theorem idxF_ge {α : Type} (f : α → Bool) : ∀ (l : List α) (i : Nat), decide (0 ≤ idxF f l i) = l.any f
  | [], _ => rfl
  | x :: r, i => by
    rw [idxF, List.any_cons]
    cases hx : f x with
    | true => simp
    | false => simp only [Bool.false_eq_true, if_false, Bool.false_or]; exact idxF_ge f r (i + 1)
theorem hsub_all {os : List (Option (List AV))} (ho : ClosedH os) : hsub (fun b => b) os.length ⟨os⟩ 0 os := by
  have := hsub_pre (r := []) (m := os.length) ho (Nat.le_refl _)
  simpa using this
theorem Sub.pre0 {os : List (Option (List AV))} {t : Nat → AV} {l : List (Nat × AV)} (ho : ClosedH os) (ht : ∀ p ∈ l, p.2.lt os.length = true ∧ t p.1 = p.2) : Sub os.length ⟨t, ⟨os⟩⟩ ⟨tl l, ⟨os⟩⟩ := Sub.keep (Nat.le_refl _) (hsub_all ho) ht
end Go.Proofs.YtlglgcmpeabdnaaGreatDoorAi
end

section
/- Contracts: graphs with so many vertices in each part. -/
namespace Go.Proofs.YtlglgcmpeabdnaaGreatDoorAi
open Go Go.RowKit
set_option linter.unusedVariables false
set_option linter.unusedSimpArgs false
set_option maxRecDepth 20000

theorem flat_in (L : List Int) : flatA (mapA inA L) = L.map inA := by rw [List.map_eq_flatMap]; simp [flatA, mapA, List.flatMap_map]
@[simp] theorem flat_in_get (L : List Int) (i : Nat) (h : i < (flatA (mapA inA L)).length) : (flatA (mapA inA L))[i] = inA (L[i]'(by simpa using h)) := by simp [flat_in]
@[simp] theorem flat_in_inj {L K : List Int} : flatA (mapA inA L) = flatA (mapA inA K) ↔ L = K := by
  constructor
  · intro h
    rw [flat_in, flat_in] at h
    exact mapA_inj inA_inj h
  · intro h; rw [h]
def sizeI (n : Int) : Bool := decide (0 ≤ n) && decide (n ≤ 5)
noncomputable def sp_badSize : List AV → Option (AV) := pf (ι := (Int)) (α := AV) (fun n => True) (fun n => [.int .i64 n]) (fun n => .bool (!sizeI n))
theorem sp_badSize_eq (n : Int) : sp_badSize [.int .i64 n] = some (.bool (!sizeI n)) := by
  unfold sp_badSize
  exact pf_eq (ι := (Int)) (α := AV) n trivial (by rintro n' _ e; simp_all [Int.natCast_inj])
attribute [simp] sp_badSize_eq
def atI (L : List Int) (i : Nat) : Int := L.getD i 0
def allPart (L : List Int) : Prop := ∀ x ∈ L, 0 ≤ x ∧ x < 5
theorem allPart.at {L : List Int} (h : allPart L) {i : Nat} (hi : i < L.length) : 0 ≤ atI L i ∧ atI L i < 5 := by
  have : atI L i = L[i] := by simp [atI, hi]
  rw [this]; exact h _ (List.getElem_mem hi)
theorem atI_get {L : List Int} {i : Nat} (hi : i < L.length) : L[i] = atI L i := by simp [atI, hi]
/-- Each part so often. -/
def partsN : Nat → List Int → List Int
  | _, [] => []
  | i, n :: r => List.replicate n.toNat (i : Int) ++ partsN (i + 1) r
def sizesOk (l : List Int) : Bool := l.all sizeI
def blowE (e l : Int) (L : List Int) : Nat := madeE (fun i j => joinB e l (atI L i) (atI L j)) L.length
/-- A graph with so many vertices in each part, with a code. -/
def blowR (n e l : Int) (ps : List Fr) (zs : List Int) : AV :=
  if patOk n e l ps = false then .tup [.agg [.int .i64 0, .int .u32 0], .int .i64 1]
  else if (zs.length = ps.length ∧ sizesOk zs = true) ∧ (partsN 0 zs).length ≤ 5 then .tup [.agg [.int .i64 (partsN 0 zs).length, .int .u32 (blowE e l (partsN 0 zs))], .int .i64 0]
  else .tup [.agg [.int .i64 0, .int .u32 0], .int .i64 2]
@[simp] theorem blowR_lt (n e l : Int) (ps : List Fr) (zs : List Int) (k : Nat) : (blowR n e l ps zs).lt k = true := by unfold blowR; split; rfl; split <;> rfl
/-- A list that grows in a cell. -/
def cellL (b : Nat) (L : List Int) : AV := if L = [] then .sl [] true else .ref b 1 0 L.length .full
def objL (L : List Int) : List (Option (List AV)) := if L = [] then [] else [some (flatA (insA L))]
theorem cellL_nil (b : Nat) : cellL b [] = .sl [] true := rfl
theorem objL_nil : objL [] = [] := rfl
theorem cellL_cons {b : Nat} {L : List Int} (h : L ≠ []) : cellL b L = .ref b 1 0 L.length .full := if_neg h
theorem objL_cons {L : List Int} (h : L ≠ []) : objL L = [some (flatA (insA L))] := if_neg h
end Go.Proofs.YtlglgcmpeabdnaaGreatDoorAi
end

section
/- MADE BY PROGRAM (wip/tools/gen.py): the abstract code of functions. -/
namespace Go.Proofs.YtlglgcmpeabdnaaGreatDoorAi
open Go AC AOp Opd
set_option linter.unusedVariables false
set_option maxRecDepth 100000

end Go.Proofs.YtlglgcmpeabdnaaGreatDoorAi
end

section
/- MADE BY PROGRAM (wip/tools/gen.py): the abstract code of functions. -/
namespace Go.Proofs.YtlglgcmpeabdnaaGreatDoorAi
open Go AC AOp Opd
set_option linter.unusedVariables false
set_option maxRecDepth 100000

end Go.Proofs.YtlglgcmpeabdnaaGreatDoorAi
end

section
/- Contracts: all maps of vertices to parts, in order. -/
namespace Go.Proofs.YtlglgcmpeabdnaaGreatDoorAi
open Go Go.RowKit
set_option linter.unusedVariables false
set_option linter.unusedSimpArgs false
set_option maxRecDepth 20000
variable {P : Program}

/-- A call to which an object is handed that will not change again. -/
theorem T.freeze {f : FuncId} {args args' : List AV} {A : AHeap} {R : AV → AHeap → Prop} {b : Nat} {cs : List AV} (hb : A b = some cs) (hl : args'.length = args.length) (ha : ∀ (i : Nat) x x', args[i]? = some x → args'[i]? = some x' → Fz b cs x x') (h : T P f args' (A.del b) R) : T P f args A R := by
  refine ⟨h.1, fun B w0 σ w vs hG hB hs hr => ?_⟩
  have hsh := Shift.freeze (N := A.n) (s := ⟨fun i => (args[i]?).getD .any, A⟩) (s' := ⟨fun i => (args'[i]?).getD .any, A.del b⟩) hb (fun i => ?_) (AHeap.del_n ..) (fun i l' e => ?_)
  · have htm : ∀ t, Rep σ ((args[t]?).getD .any) ((vs.toArray).getD t undef) := by
      intro t
      cases ht : args[t]? with
      | none => exact .any _
      | some x =>
        have hlt : t < vs.length := by rw [← hr.1]; exact (List.getElem?_eq_some_iff.1 ht).1
        have := hr.2 t x vs[t] ht (List.getElem?_eq_getElem hlt)
        simpa [ht, hlt] using this
    obtain ⟨σ1, hle, hs1⟩ := hsh B w0 vs.length σ ⟨vs.toArray, []⟩ w ⟨hs, htm, by simp, rfl, hB⟩
    have hle' : σ.Le σ1 := ⟨hle.mem, fun b x e => hle.nm b x (hs.nm b x.1 x.2 e).1 e, hle.base, hle.ty⟩
    refine (h.2 B w0 σ1 w vs hG hB hs1.sim ⟨by rw [hl]; exact hr.1, fun i c v hc hv => ?_⟩).mono fun e w' ⟨r, A', v, σ', e1, e2, e3, e4⟩ => ⟨r, A', v, σ', e1, e2, hle'.trans e3, e4⟩
    have hlt : i < vs.length := (List.getElem?_eq_some_iff.1 hv).1
    have := hs1.tmps i
    simp only [hc, Option.getD_some] at this
    have hv' : vs.toArray.getD i undef = v := by simp [hv]
    rw [hv'] at this
    exact this
  · cases ht : args'[i]? with
    | none => exact .inl (by simp [ht])
    | some x' =>
      have hlt : i < args.length := by rw [← hl]; exact (List.getElem?_eq_some_iff.1 ht).1
      have := ha i args[i] x' (List.getElem?_eq_getElem hlt) ht
      exact .inr (by simpa [ht, hlt] using this)
  · simp only at e
    rw [AHeap.del_at] at e
    split at e
    · cases e
    · rename_i hne
      exact ⟨hne, l', e, rfl, fun j x x' h1 h2 => .inl (by rw [h1] at h2; exact (Option.some.inj h2).symm)⟩

noncomputable def sp_clipI : List AV → Option (AV) := pf (ι := (List Int)) (α := AV) (fun k => True) (fun k => [.sl (insA k) false]) (fun k => .sl (insA k) true)
theorem sp_clipI_eq (k : List Int) : sp_clipI [.sl (insA k) false] = some (.sl (insA k) true) := by
  unfold sp_clipI
  exact pf_eq (ι := (List Int)) (α := AV) k trivial (by rintro k' _ e; simp_all [Int.natCast_inj])
attribute [simp] sp_clipI_eq
end Go.Proofs.YtlglgcmpeabdnaaGreatDoorAi
end

section
/- MADE BY PROGRAM (wip/tools/gen.py): the abstract code of functions. -/
namespace Go.Proofs.YtlglgcmpeabdnaaGreatDoorAi
open Go AC AOp Opd
set_option linter.unusedVariables false
set_option maxRecDepth 100000
def c_impl_Graph_on_1 : AC := seq (reg [⟨(some 6), mv (c (.bool false)), none⟩]) (seq (reg [⟨(some 7), ld (t 2) 2 true, none⟩, ⟨(some 8), ld (t 3) 1 false, none⟩, ⟨(some 9), mv (t 0), none⟩, ⟨(some 10), iad 1 (t 8) (t 9), none⟩, ⟨(some 11), ld (t 10) 1 false, none⟩, ⟨(some 12), ld (t 3) 1 false, none⟩, ⟨(some 13), mv (t 1), none⟩, ⟨(some 14), iad 1 (t 12) (t 13), none⟩, ⟨(some 15), ld (t 14) 1 false, none⟩, ⟨(some 16), callq (c (.fn 161 [])) [t 7, t 11, t 15], none⟩, ⟨(some 6), mv (t 16), none⟩]) (ret))
def r_impl_Graph_on_1 : List ARes := [.tmp 6]
theorem k_impl_Graph_on_1 : acLin Go.Proofs.Tryz.prog 218 4 (inQ [161] []) [⟨false, none, [], [], none⟩, ⟨false, some [0, 1, 2, 3, 4, 5, 6, 7, 8, 9, 10], [], [], none⟩] = some (c_impl_Graph_on_1, r_impl_Graph_on_1) := by kernel_rfl
def c_impl_Graph_on : AC := seq (reg [⟨(some 2), box 2 (t 0), none⟩, ⟨(some 3), box 1 (t 1), none⟩, ⟨(some 4), alloc [.int .i64 0, .int .u32 0], none⟩]) (seq (reg [⟨(some 5), ld (t 3) 1 false, none⟩, ⟨(some 6), len (t 5), none⟩, ⟨(some 7), mkf 218 [t 2, t 3], none⟩, ⟨(some 8), calle (c (.fn 217 [])) [t 6, t 7] [], none⟩, ⟨none, st (t 4) 2 (t 8), none⟩]) (ret))
def r_impl_Graph_on : List ARes := [.cell 4 2 true]
theorem k_impl_Graph_on : acLin Go.Proofs.Tryz.prog 215 2 (inQ [] [217]) [] = some (c_impl_Graph_on, r_impl_Graph_on) := by kernel_rfl
def c_spec_l01First : AC := seq (reg [⟨(some 2), mv (c (.sl [] true)), none⟩]) (seq (reg [⟨(some 5), bsl 1 0 [.int .i64 0] [], none⟩, ⟨(some 3), mv (t 5), none⟩]) (seq (seq (reg [⟨(some 4), mv (c (.int .i64 0)), none⟩]) (block 0 (loop (seq (seq (reg [⟨(some 6), mv (t 4), none⟩, ⟨(some 7), mv (t 0), none⟩, ⟨(some 8), bin .lss (t 6) (t 7), none⟩]) (cond (t 8) (skip) (exit 0))) (seq (block 1 (reg [⟨(some 11), mv (t 3), none⟩, ⟨(some 12), mv (t 4), none⟩, ⟨(some 13), bsl 1 1 [.int .i64 0] [(0, t 12)], none⟩, ⟨(some 14), app 1 8 (t 11) (t 13), none⟩, ⟨(some 3), mv (t 14), none⟩])) (reg [⟨(some 9), mv (t 4), none⟩, ⟨(some 10), bin .add (t 9) (c (.int .i64 1)), none⟩, ⟨(some 4), mv (t 10), none⟩])))))) (seq (reg [⟨(some 15), mv (t 3), none⟩, ⟨(some 2), mv (t 15), none⟩]) (ret))))
def r_spec_l01First : List ARes := [.tmp 2]
theorem k_spec_l01First : acLin Go.Proofs.Tryz.prog 209 1 (inQ [] []) [] = some (c_spec_l01First, r_spec_l01First) := by kernel_rfl
end Go.Proofs.YtlglgcmpeabdnaaGreatDoorAi
end

section
/- MADE BY PROGRAM (wip/tools/gen.py): the abstract code of functions. -/
namespace Go.Proofs.YtlglgcmpeabdnaaGreatDoorAi
open Go AC AOp Opd
set_option linter.unusedVariables false
set_option maxRecDepth 100000

end Go.Proofs.YtlglgcmpeabdnaaGreatDoorAi
end

section
/- MADE BY PROGRAM (wip/tools/gen.py): the abstract code of functions. -/
namespace Go.Proofs.YtlglgcmpeabdnaaGreatDoorAi
open Go AC AOp Opd
set_option linter.unusedVariables false
set_option maxRecDepth 100000
def c_impl_first : AC := seq (reg [⟨(some 2), mv (c (.sl [] true)), none⟩]) (seq (reg [⟨(some 5), bsl 1 0 [.int .i64 0] [], none⟩, ⟨(some 3), mv (t 5), none⟩]) (seq (seq (reg [⟨(some 6), mv (t 0), none⟩, ⟨(some 7), mv (c (.int .i64 0)), none⟩]) (block 0 (loop (seq (reg [⟨(some 8), bin .lss (t 7) (t 6), none⟩]) (seq (cond (t 8) (skip) (exit 0)) (seq (block 1 (seq (reg [⟨(some 9), mv (t 7), none⟩, ⟨(some 4), mv (t 9), none⟩]) (reg [⟨(some 10), mv (t 3), none⟩, ⟨(some 11), mv (t 4), none⟩, ⟨(some 12), bsl 1 1 [.int .i64 0] [(0, t 11)], none⟩, ⟨(some 13), app 1 8 (t 10) (t 12), none⟩, ⟨(some 3), mv (t 13), none⟩]))) (reg [⟨(some 14), bin .add (t 7) (c (.int .i64 1)), none⟩, ⟨(some 7), mv (t 14), none⟩]))))))) (seq (reg [⟨(some 15), mv (t 3), none⟩, ⟨(some 2), mv (t 15), none⟩]) (ret))))
def r_impl_first : List ARes := [.tmp 2]
theorem k_impl_first : acLin Go.Proofs.Tryz.prog 216 1 (inQ [] []) [] = some (c_impl_first, r_impl_first) := by kernel_rfl
def c_spec_l01On : AC := seq (reg [⟨(some 2), box 2 (t 0), none⟩, ⟨(some 4), alloc [.int .i64 0, .int .u32 0], none⟩]) (seq (reg [⟨(some 8), mv (t 1), none⟩, ⟨(some 9), len (t 8), none⟩, ⟨(some 10), bld [.int .i64 0, .int .u32 0] [(0, 1, t 9)], none⟩, ⟨(some 5), alloc [.int .i64 0, .int .u32 0], none⟩, ⟨none, st (t 5) 2 (t 10), none⟩]) (seq (seq (reg [⟨(some 6), mv (c (.int .i64 1)), none⟩]) (block 0 (loop (seq (seq (reg [⟨(some 11), mv (t 6), none⟩, ⟨(some 12), fad (t 5) 0, none⟩, ⟨(some 13), ld (t 12) 1 false, none⟩, ⟨(some 14), bin .lss (t 11) (t 13), none⟩]) (cond (t 14) (skip) (exit 0))) (seq (block 1 (seq (reg [⟨(some 7), mv (c (.int .i64 0)), none⟩]) (block 2 (loop (seq (seq (reg [⟨(some 17), mv (t 7), none⟩, ⟨(some 18), mv (t 6), none⟩, ⟨(some 19), bin .lss (t 17) (t 18), none⟩]) (cond (t 19) (skip) (exit 2))) (seq (block 3 (seq (reg [⟨(some 22), ld (t 2) 2 true, none⟩, ⟨(some 23), mv (t 1), none⟩, ⟨(some 24), mv (t 7), none⟩, ⟨(some 25), iad 1 (t 23) (t 24), none⟩, ⟨(some 26), ld (t 25) 1 false, none⟩, ⟨(some 27), mv (t 1), none⟩, ⟨(some 28), mv (t 6), none⟩, ⟨(some 29), iad 1 (t 27) (t 28), none⟩, ⟨(some 30), ld (t 29) 1 false, none⟩, ⟨(some 31), callq (c (.fn 125 [])) [t 22, t 26, t 30], none⟩]) (cond (t 31) (reg [⟨(some 32), fad (t 5) 1, none⟩, ⟨(some 33), ld (t 32) 1 false, none⟩, ⟨(some 34), mv (t 7), none⟩, ⟨(some 35), mv (t 6), none⟩, ⟨(some 36), callq (c (.fn 67 [])) [t 34, t 35], none⟩, ⟨(some 37), bin .or (t 33) (t 36), none⟩, ⟨(some 38), fad (t 5) 1, none⟩, ⟨none, st (t 38) 1 (t 37), none⟩]) (skip)))) (reg [⟨(some 20), mv (t 7), none⟩, ⟨(some 21), bin .add (t 20) (c (.int .i64 1)), none⟩, ⟨(some 7), mv (t 21), none⟩]))))))) (reg [⟨(some 15), mv (t 6), none⟩, ⟨(some 16), bin .add (t 15) (c (.int .i64 1)), none⟩, ⟨(some 6), mv (t 16), none⟩])))))) (seq (reg [⟨(some 39), ld (t 5) 2 true, none⟩, ⟨none, st (t 4) 2 (t 39), none⟩]) (ret))))
def r_spec_l01On : List ARes := [.cell 4 2 true]
theorem k_spec_l01On : acLin Go.Proofs.Tryz.prog 208 2 (inQ [67, 125] []) [⟨false, none, [], [], none⟩, ⟨false, none, [], [], none⟩, ⟨false, none, [], [], none⟩, ⟨false, none, [], [], none⟩, ⟨false, none, [], [], none⟩, ⟨false, none, [], [], none⟩, ⟨false, none, [], [], none⟩, ⟨false, none, [], [], none⟩, ⟨false, some [0, 1, 2, 3, 4, 5, 6, 7, 8, 9], [], [], none⟩, ⟨false, some [0, 1, 2, 3, 4, 5, 6, 7], [], [], none⟩] = some (c_spec_l01On, r_spec_l01On) := by kernel_rfl
end Go.Proofs.YtlglgcmpeabdnaaGreatDoorAi
end

section
/- Contracts: all lists of different numbers, in order; orders of vertices. -/
namespace Go.Proofs.YtlglgcmpeabdnaaGreatDoorAi
open Go Go.RowKit
set_option linter.unusedVariables false
set_option linter.unusedSimpArgs false
set_option maxRecDepth 20000

def inL (k : List Int) (v : Int) : Bool := k.any fun x => v == x
theorem nodup_snoc {now : List Int} {x : Int} (h : now.Nodup) (hx : inL now x = false) : (now ++ [x]).Nodup := by
  rw [List.nodup_append]
  refine ⟨h, by simp, fun a ha b hb e => ?_⟩
  rw [List.mem_singleton] at hb
  subst hb; subst e
  unfold inL at hx
  rw [List.any_eq_false] at hx
  exact hx a ha (by simp)
end Go.Proofs.YtlglgcmpeabdnaaGreatDoorAi
end

section
/- Contracts: graphs on lists of vertices; orders; how many orders make a graph itself. -/
namespace Go.Proofs.YtlglgcmpeabdnaaGreatDoorAi
open Go Go.RowKit
set_option linter.unusedVariables false
set_option linter.unusedSimpArgs false
set_option maxRecDepth 20000

/-- A list of different vertices. -/
def distL (L : List Int) : Prop := L.Nodup ∧ L.length ≤ 5 ∧ allPart L
theorem distL.ne {L : List Int} (h : distL L) {i j : Nat} (hi : i < L.length) (hj : j < L.length) (hij : i ≠ j) : atI L i ≠ atI L j := by
  rw [← atI_get hi, ← atI_get hj]
  intro e
  exact hij ((List.getElem_inj h.1).1 e)
def onE (e : Int) (L : List Int) : Nat := madeE (fun i j => hasB e (atI L i) (atI L j)) L.length
noncomputable def sp_on1 : List (Option (List AV)) → List AV → Option (AV × List (Option (List AV))) := pv (pf (ι := (Int) × (Int) × (List Int) × (Int) × (Int)) (α := AV × List (Option (List AV))) (fun ⟨n, e, L, i, j⟩ => (0 ≤ e ∧ e ≤ 4294967295) ∧ distL L ∧ (0 ≤ i ∧ i < L.length) ∧ (0 ≤ j ∧ j < L.length) ∧ i ≠ j) (fun i => .agg (((fun ⟨n, e, L, i, j⟩ => [some [.int .i64 n, .int .u32 e], some [.sl (insA L) false]] : (Int) × (Int) × (List Int) × (Int) × (Int) → List (Option (List AV))) i).map enO) :: (fun ⟨n, e, L, i, j⟩ => [.int .i64 i, .int .i64 j, .ptr 0 0, .ptr 1 0] : (Int) × (Int) × (List Int) × (Int) × (Int) → List AV) i) (fun ⟨n, e, L, i, j⟩ => (.bool (hasB e (atI L i.toNat) (atI L j.toNat)), [some [.int .i64 n, .int .u32 e], some [.sl (insA L) false]])))
theorem sp_on1_eq (n e : Int) (L : List Int) (i j : Int) (h : (0 ≤ e ∧ e ≤ 4294967295) ∧ distL L ∧ (0 ≤ i ∧ i < L.length) ∧ (0 ≤ j ∧ j < L.length) ∧ i ≠ j) : sp_on1 [some [.int .i64 n, .int .u32 e], some [.sl (insA L) false]] [.int .i64 i, .int .i64 j, .ptr 0 0, .ptr 1 0] = some (.bool (hasB e (atI L i.toNat) (atI L j.toNat)), [some [.int .i64 n, .int .u32 e], some [.sl (insA L) false]]) := by
  unfold sp_on1 pv
  exact pf_eq (ι := (Int) × (Int) × (List Int) × (Int) × (Int)) (α := AV × List (Option (List AV))) (n, e, L, i, j) h (by rintro ⟨n', e', L', i', j'⟩ _ e; simp_all [enO, Int.natCast_inj])
theorem v_impl_Graph_on_1 : QV PP 218 sp_on1 := by
  refine QV_pf fun i h => ?_
  obtain ⟨n, e, L, i, j⟩ := i
  replace h : (0 ≤ e ∧ e ≤ 4294967295) ∧ distL L ∧ (0 ≤ i ∧ i < L.length) ∧ (0 ≤ j ∧ j < L.length) ∧ i ≠ j := h
  refine H_code (Quiet.q1 q_impl_Graph_has Quiet.nil) hmix k_impl_Graph_on_1 rfl (fun b => b) (by simp [AHeap.n]) (fun _ _ => rfl) (by rfl) (by first | rfl | simp) ?_
  show wpc _ PP _ c_impl_Graph_on_1 (initSt [.int .i64 i, .int .i64 j, .ptr 0 0, .ptr 1 0] ⟨[some [.int .i64 n, .int .u32 e], some [.sl (insA L) false]]⟩) (endH (fun b => b) r_impl_Graph_on_1 (.bool (hasB e (atI L i.toNat) (atI L j.toNat))) [some [.int .i64 n, .int .u32 e], some [.sl (insA L) false]])
  obtain ⟨he, hL, ⟨i0, hi⟩, ⟨j0, hj⟩, hij⟩ := h
  obtain ⟨i, rfl⟩ := Int.eq_ofNat_of_zero_le i0
  obtain ⟨j, rfl⟩ := Int.eq_ofNat_of_zero_le j0
  have hi : i < L.length := by omega
  have hj : j < L.length := by omega
  have hij : i ≠ j := by omega
  have hh := sp_has_eq n e (atI L i) (atI L j) ⟨he, hL.2.2.at hi, hL.2.2.at hj, hL.ne hi hj hij⟩
  simp -dsimp -implicitDefEqProofs [c_impl_Graph_on_1, r_impl_Graph_on_1, hi, hj, atI_get hi, atI_get hj, hh, hsub]
theorem e_made_on : QE PP 217 (spMade 218 (spV sp_on1)) := QE_made v_impl_Graph_on_1.toE
noncomputable def sp_on : List AV → Option (AV) := pf (ι := (Int) × (Int) × (List Int)) (α := AV) (fun ⟨n, e, L⟩ => (0 ≤ e ∧ e ≤ 4294967295) ∧ distL L) (fun ⟨n, e, L⟩ => [.agg [.int .i64 n, .int .u32 e], .sl (insA L) false]) (fun ⟨n, e, L⟩ => .agg [.int .i64 L.length, .int .u32 (onE e L)])
theorem sp_on_eq (n e : Int) (L : List Int) (h : (0 ≤ e ∧ e ≤ 4294967295) ∧ distL L) : sp_on [.agg [.int .i64 n, .int .u32 e], .sl (insA L) false] = some (.agg [.int .i64 L.length, .int .u32 (onE e L)]) := by
  unfold sp_on
  exact pf_eq (ι := (Int) × (Int) × (List Int)) (α := AV) (n, e, L) h (by rintro ⟨n', e', L'⟩ _ e; simp_all [Int.natCast_inj])
theorem q_impl_Graph_on : QP PP 215 sp_on := by
  refine QP_pf (fun i h => ?_) fun i h => ?_
  · obtain ⟨n, e, L⟩ := i; exact ⟨by first | rfl | simp, by first | rfl | simp⟩
  obtain ⟨n, e, L⟩ := i
  replace h : (0 ≤ e ∧ e ≤ 4294967295) ∧ distL L := h
  refine P_code (Quiet.e1 e_made_on Quiet.nil) hmix k_impl_Graph_on rfl ?_ ?_
  · first | rfl | simp
  show wpc 0 PP _ c_impl_Graph_on (initSt [.agg [.int .i64 n, .int .u32 e], .sl (insA L) false] .nil) (endP r_impl_Graph_on (.agg [.int .i64 L.length, .int .u32 (onE e L)]))
  obtain ⟨he, hL⟩ := h
  have hm := spMade_eq (g := 218) (sp := spV sp_on1) (n := L.length) (caps := [.ptr 0 0, .ptr 1 0]) (A := ⟨[some [.int .i64 n, .int .u32 e], some [.sl (insA L) false], some [.int .i64 0, .int .u32 0]]⟩) (fun i j => hasB e (atI L i) (atI L j)) (by have := hL.2.1; omega) (fun i j hi hj => by
    have := sp_on1_eq n e L i j ⟨he, hL, by omega, by omega, by omega⟩
    simp [this])
  simp -dsimp -implicitDefEqProofs [c_impl_Graph_on, r_impl_Graph_on, hm, onE]
theorem q_spec_l01On : QP PP 208 sp_on := by
  refine QP_pf (fun i h => ?_) fun i h => ?_
  · obtain ⟨n, e, L⟩ := i; exact ⟨by first | rfl | simp, by first | rfl | simp⟩
  obtain ⟨n, e, L⟩ := i
  replace h : (0 ≤ e ∧ e ≤ 4294967295) ∧ distL L := h
  refine P_code (Quiet.q1 q_spec_l01Joined (Quiet.q1 q_spec_l01Bit Quiet.nil)) hmix k_spec_l01On rfl ?_ ?_
  · first | rfl | simp
  show wpc 0 PP _ c_spec_l01On (initSt [.agg [.int .i64 n, .int .u32 e], .sl (insA L) false] .nil) (endP r_spec_l01On (.agg [.int .i64 L.length, .int .u32 (onE e L)]))
  obtain ⟨he, hL⟩ := h
  have hl5 := hL.2.1
  simp -dsimp -implicitDefEqProofs [c_spec_l01On, r_spec_l01On]
  refine wpLoop_st (fun (j : Nat) => ⟨tl [(1, .sl (insA L) false), (2, .ptr 0 0), (4, .ptr 1 0), (5, .ptr 2 0), (6, .int .i64 j)], ⟨[some [.int .i64 n, .int .u32 e], some [.int .i64 0, .int .u32 0], some [.int .i64 L.length, .int .u32 (madeE (fun i j => hasB e (atI L i) (atI L j)) j)]]⟩⟩) (fun j => 1 ≤ j ∧ j ≤ max L.length 1) (fun j => max L.length 1 - j) 1 ⟨by omega, by omega⟩ (Sub.keep (by simp) (by simp [hsub, madeE, rowE]) (by simp)) ?_
  rintro j ⟨j1, hj⟩
  simp -dsimp -implicitDefEqProofs
  refine brW_of (fun h => ?_) (fun h => ?_) <;> simp only [decide_eq_true_eq, decide_eq_false_iff_not] at h
  · have hj' : j < L.length := by omega
    have hwj := wrapNat (i := j) (by omega)
    simp -dsimp -implicitDefEqProofs
    refine wpLoop_st (fun (i : Nat) => ⟨tl [(1, .sl (insA L) false), (2, .ptr 0 0), (4, .ptr 1 0), (5, .ptr 2 0), (6, .int .i64 j), (7, .int .i64 i)], ⟨[some [.int .i64 n, .int .u32 e], some [.int .i64 0, .int .u32 0], some [.int .i64 L.length, .int .u32 (rowE (fun i j => hasB e (atI L i) (atI L j)) j (madeE (fun i j => hasB e (atI L i) (atI L j)) j) i)]]⟩⟩) (fun i => i ≤ j) (fun i => j - i) 0 (by omega) (Sub.keep (by simp) (by simp [hsub, rowE]) (by simp)) ?_
    intro i hi
    simp -dsimp -implicitDefEqProofs
    refine brW_of (fun h => ?_) (fun h => ?_) <;> simp only [decide_eq_true_eq, decide_eq_false_iff_not] at h
    · have hi' : i < L.length := by omega
      have hwi := wrapNat (i := i) (by omega)
      have hJ := sp_l01Joined_eq n e (atI L i) (atI L j) ⟨he, hL.2.2.at hi', hL.2.2.at hj'⟩
      have hq2 : joinedB e (atI L i) (atI L j) = hasB e (atI L i) (atI L j) := by
        have := hL.ne hi' hj' (by omega)
        simp only [joinedB, ne_eq, this, not_false_eq_true, decide_true, Bool.true_and]
      rw [hq2] at hJ
      have hb := sp_bit_eq i j (by omega)
      have hor := orBit (rowE_lt (J := fun i j => hasB e (atI L i) (atI L j)) (j := j) (i := i) (madeE_lt (J := fun i j => hasB e (atI L i) (atI L j)) (n := j) (by omega)) (by omega) hi) (bitI_lt (i := i) (j := j) h (by omega))
      cases hv : hasB e (atI L i) (atI L j) with
      | false =>
        rw [hv] at hJ
        simp -dsimp -implicitDefEqProofs [hi', hj', atI_get hi', atI_get hj', hJ, hwi]
        exact .mk (i + 1) (by omega) (by omega) (Sub.keep (by simp) (by simp [hsub, rowE, hv]) (by simp [hwi]))
      | true =>
        rw [hv] at hJ
        simp -dsimp -implicitDefEqProofs [hi', hj', atI_get hi', atI_get hj', hJ, hwi, hb]
        exact .mk (i + 1) (by omega) (by omega) (Sub.keep (by simp) (by simp [hsub, rowE, hv, hor]) (by simp [hwi]))
    · have : i = j := by omega
      subst this
      simp -dsimp -implicitDefEqProofs [hwj]
      exact .mk (i + 1) (by omega) (by omega) (Sub.keep (by simp) (by simp [hsub, madeE]) (by simp [hwj]))
  · rcases Nat.eq_zero_or_pos L.length with h0 | h0
    · have hL0 : L = [] := List.eq_nil_of_length_eq_zero h0
      subst hL0
      have : j = 1 := by simp at hj; omega
      subst this
      simp -dsimp -implicitDefEqProofs [onE, madeE, rowE]
    · have : j = L.length := by omega
      subst this
      simp -dsimp -implicitDefEqProofs [onE]

/-! ### the first numbers -/
def upTo : Nat → List Int
  | 0 => []
  | n + 1 => upTo n ++ [(n : Int)]
@[simp] theorem upTo_len : ∀ n, (upTo n).length = n
  | 0 => rfl
  | n + 1 => by simp [upTo, upTo_len n]
theorem upTo_mem : ∀ {n : Nat} {x : Int}, x ∈ upTo n → 0 ≤ x ∧ x < n
  | 0, x, h => by cases h
  | n + 1, x, h => by
    rw [upTo, List.mem_append, List.mem_singleton] at h
    rcases h with h | rfl
    · have := upTo_mem h; omega
    · omega
theorem upTo_ne {n : Nat} (h : 0 < n) : upTo n ≠ [] := by
  intro e
  have := congrArg List.length e
  simp at this
  omega
theorem upTo_nodup : ∀ n, (upTo n).Nodup
  | 0 => by simp [upTo]
  | n + 1 => by
    rw [upTo]
    refine nodup_snoc (upTo_nodup n) ?_
    unfold inL
    rw [List.any_eq_false]
    intro x hx e
    have := upTo_mem hx
    have e : (n : Int) = x := by simpa using e
    omega
def firstR (n : Nat) : AV × List (Option (List AV)) := if n = 0 then (.sl [] true, []) else (.ref 0 1 0 n .full, [some (flatA (insA (upTo n)))])
noncomputable def sp_firstP : List AV → Option (AV × List (Option (List AV))) := pf (ι := (Nat)) (α := AV × List (Option (List AV))) (fun n => n ≤ 1000) (fun n => [.int .i64 n]) (fun n => firstR n)
theorem sp_firstP_eq (n : Nat) (h : n ≤ 1000) : sp_firstP [.int .i64 n] = some (firstR n) := by
  unfold sp_firstP
  exact pf_eq (ι := (Nat)) (α := AV × List (Option (List AV))) n h (by rintro n' _ e; simp_all [Int.natCast_inj])
theorem first_step (i : Nat) : flatA (insA (upTo i)) ++ [.int .i64 (i : Int)] = flatA (insA (upTo (i + 1))) := by rw [upTo, flatA_append, flatA_one]; rfl
theorem n_impl_first : QN PP 216 sp_firstP := by
  refine QN_pf (fun n h => ?_) fun n h => ?_
  · first | rfl | simp
  replace h : n ≤ 1000 := h
  show T PP 216 [.int .i64 n] .nil fun r' A' => r' = ((firstR n : AV × List (Option (List AV)))).1 ∧ A' = ⟨((firstR n : AV × List (Option (List AV)))).2⟩
  rcases Nat.eq_zero_or_pos n with rfl | hn
  · rw [show firstR 0 = (.sl [] true, []) from rfl]
    refine H_code Quiet.nil hmix k_impl_first rfl (fun _ => 0) (by simp [AHeap.n, AHeap.nil]) (by intro b hb; simp [AHeap.n, AHeap.nil] at hb <;> subst hb <;> rfl) (by rfl) (by first | rfl | simp) ?_
    simp -dsimp -implicitDefEqProofs [c_impl_first, r_impl_first]
    refine wpLoop_st (fun (i : Unit) => ⟨tl [(3, .sl [] true), (6, .int .i64 0), (7, .int .i64 0)], ⟨[]⟩⟩) (fun _ => True) (fun _ => 0) () trivial (Sub.keep (by simp) (by simp [hsub]) (by simp)) ?_
    rintro _ _
    simp -dsimp -implicitDefEqProofs [hsub]
  · rw [show firstR n = (.ref 0 1 0 n .full, [some (flatA (insA (upTo n)))]) from if_neg (by omega)]
    refine H_code Quiet.nil hmix k_impl_first rfl (fun _ => 0) (by simp [AHeap.n, AHeap.nil]) (by intro b hb; simp [AHeap.n, AHeap.nil] at hb <;> subst hb <;> rfl) (by rfl) (by first | rfl | simp) ?_
    simp -dsimp -implicitDefEqProofs [c_impl_first, r_impl_first]
    refine wpLoop_st (fun (i : Nat) => ⟨tl [(3, cellL 0 (upTo i)), (6, .int .i64 n), (7, .int .i64 i)], ⟨objL (upTo i)⟩⟩) (fun i => i ≤ n) (fun i => n - i) 0 (by omega) (Sub.keep (by simp) (by simp [hsub, upTo, objL_nil]) (by simp [upTo, objL_nil, cellL_nil])) ?_
    intro i hi
    rcases Nat.eq_zero_or_pos i with rfl | hi0
    · simp only [upTo, cellL_nil, objL_nil]
      have hm : 1 * 9 ≤ mostBytes := by decide
      have hw : IntKind.i64.wrap 1 = 1 := rfl
      simp -dsimp -implicitDefEqProofs [hn, hm, hw]
      refine .mk 1 (by omega) (by omega) ?_
      rw [cellL_cons (upTo_ne (by omega)), objL_cons (upTo_ne (by omega))]
      exact Sub.mk' (fun b => if b = 0 then 1 else b) (by simp) (by intro b hb; omega) (by rfl) (by simp [hsub, upTo, flat_in]) (by simp [hw])
    · rw [cellL_cons (upTo_ne hi0), objL_cons (upTo_ne hi0)]
      simp -dsimp -implicitDefEqProofs
      refine brW_of (fun h => ?_) (fun h => ?_) <;> simp only [decide_eq_true_eq, decide_eq_false_iff_not] at h
      · have hw := wrapNat (i := i) (by omega)
        have hm : (i + 1) * 9 ≤ mostBytes := by simp only [mostBytes]; omega
        have hfit : ¬ (i + 1 ≤ i) := by omega
        have htl : (flatA (insA (upTo i))).take i = flatA (insA (upTo i)) := List.take_of_length_le (by simp)
        have hst := first_step i
        simp -dsimp -implicitDefEqProofs [hw, hm, hfit, htl, hst]
        refine .mk (i + 1) (by omega) (by omega) ?_
        rw [cellL_cons (upTo_ne (by omega)), objL_cons (upTo_ne (by omega))]
        exact Sub.mk' (fun b => if b = 0 then 2 else b) (by simp) (by intro b hb; omega) (by rfl) (by simp [hsub]) (by simp [hw])
      · have : i = n := by omega
        subst this
        simp -dsimp -implicitDefEqProofs [hsub]
end Go.Proofs.YtlglgcmpeabdnaaGreatDoorAi
end

section
/- Contracts: orders; how many orders make a graph itself; whether a graph is least. -/
namespace Go.Proofs.YtlglgcmpeabdnaaGreatDoorAi
open Go Go.RowKit
set_option linter.unusedVariables false
set_option linter.unusedSimpArgs false
set_option maxRecDepth 20000

@[simp] theorem leL_app : ∀ (os r r' : List (Option (List AV))), leL (os ++ r) (os ++ r') ↔ leL r r'
  | [], r, r' => Iff.rfl
  | none :: os, r, r' => by simp only [List.cons_append, leL]; exact leL_app os r r'
  | some c :: os, r, r' => by simp only [List.cons_append, leL, true_and]; exact leL_app os r r'
end Go.Proofs.YtlglgcmpeabdnaaGreatDoorAi
end

section
/- Contracts: how many orders make a graph itself; whether a graph is least. -/
namespace Go.Proofs.YtlglgcmpeabdnaaGreatDoorAi
open Go Go.RowKit
set_option linter.unusedVariables false
set_option linter.unusedSimpArgs false
set_option maxRecDepth 20000

/-! ### least graphs -/
end Go.Proofs.YtlglgcmpeabdnaaGreatDoorAi
end

section
/- Contracts: the reference's lists of different vertices, one behind another. -/
namespace Go.Proofs.YtlglgcmpeabdnaaGreatDoorAi
open Go Go.RowKit
set_option linter.unusedVariables false
set_option linter.unusedSimpArgs false
set_option maxRecDepth 20000

theorem n_spec_l01First : QN PP 209 sp_firstP := by
  refine QN_pf (fun n h => ?_) fun n h => ?_
  · first | rfl | simp
  replace h : n ≤ 1000 := h
  show T PP 209 [.int .i64 n] .nil fun r' A' => r' = ((firstR n : AV × List (Option (List AV)))).1 ∧ A' = ⟨((firstR n : AV × List (Option (List AV)))).2⟩
  rcases Nat.eq_zero_or_pos n with rfl | hn
  · rw [show firstR 0 = (.sl [] true, []) from rfl]
    refine H_code Quiet.nil hmix k_spec_l01First rfl (fun _ => 0) (by simp [AHeap.n, AHeap.nil]) (by intro b hb; simp [AHeap.n, AHeap.nil] at hb <;> subst hb <;> rfl) (by rfl) (by first | rfl | simp) ?_
    simp -dsimp -implicitDefEqProofs [c_spec_l01First, r_spec_l01First]
    refine wpLoop_st (fun (i : Unit) => ⟨tl [(0, .int .i64 0), (3, .sl [] true), (4, .int .i64 0)], ⟨[]⟩⟩) (fun _ => True) (fun _ => 0) () trivial (Sub.keep (by simp) (by simp [hsub]) (by simp)) ?_
    rintro _ _
    simp -dsimp -implicitDefEqProofs [hsub]
  · rw [show firstR n = (.ref 0 1 0 n .full, [some (flatA (insA (upTo n)))]) from if_neg (by omega)]
    refine H_code Quiet.nil hmix k_spec_l01First rfl (fun _ => 0) (by simp [AHeap.n, AHeap.nil]) (by intro b hb; simp [AHeap.n, AHeap.nil] at hb <;> subst hb <;> rfl) (by rfl) (by first | rfl | simp) ?_
    simp -dsimp -implicitDefEqProofs [c_spec_l01First, r_spec_l01First]
    refine wpLoop_st (fun (i : Nat) => ⟨tl [(0, .int .i64 n), (3, cellL 0 (upTo i)), (4, .int .i64 i)], ⟨objL (upTo i)⟩⟩) (fun i => i ≤ n) (fun i => n - i) 0 (by omega) (Sub.keep (by simp) (by simp [hsub, upTo, objL_nil]) (by simp [upTo, objL_nil, cellL_nil])) ?_
    intro i hi
    rcases Nat.eq_zero_or_pos i with rfl | hi0
    · simp only [upTo, cellL_nil, objL_nil]
      have hm : 1 * 9 ≤ mostBytes := by decide
      have hw : IntKind.i64.wrap 1 = 1 := rfl
      simp -dsimp -implicitDefEqProofs [hn, hm, hw]
      refine .mk 1 (by omega) (by omega) ?_
      rw [cellL_cons (upTo_ne (by omega)), objL_cons (upTo_ne (by omega))]
      exact Sub.mk' (fun b => if b = 0 then 1 else b) (by simp) (by intro b hb; omega) (by rfl) (by simp [hsub, upTo, flat_in]) (by simp [hw])
    · rw [cellL_cons (upTo_ne hi0), objL_cons (upTo_ne hi0)]
      simp -dsimp -implicitDefEqProofs
      refine brW_of (fun h => ?_) (fun h => ?_) <;> simp only [decide_eq_true_eq, decide_eq_false_iff_not] at h
      · have hw := wrapNat (i := i) (by omega)
        have hm : (i + 1) * 9 ≤ mostBytes := by simp only [mostBytes]; omega
        have hfit : ¬ (i + 1 ≤ i) := by omega
        have htl : (flatA (insA (upTo i))).take i = flatA (insA (upTo i)) := List.take_of_length_le (by simp)
        have hst := first_step i
        simp -dsimp -implicitDefEqProofs [hw, hm, hfit, htl, hst]
        refine .mk (i + 1) (by omega) (by omega) ?_
        rw [cellL_cons (upTo_ne (by omega)), objL_cons (upTo_ne (by omega))]
        exact Sub.mk' (fun b => if b = 0 then 2 else b) (by simp) (by intro b hb; omega) (by rfl) (by simp [hsub]) (by simp [hw])
      · have : i = n := by omega
        subst this
        simp -dsimp -implicitDefEqProofs [hsub]
/-! ### the next list of different vertices -/
end Go.Proofs.YtlglgcmpeabdnaaGreatDoorAi
end

section
/- MADE BY PROGRAM (wip/tools/gen.py): the abstract code of functions. -/
namespace Go.Proofs.YtlglgcmpeabdnaaGreatDoorAi
open Go AC AOp Opd
set_option linter.unusedVariables false
set_option maxRecDepth 100000
def c_strconv_FormatInt : AC := seq (reg [⟨(some 4), mv (c (.str ⟨#[]⟩)), none⟩]) (seq (reg [⟨(some 5), mv (t 0), none⟩, ⟨(some 6), mv (t 1), none⟩, ⟨(some 7), callq (c (.fn 148 [])) [t 5, t 6], none⟩, ⟨(some 4), mv (t 7), none⟩]) (ret))
def r_strconv_FormatInt : List ARes := [.tmp 4]
theorem k_strconv_FormatInt : acLin Go.Proofs.Tryz.prog 105 2 (inQ [148] []) [] = some (c_strconv_FormatInt, r_strconv_FormatInt) := by kernel_rfl
def c_spec_Decimal : AC := seq (reg [⟨(some 2), mv (c (.str ⟨#[]⟩)), none⟩]) (seq (seq (reg [⟨(some 3), mv (t 0), none⟩, ⟨(some 4), bin .geq (t 3) (c (.int .i64 10)), none⟩]) (cond (t 4) (seq (reg [⟨(some 5), mv (t 0), none⟩, ⟨(some 6), bin .quo (t 5) (c (.int .i64 10)), none⟩, ⟨(some 7), callq (c (.fn 78 [])) [t 6], none⟩, ⟨(some 8), mv (t 0), none⟩, ⟨(some 9), bin .rem (t 8) (c (.int .i64 10)), none⟩, ⟨(some 10), bin .add (c (.int .i64 48)) (t 9), none⟩, ⟨(some 11), conv .u8 (t 10), none⟩, ⟨(some 12), bsl 1 1 [.int .u8 0] [(0, t 11)], none⟩, ⟨(some 13), b2s (t 12), none⟩, ⟨(some 14), bin .add (t 7) (t 13), none⟩, ⟨(some 2), mv (t 14), none⟩]) (ret)) (skip))) (seq (reg [⟨(some 15), mv (t 0), none⟩, ⟨(some 16), bin .add (c (.int .i64 48)) (t 15), none⟩, ⟨(some 17), conv .u8 (t 16), none⟩, ⟨(some 18), bsl 1 1 [.int .u8 0] [(0, t 17)], none⟩, ⟨(some 19), b2s (t 18), none⟩, ⟨(some 2), mv (t 19), none⟩]) (ret)))
def r_spec_Decimal : List ARes := [.tmp 2]
theorem k_spec_Decimal : acLin Go.Proofs.Tryz.prog 78 1 (inQ [78] []) [⟨false, none, [], [], none⟩, ⟨false, none, [], [], none⟩, ⟨false, some [0, 1, 2, 3, 4, 5, 6, 7, 8, 9, 10], [], [], none⟩] = some (c_spec_Decimal, r_spec_Decimal) := by kernel_rfl
def c_impl_decimal : AC := seq (reg [⟨(some 2), mv (c (.str ⟨#[]⟩)), none⟩]) (seq (reg [⟨(some 3), mv (t 0), none⟩, ⟨(some 4), callq (c (.fn 105 [])) [t 3, c (.int .i64 10)], none⟩, ⟨(some 2), mv (t 4), none⟩]) (ret))
def r_impl_decimal : List ARes := [.tmp 2]
theorem k_impl_decimal : acLin Go.Proofs.Tryz.prog 50 1 (inQ [105] []) [] = some (c_impl_decimal, r_impl_decimal) := by kernel_rfl
def c_impl_Fraction_text : AC := seq (reg [⟨(some 1), box 2 (t 0), none⟩, ⟨(some 2), mv (c (.str ⟨#[]⟩)), none⟩]) (seq (seq (reg [⟨(some 3), fad (t 1) 1, none⟩, ⟨(some 4), ld (t 3) 1 false, none⟩, ⟨(some 5), bin .eql (t 4) (c (.int .i64 1)), none⟩]) (cond (t 5) (seq (reg [⟨(some 6), fad (t 1) 0, none⟩, ⟨(some 7), ld (t 6) 1 false, none⟩, ⟨(some 8), callq (c (.fn 50 [])) [t 7], none⟩, ⟨(some 2), mv (t 8), none⟩]) (ret)) (skip))) (seq (reg [⟨(some 9), fad (t 1) 0, none⟩, ⟨(some 10), ld (t 9) 1 false, none⟩, ⟨(some 11), callq (c (.fn 50 [])) [t 10], none⟩, ⟨(some 12), bin .add (t 11) (c (.str ⟨#[47]⟩)), none⟩, ⟨(some 13), fad (t 1) 1, none⟩, ⟨(some 14), ld (t 13) 1 false, none⟩, ⟨(some 15), callq (c (.fn 50 [])) [t 14], none⟩, ⟨(some 16), bin .add (t 12) (t 15), none⟩, ⟨(some 2), mv (t 16), none⟩]) (ret)))
def r_impl_Fraction_text : List ARes := [.tmp 2]
theorem k_impl_Fraction_text : acLin Go.Proofs.Tryz.prog 134 1 (inQ [50] []) [⟨false, none, [], [], none⟩, ⟨false, none, [], [], none⟩, ⟨false, none, [], [], none⟩, ⟨false, none, [], [], none⟩, ⟨false, some [0, 1, 2, 3, 4, 5, 6, 7, 8], [], [], none⟩] = some (c_impl_Fraction_text, r_impl_Fraction_text) := by kernel_rfl
def c_spec_FractionText : AC := seq (reg [⟨(some 1), box 2 (t 0), none⟩, ⟨(some 2), mv (c (.str ⟨#[]⟩)), none⟩]) (seq (seq (reg [⟨(some 4), ld (t 1) 2 true, none⟩, ⟨(some 5), callq (c (.fn 70 [])) [t 4], none⟩, ⟨(some 6), un .not (t 5), none⟩]) (cond (t 6) (seq (reg [⟨(some 2), mv (c (.str ⟨#[]⟩)), none⟩]) (ret)) (skip))) (seq (reg [⟨(some 7), fad (t 1) 0, none⟩, ⟨(some 8), ld (t 7) 1 false, none⟩, ⟨(some 9), callq (c (.fn 122 [])) [t 8], none⟩, ⟨(some 10), callq (c (.fn 78 [])) [t 9], none⟩, ⟨(some 3), mv (t 10), none⟩]) (seq (seq (reg [⟨(some 11), fad (t 1) 0, none⟩, ⟨(some 12), ld (t 11) 1 false, none⟩, ⟨(some 13), bin .lss (t 12) (c (.int .i64 0)), none⟩]) (cond (t 13) (reg [⟨(some 14), mv (t 3), none⟩, ⟨(some 15), bin .add (c (.str ⟨#[45]⟩)) (t 14), none⟩, ⟨(some 3), mv (t 15), none⟩]) (skip))) (seq (seq (reg [⟨(some 16), fad (t 1) 1, none⟩, ⟨(some 17), ld (t 16) 1 false, none⟩, ⟨(some 18), bin .neq (t 17) (c (.int .i64 1)), none⟩]) (cond (t 18) (reg [⟨(some 19), mv (t 3), none⟩, ⟨(some 20), fad (t 1) 1, none⟩, ⟨(some 21), ld (t 20) 1 false, none⟩, ⟨(some 22), callq (c (.fn 78 [])) [t 21], none⟩, ⟨(some 23), bin .add (c (.str ⟨#[47]⟩)) (t 22), none⟩, ⟨(some 24), bin .add (t 19) (t 23), none⟩, ⟨(some 3), mv (t 24), none⟩]) (skip))) (seq (reg [⟨(some 25), mv (t 3), none⟩, ⟨(some 2), mv (t 25), none⟩]) (ret))))))
def r_spec_FractionText : List ARes := [.tmp 2]
theorem k_spec_FractionText : acLin Go.Proofs.Tryz.prog 71 1 (inQ [70, 78, 122] []) [] = some (c_spec_FractionText, r_spec_FractionText) := by kernel_rfl
def c_impl_Graph_edges : AC := seq (reg [⟨(some 1), box 2 (t 0), none⟩, ⟨(some 2), mv (c (.sl [] true)), none⟩]) (seq (reg [⟨(some 6), bsl 2 0 [.int .i64 0, .int .i64 0] [], none⟩, ⟨(some 3), mv (t 6), none⟩]) (seq (seq (reg [⟨(some 7), fad (t 1) 0, none⟩, ⟨(some 8), ld (t 7) 1 false, none⟩, ⟨(some 9), mv (c (.int .i64 0)), none⟩]) (block 0 (loop (seq (reg [⟨(some 10), bin .lss (t 9) (t 8), none⟩]) (seq (cond (t 10) (skip) (exit 0)) (seq (block 1 (seq (reg [⟨(some 11), mv (t 9), none⟩, ⟨(some 4), mv (t 11), none⟩]) (seq (reg [⟨(some 12), mv (t 4), none⟩, ⟨(some 13), mv (c (.int .i64 0)), none⟩]) (block 2 (loop (seq (reg [⟨(some 14), bin .lss (t 13) (t 12), none⟩]) (seq (cond (t 14) (skip) (exit 2)) (seq (block 3 (seq (reg [⟨(some 15), mv (t 13), none⟩, ⟨(some 5), mv (t 15), none⟩]) (seq (reg [⟨(some 16), ld (t 1) 2 true, none⟩, ⟨(some 17), mv (t 5), none⟩, ⟨(some 18), mv (t 4), none⟩, ⟨(some 19), callq (c (.fn 161 [])) [t 16, t 17, t 18], none⟩]) (cond (t 19) (reg [⟨(some 20), mv (t 3), none⟩, ⟨(some 21), mv (t 5), none⟩, ⟨(some 22), mv (t 4), none⟩, ⟨(some 23), bld [.int .i64 0, .int .i64 0] [(0, 1, t 21), (1, 1, t 22)], none⟩, ⟨(some 24), bsl 2 1 [.int .i64 0, .int .i64 0] [(0, t 23)], none⟩, ⟨(some 25), app 2 16 (t 20) (t 24), none⟩, ⟨(some 3), mv (t 25), none⟩]) (skip))))) (reg [⟨(some 26), bin .add (t 13) (c (.int .i64 1)), none⟩, ⟨(some 13), mv (t 26), none⟩]))))))))) (reg [⟨(some 27), bin .add (t 9) (c (.int .i64 1)), none⟩, ⟨(some 9), mv (t 27), none⟩]))))))) (seq (reg [⟨(some 28), mv (t 3), none⟩, ⟨(some 2), mv (t 28), none⟩]) (ret))))
def r_impl_Graph_edges : List ARes := [.tmp 2]
theorem k_impl_Graph_edges : acLin Go.Proofs.Tryz.prog 131 1 (inQ [161] []) [] = some (c_impl_Graph_edges, r_impl_Graph_edges) := by kernel_rfl
def c_spec_l01Pairs : AC := seq (reg [⟨(some 1), box 2 (t 0), none⟩, ⟨(some 2), mv (c (.sl [] true)), none⟩]) (seq (reg [⟨(some 6), bsl 2 0 [.int .i64 0, .int .i64 0] [], none⟩, ⟨(some 3), mv (t 6), none⟩]) (seq (seq (reg [⟨(some 4), mv (c (.int .i64 1)), none⟩]) (block 0 (loop (seq (seq (reg [⟨(some 7), mv (t 4), none⟩, ⟨(some 8), fad (t 1) 0, none⟩, ⟨(some 9), ld (t 8) 1 false, none⟩, ⟨(some 10), bin .lss (t 7) (t 9), none⟩]) (cond (t 10) (skip) (exit 0))) (seq (block 1 (seq (reg [⟨(some 5), mv (c (.int .i64 0)), none⟩]) (block 2 (loop (seq (seq (reg [⟨(some 13), mv (t 5), none⟩, ⟨(some 14), mv (t 4), none⟩, ⟨(some 15), bin .lss (t 13) (t 14), none⟩]) (cond (t 15) (skip) (exit 2))) (seq (block 3 (seq (reg [⟨(some 18), ld (t 1) 2 true, none⟩, ⟨(some 19), mv (t 5), none⟩, ⟨(some 20), mv (t 4), none⟩, ⟨(some 21), callq (c (.fn 125 [])) [t 18, t 19, t 20], none⟩]) (cond (t 21) (reg [⟨(some 22), mv (t 3), none⟩, ⟨(some 23), mv (t 5), none⟩, ⟨(some 24), mv (t 4), none⟩, ⟨(some 25), bld [.int .i64 0, .int .i64 0] [(0, 1, t 23), (1, 1, t 24)], none⟩, ⟨(some 26), bsl 2 1 [.int .i64 0, .int .i64 0] [(0, t 25)], none⟩, ⟨(some 27), app 2 16 (t 22) (t 26), none⟩, ⟨(some 3), mv (t 27), none⟩]) (skip)))) (reg [⟨(some 16), mv (t 5), none⟩, ⟨(some 17), bin .add (t 16) (c (.int .i64 1)), none⟩, ⟨(some 5), mv (t 17), none⟩]))))))) (reg [⟨(some 11), mv (t 4), none⟩, ⟨(some 12), bin .add (t 11) (c (.int .i64 1)), none⟩, ⟨(some 4), mv (t 12), none⟩])))))) (seq (reg [⟨(some 28), mv (t 3), none⟩, ⟨(some 2), mv (t 28), none⟩]) (ret))))
def r_spec_l01Pairs : List ARes := [.tmp 2]
theorem k_spec_l01Pairs : acLin Go.Proofs.Tryz.prog 120 1 (inQ [125] []) [] = some (c_spec_l01Pairs, r_spec_l01Pairs) := by kernel_rfl
def c_impl_Graph_text : AC := seq (reg [⟨(some 1), box 2 (t 0), none⟩, ⟨(some 2), mv (c (.str ⟨#[]⟩)), none⟩]) (seq (reg [⟨(some 6), fad (t 1) 0, none⟩, ⟨(some 7), ld (t 6) 1 false, none⟩, ⟨(some 8), callq (c (.fn 50 [])) [t 7], none⟩, ⟨(some 9), bin .add (c (.str ⟨#[103, 114, 97, 112, 104, 32]⟩)) (t 8), none⟩, ⟨(some 3), mv (t 9), none⟩]) (seq (seq (reg [⟨(some 10), ld (t 1) 2 true, none⟩, ⟨(some 11), calle (c (.fn 131 [])) [t 10] [], none⟩, ⟨(some 12), len (t 11), none⟩, ⟨(some 13), mv (c (.int .i64 0)), none⟩]) (block 0 (loop (seq (reg [⟨(some 14), bin .lss (t 13) (t 12), none⟩]) (seq (cond (t 14) (skip) (exit 0)) (seq (block 1 (seq (reg [⟨(some 15), iad 2 (t 11) (t 13), none⟩, ⟨(some 16), ld (t 15) 2 true, none⟩, ⟨(some 5), alloc [.int .i64 0, .int .i64 0], none⟩, ⟨none, st (t 5) 2 (t 16), none⟩]) (reg [⟨(some 17), mv (t 3), none⟩, ⟨(some 18), fad (t 5) 0, none⟩, ⟨(some 19), ld (t 18) 1 false, none⟩, ⟨(some 20), callq (c (.fn 50 [])) [t 19], none⟩, ⟨(some 21), bin .add (c (.str ⟨#[32]⟩)) (t 20), none⟩, ⟨(some 22), bin .add (t 21) (c (.str ⟨#[45]⟩)), none⟩, ⟨(some 23), fad (t 5) 1, none⟩, ⟨(some 24), ld (t 23) 1 false, none⟩, ⟨(some 25), callq (c (.fn 50 [])) [t 24], none⟩, ⟨(some 26), bin .add (t 22) (t 25), none⟩, ⟨(some 27), bin .add (t 17) (t 26), none⟩, ⟨(some 3), mv (t 27), none⟩]))) (reg [⟨(some 28), bin .add (t 13) (c (.int .i64 1)), none⟩, ⟨(some 13), mv (t 28), none⟩]))))))) (seq (reg [⟨(some 29), mv (t 3), none⟩, ⟨(some 2), mv (t 29), none⟩]) (ret))))
def r_impl_Graph_text : List ARes := [.tmp 2]
theorem k_impl_Graph_text : acLin Go.Proofs.Tryz.prog 84 1 (inQ [50] [131]) [⟨false, none, [], [], none⟩, ⟨false, none, [], [], none⟩, ⟨false, none, [], [], none⟩, ⟨false, none, [], [], none⟩, ⟨false, none, [], [], none⟩, ⟨false, none, [], [], none⟩, ⟨false, some [0, 1, 2, 3, 4, 5, 6, 7, 8, 9, 10, 11], [], [], none⟩] = some (c_impl_Graph_text, r_impl_Graph_text) := by kernel_rfl
def c_spec_GraphText : AC := seq (reg [⟨(some 1), box 2 (t 0), none⟩, ⟨(some 2), mv (c (.str ⟨#[]⟩)), none⟩]) (seq (seq (reg [⟨(some 6), ld (t 1) 2 true, none⟩, ⟨(some 7), callq (c (.fn 72 [])) [t 6], none⟩, ⟨(some 8), un .not (t 7), none⟩]) (cond (t 8) (seq (reg [⟨(some 2), mv (c (.str ⟨#[]⟩)), none⟩]) (ret)) (skip))) (seq (reg [⟨(some 9), fad (t 1) 0, none⟩, ⟨(some 10), ld (t 9) 1 false, none⟩, ⟨(some 11), callq (c (.fn 78 [])) [t 10], none⟩, ⟨(some 12), bin .add (c (.str ⟨#[103, 114, 97, 112, 104, 32]⟩)) (t 11), none⟩, ⟨(some 3), mv (t 12), none⟩]) (seq (reg [⟨(some 13), ld (t 1) 2 true, none⟩, ⟨(some 14), calle (c (.fn 120 [])) [t 13] [], none⟩, ⟨(some 4), mv (t 14), none⟩]) (seq (seq (reg [⟨(some 5), mv (c (.int .i64 0)), none⟩]) (block 0 (loop (seq (seq (reg [⟨(some 15), mv (t 5), none⟩, ⟨(some 16), mv (t 4), none⟩, ⟨(some 17), len (t 16), none⟩, ⟨(some 18), bin .lss (t 15) (t 17), none⟩]) (cond (t 18) (skip) (exit 0))) (seq (block 1 (reg [⟨(some 21), mv (t 3), none⟩, ⟨(some 22), mv (t 4), none⟩, ⟨(some 23), mv (t 5), none⟩, ⟨(some 24), iad 2 (t 22) (t 23), none⟩, ⟨(some 25), fad (t 24) 0, none⟩, ⟨(some 26), ld (t 25) 1 false, none⟩, ⟨(some 27), callq (c (.fn 78 [])) [t 26], none⟩, ⟨(some 28), bin .add (c (.str ⟨#[32]⟩)) (t 27), none⟩, ⟨(some 29), bin .add (t 28) (c (.str ⟨#[45]⟩)), none⟩, ⟨(some 30), mv (t 4), none⟩, ⟨(some 31), mv (t 5), none⟩, ⟨(some 32), iad 2 (t 30) (t 31), none⟩, ⟨(some 33), fad (t 32) 1, none⟩, ⟨(some 34), ld (t 33) 1 false, none⟩, ⟨(some 35), callq (c (.fn 78 [])) [t 34], none⟩, ⟨(some 36), bin .add (t 29) (t 35), none⟩, ⟨(some 37), bin .add (t 21) (t 36), none⟩, ⟨(some 3), mv (t 37), none⟩])) (reg [⟨(some 19), mv (t 5), none⟩, ⟨(some 20), bin .add (t 19) (c (.int .i64 1)), none⟩, ⟨(some 5), mv (t 20), none⟩])))))) (seq (reg [⟨(some 38), mv (t 3), none⟩, ⟨(some 2), mv (t 38), none⟩]) (ret))))))
def r_spec_GraphText : List ARes := [.tmp 2]
theorem k_spec_GraphText : acLin Go.Proofs.Tryz.prog 68 1 (inQ [72, 78] [120]) [⟨false, none, [], [], none⟩, ⟨false, none, [], [], none⟩, ⟨false, none, [], [], none⟩, ⟨false, none, [], [], none⟩, ⟨false, none, [], [], none⟩, ⟨false, none, [], [], none⟩, ⟨false, none, [], [], none⟩, ⟨false, none, [], [], none⟩, ⟨false, none, [], [], none⟩, ⟨false, some [0, 1, 2, 3, 4, 5, 6, 7, 8, 9, 10, 11, 12, 13, 14, 15, 16, 17], [], [], none⟩] = some (c_spec_GraphText, r_spec_GraphText) := by kernel_rfl
def c_spec_l03Ok : AC := seq (reg [⟨(some 1), box 3 (t 0), none⟩, ⟨(some 2), mv (c (.bool false)), none⟩]) (seq (reg [⟨(some 3), fad (t 1) 1, none⟩, ⟨(some 4), ld (t 3) 2 true, none⟩, ⟨(some 5), callq (c (.fn 72 [])) [t 4], none⟩, ⟨(some 6), mv (t 5), none⟩, ⟨(some 7), fad (t 1) 0, some (6, true)⟩, ⟨(some 8), ld (t 7) 1 false, some (6, true)⟩, ⟨(some 9), callq (c (.fn 98 [])) [t 8, c (.int .i64 0), c (.int .i64 3)], some (6, true)⟩, ⟨(some 10), pick (t 6) (t 9) (c (.bool false)), none⟩, ⟨(some 11), mv (t 10), none⟩, ⟨(some 12), fad (t 1) 0, some (11, true)⟩, ⟨(some 13), ld (t 12) 1 false, some (11, true)⟩, ⟨(some 14), fad (t 1) 1, some (11, true)⟩, ⟨(some 15), fad (t 14) 0, some (11, true)⟩, ⟨(some 16), ld (t 15) 1 false, some (11, true)⟩, ⟨(some 17), bin .leq (t 13) (t 16), some (11, true)⟩, ⟨(some 18), pick (t 11) (t 17) (c (.bool false)), none⟩, ⟨(some 2), mv (t 18), none⟩]) (ret))
def r_spec_l03Ok : List ARes := [.tmp 2]
theorem k_spec_l03Ok : acLin Go.Proofs.Tryz.prog 107 1 (inQ [72, 98] []) [] = some (c_spec_l03Ok, r_spec_l03Ok) := by kernel_rfl
def c_impl_ValidFlag : AC := seq (reg [⟨(some 1), box 3 (t 0), none⟩, ⟨(some 2), mv (c (.bool false)), none⟩]) (seq (reg [⟨(some 3), fad (t 1) 1, none⟩, ⟨(some 4), ld (t 3) 2 true, none⟩, ⟨(some 5), callq (c (.fn 137 [])) [t 4], none⟩, ⟨(some 6), mv (t 5), none⟩, ⟨(some 7), fad (t 1) 0, some (6, true)⟩, ⟨(some 8), ld (t 7) 1 false, some (6, true)⟩, ⟨(some 9), callq (c (.fn 37 [])) [t 8, c (.int .i64 0), c (.int .i64 3)], some (6, true)⟩, ⟨(some 10), pick (t 6) (t 9) (c (.bool false)), none⟩, ⟨(some 11), mv (t 10), none⟩, ⟨(some 12), fad (t 1) 0, some (11, true)⟩, ⟨(some 13), ld (t 12) 1 false, some (11, true)⟩, ⟨(some 14), fad (t 1) 1, some (11, true)⟩, ⟨(some 15), fad (t 14) 0, some (11, true)⟩, ⟨(some 16), ld (t 15) 1 false, some (11, true)⟩, ⟨(some 17), bin .leq (t 13) (t 16), some (11, true)⟩, ⟨(some 18), pick (t 11) (t 17) (c (.bool false)), none⟩, ⟨(some 2), mv (t 18), none⟩]) (ret))
def r_impl_ValidFlag : List ARes := [.tmp 2]
theorem k_impl_ValidFlag : acLin Go.Proofs.Tryz.prog 152 1 (inQ [37, 137] []) [] = some (c_impl_ValidFlag, r_impl_ValidFlag) := by kernel_rfl
def c_impl_Flag_text : AC := seq (reg [⟨(some 1), box 3 (t 0), none⟩, ⟨(some 2), mv (c (.str ⟨#[]⟩)), none⟩]) (seq (reg [⟨(some 3), fad (t 1) 0, none⟩, ⟨(some 4), ld (t 3) 1 false, none⟩, ⟨(some 5), callq (c (.fn 50 [])) [t 4], none⟩, ⟨(some 6), bin .add (c (.str ⟨#[102, 108, 97, 103, 32]⟩)) (t 5), none⟩, ⟨(some 7), bin .add (t 6) (c (.str ⟨#[32]⟩)), none⟩, ⟨(some 8), fad (t 1) 1, none⟩, ⟨(some 9), ld (t 8) 2 true, none⟩, ⟨(some 10), callq (c (.fn 84 [])) [t 9], none⟩, ⟨(some 11), bin .add (t 7) (t 10), none⟩, ⟨(some 2), mv (t 11), none⟩]) (ret))
def r_impl_Flag_text : List ARes := [.tmp 2]
theorem k_impl_Flag_text : acLin Go.Proofs.Tryz.prog 51 1 (inQ [50, 84] []) [⟨false, none, [], [], none⟩, ⟨false, some [0, 1, 2, 3, 4, 5, 6, 7, 8, 9], [], [], none⟩] = some (c_impl_Flag_text, r_impl_Flag_text) := by kernel_rfl
def c_spec_FlagText : AC := seq (reg [⟨(some 1), box 3 (t 0), none⟩, ⟨(some 2), mv (c (.str ⟨#[]⟩)), none⟩]) (seq (seq (reg [⟨(some 3), ld (t 1) 3 true, none⟩, ⟨(some 4), callq (c (.fn 107 [])) [t 3], none⟩, ⟨(some 5), un .not (t 4), none⟩]) (cond (t 5) (seq (reg [⟨(some 2), mv (c (.str ⟨#[]⟩)), none⟩]) (ret)) (skip))) (seq (reg [⟨(some 6), fad (t 1) 0, none⟩, ⟨(some 7), ld (t 6) 1 false, none⟩, ⟨(some 8), callq (c (.fn 78 [])) [t 7], none⟩, ⟨(some 9), bin .add (c (.str ⟨#[102, 108, 97, 103, 32]⟩)) (t 8), none⟩, ⟨(some 10), bin .add (t 9) (c (.str ⟨#[32]⟩)), none⟩, ⟨(some 11), fad (t 1) 1, none⟩, ⟨(some 12), ld (t 11) 2 true, none⟩, ⟨(some 13), callq (c (.fn 68 [])) [t 12], none⟩, ⟨(some 14), bin .add (t 10) (t 13), none⟩, ⟨(some 2), mv (t 14), none⟩]) (ret)))
def r_spec_FlagText : List ARes := [.tmp 2]
theorem k_spec_FlagText : acLin Go.Proofs.Tryz.prog 99 1 (inQ [68, 78, 107] []) [⟨false, none, [], [], none⟩, ⟨false, none, [], [], none⟩, ⟨false, none, [], [], none⟩, ⟨false, none, [], [], none⟩, ⟨false, some [0, 1, 2, 3, 4, 5, 6, 7, 8, 9], [], [], none⟩] = some (c_spec_FlagText, r_spec_FlagText) := by kernel_rfl
def c_laws_toFlag : AC := seq (reg [⟨(some 1), box 3 (t 0), none⟩, ⟨(some 2), alloc [.int .i64 0, .int .i64 0, .int .u32 0], none⟩]) (seq (reg [⟨(some 3), alloc [.int .i64 0, .int .i64 0, .int .u32 0], none⟩]) (seq (reg [⟨(some 4), fad (t 1) 0, none⟩, ⟨(some 5), ld (t 4) 1 false, none⟩, ⟨(some 6), fad (t 3) 0, none⟩, ⟨none, st (t 6) 1 (t 5), none⟩]) (seq (reg [⟨(some 7), fad (t 1) 1, none⟩, ⟨(some 8), ld (t 7) 2 true, none⟩, ⟨(some 9), callq (c (.fn 194 [])) [t 8], none⟩, ⟨(some 10), fad (t 3) 1, none⟩, ⟨none, st (t 10) 2 (t 9), none⟩]) (seq (reg [⟨(some 11), ld (t 3) 3 true, none⟩, ⟨none, st (t 2) 3 (t 11), none⟩]) (ret)))))
def r_laws_toFlag : List ARes := [.cell 2 3 true]
theorem k_laws_toFlag : acLin Go.Proofs.Tryz.prog 171 1 (inQ [194] []) [] = some (c_laws_toFlag, r_laws_toFlag) := by kernel_rfl
end Go.Proofs.YtlglgcmpeabdnaaGreatDoorAi
end

section
/- Contracts: the pairs of a graph. -/
namespace Go.Proofs.YtlglgcmpeabdnaaGreatDoorAi
open Go Go.RowKit
set_option linter.unusedVariables false
set_option linter.unusedSimpArgs false
set_option maxRecDepth 20000

def prE (e : Int) (j k : Nat) : List Fr := ((List.range k).filter fun (i : Nat) => hasB e i j).map fun (i : Nat) => ⟨(i : Int), (j : Int)⟩
theorem prE_zero (e : Int) (j : Nat) : prE e j 0 = [] := rfl
theorem prE_true {e : Int} {j k : Nat} (h : hasB e k j = true) : prE e j (k + 1) = prE e j k ++ [⟨(k : Int), (j : Int)⟩] := by
  unfold prE; rw [List.range_succ, List.filter_append, List.map_append]; simp [h]
theorem prE_false {e : Int} {j k : Nat} (h : hasB e k j = false) : prE e j (k + 1) = prE e j k := by
  unfold prE; rw [List.range_succ, List.filter_append, List.map_append]; simp [h]
def pairsE (e : Int) : Nat → List Fr
  | 0 => []
  | j + 1 => pairsE e j ++ prE e j j
theorem prE_len (e : Int) (j k : Nat) : (prE e j k).length ≤ k := by
  unfold prE; rw [List.length_map]; exact Nat.le_trans (List.length_filter_le _ _) (by simp)
theorem pairsE_len (e : Int) : ∀ j, (pairsE e j).length ≤ j * j
  | 0 => Nat.le_refl _
  | j + 1 => by
    have h1 := pairsE_len e j
    have h2 := prE_len e j j
    have h3 : (j + 1) * (j + 1) = j * j + j + j + 1 := by rw [Nat.add_mul, Nat.mul_add]; omega
    rw [pairsE, List.length_append, h3]; omega
def lvE (N : Nat) (L : List Fr) : AV := if L = [] then .sl [] true else .ref N 2 0 L.length .full
def obE (L : List Fr) : List (Option (List AV)) := if L = [] then [] else [some (flatA (frsA L))]
theorem lvE_nil (N : Nat) : lvE N [] = .sl [] true := rfl
theorem obE_nil : obE [] = [] := rfl
theorem lvE_cons {N : Nat} {L : List Fr} (h : L ≠ []) : lvE N L = .ref N 2 0 L.length .full := if_neg h
theorem obE_cons {L : List Fr} (h : L ≠ []) : obE L = [some (flatA (frsA L))] := if_neg h
theorem frE_snoc (L : List Fr) (p q : Int) : flatA (frsA L) ++ [.int .i64 p, .int .i64 q] = flatA (frsA (L ++ [⟨p, q⟩])) := by
  rw [flatA_append]; rfl
theorem obE_inj (f : Nat → Nat) (L : List Fr) : injB f (obE L).length = true := by
  by_cases hL : L = []
  · rw [hL]; rfl
  · rw [obE_cons hL]; rfl
theorem lvE_lt (N : Nat) (L : List Fr) : AV.lt ((obE L).length + N) (lvE N L) = true := by
  by_cases hL : L = []
  · rw [hL, lvE_nil]; rfl
  · rw [obE_cons hL, lvE_cons hL]; simp
theorem lvE_lt0 (L : List Fr) : AV.lt (obE L).length (lvE 0 L) = true := lvE_lt 0 L
def pairsR (e : Int) (n : Nat) : AV × List (Option (List AV)) := (lvE 0 (pairsE e n), obE (pairsE e n))
noncomputable def sp_edges : List AV → Option (AV × List (Option (List AV))) := pf (ι := (Nat) × (Int)) (α := AV × List (Option (List AV))) (fun ⟨n, e⟩ => n ≤ 5 ∧ 0 ≤ e ∧ e ≤ 4294967295) (fun ⟨n, e⟩ => [.agg [.int .i64 n, .int .u32 e]]) (fun ⟨n, e⟩ => pairsR e n)
theorem sp_edges_eq (n : Nat) (e : Int) (h : n ≤ 5 ∧ 0 ≤ e ∧ e ≤ 4294967295) : sp_edges [.agg [.int .i64 n, .int .u32 e]] = some (pairsR e n) := by
  unfold sp_edges
  exact pf_eq (ι := (Nat) × (Int)) (α := AV × List (Option (List AV))) (n, e) h (by rintro ⟨n', e'⟩ _ e; simp_all [Int.natCast_inj])
def eoSt (n : Nat) (e : Int) (j : Nat) : St := ⟨tl [(1, .ptr 0 0), (3, lvE 1 (pairsE e j)), (8, .int .i64 n), (9, .int .i64 j)], ⟨some [.int .i64 n, .int .u32 e] :: obE (pairsE e j)⟩⟩
def eiSt (n : Nat) (e : Int) (j : Nat) (i : Nat) : St := ⟨tl [(1, .ptr 0 0), (3, lvE 1 (pairsE e j ++ prE e j i)), (4, .int .i64 j), (8, .int .i64 n), (9, .int .i64 j), (12, .int .i64 j), (13, .int .i64 i)], ⟨some [.int .i64 n, .int .u32 e] :: obE (pairsE e j ++ prE e j i)⟩⟩
theorem n_impl_Graph_edges : QN PP 131 sp_edges := by
  refine QN_pf (fun i h => ?_) fun i h => ?_
  · obtain ⟨n, e⟩ := i; first | rfl | simp
  obtain ⟨n, e⟩ := i
  replace h : n ≤ 5 ∧ 0 ≤ e ∧ e ≤ 4294967295 := h
  show T PP 131 [.agg [.int .i64 n, .int .u32 e]] .nil fun r' A' => r' = ((pairsR e n : AV × List (Option (List AV)))).1 ∧ A' = ⟨((pairsR e n : AV × List (Option (List AV)))).2⟩
  unfold pairsR
  refine H_code (Quiet.q1 q_impl_Graph_has Quiet.nil) hmix k_impl_Graph_edges rfl (fun _ => 1) (by simp [AHeap.n, AHeap.nil]) (by intro b hb; simp [AHeap.n, AHeap.nil] at hb <;> subst hb <;> rfl) (obE_inj _ _) (lvE_lt0 _) ?_
  simp -dsimp -implicitDefEqProofs [c_impl_Graph_edges, r_impl_Graph_edges]
  refine wpLoop_st (eoSt n e) (fun j => j ≤ n) (fun j => n - j) 0 (by omega) (Sub.keep (by simp [eoSt]) (by simp [hsub, eoSt, pairsE, obE_nil]) (by simp [eoSt, pairsE, lvE_nil])) ?_
  intro j hj
  simp -dsimp -implicitDefEqProofs [eoSt]
  refine brW_of (fun h => ?_) (fun h => ?_) <;> simp only [decide_eq_true_eq, decide_eq_false_iff_not] at h
  · have hwx := wrapNat (i := j) (by omega)
    have hul := pairsE_len e j
    have hjj : j * j ≤ 16 := Nat.mul_le_mul (by omega : j ≤ 4) (by omega : j ≤ 4)
    simp -dsimp -implicitDefEqProofs
    refine wpLoop_st (eiSt n e j) (fun i => i ≤ j) (fun i => j - i) 0 (by omega) (Sub.keep (by simp [eiSt, prE_zero]) (by by_cases hL : pairsE e j = [] <;> simp [hsub, eiSt, prE_zero, hL, obE_nil, obE_cons]) (by simp [eiSt, prE_zero, lvE_lt])) ?_
    intro i hi
    have hrl := prE_len e j i
    simp -dsimp -implicitDefEqProofs [eiSt]
    refine brW_of (fun h2 => ?_) (fun h2 => ?_) <;> simp only [decide_eq_true_eq, decide_eq_false_iff_not] at h2
    · have hwi := wrapNat (i := i) (by omega)
      have hb := sp_has_eq n e i j ⟨⟨by omega, by omega⟩, by unfold vx; omega⟩
      cases hv : hasB e i j with
      | true =>
        have e1 := prE_true (e := e) (j := j) (k := i) hv
        have e2 := frE_snoc (pairsE e j ++ prE e j i) i j
        have e4 : pairsE e j ++ prE e j (i + 1) = (pairsE e j ++ prE e j i) ++ [⟨(i : Int), (j : Int)⟩] := by rw [e1, List.append_assoc]
        have hLl : (pairsE e j ++ prE e j i).length ≤ 20 := by rw [List.length_append]; omega
        rw [hv] at hb
        by_cases hL : pairsE e j ++ prE e j i = []
        · rw [hL] at e4
          have l1 : 1 * 17 ≤ mostBytes := by decide
          rw [hL]
          simp -dsimp -implicitDefEqProofs [hb, hwi, lvE_nil, obE_nil, l1]
          exact .mk (i + 1) (by omega) (by omega) (Sub.mk' (fun b => if b = 1 then 2 else b) (by simp) (by intro b hb; simp at hb <;> omega) (by show injB _ (some _ :: obE (pairsE e j ++ prE e j (i + 1))).length = true; rw [e4, obE_cons (by simp)]; rfl) (by simp [hsub, eiSt, e4, obE, flatA_cons]) (by simp [eiSt, e4, lvE, obE, hwi]))
        · generalize hL2 : pairsE e j ++ prE e j (i + 1) = L2 at *
          generalize pairsE e j ++ prE e j i = L at *
          have l1 : (L.length + 1) * 17 ≤ mostBytes := by simp only [mostBytes]; omega
          have l2 : ¬ ((L.length + 1) * 2 ≤ L.length * 2) := by omega
          have l3 : (flatA (frsA L)).take (L.length * 2) = flatA (frsA L) := List.take_of_length_le (by simp)
          have e5 : L2 ≠ [] := by rw [e4]; simp
          simp -dsimp -implicitDefEqProofs [hb, hwi, l1, l2, l3, e2, lvE_cons hL, obE_cons hL]
          exact .mk (i + 1) (by omega) (by omega) (Sub.mk' (fun b => if b = 1 then 3 else b) (by simp) (by intro b hb; simp at hb <;> omega) (by show injB _ (some _ :: obE (pairsE e j ++ prE e j (i + 1))).length = true; rw [hL2, obE_cons e5]; rfl) (by simp [hsub, eiSt, hL2, e4, obE_cons]) (by simp [eiSt, hL2, e4, lvE_cons, obE_cons, hwi]))
      | false =>
        have e1 := prE_false (e := e) (j := j) (k := i) hv
        rw [hv] at hb
        simp -dsimp -implicitDefEqProofs [hb, hwi]
        exact .mk (i + 1) (by omega) (by omega) (Sub.keep (by simp [eiSt]) (by by_cases hL : pairsE e j ++ prE e j i = [] <;> simp [hsub, eiSt, e1, hL, obE_nil, obE_cons]) (by simp [eiSt, e1, hwi, lvE_lt]))
    · obtain rfl : i = j := by omega
      simp -dsimp -implicitDefEqProofs [hwx]
      exact .mk (i + 1) (by omega) (by omega) (Sub.keep (by simp [eoSt]) (by by_cases hL : pairsE e i ++ prE e i i = [] <;> simp [hsub, eoSt, pairsE, hL, obE_nil, obE_cons]) (by simp [eoSt, pairsE, hwx, lvE_lt]))
  · obtain rfl : j = n := by omega
    by_cases hL : pairsE e j = []
    · simp -dsimp -implicitDefEqProofs [hsub, hL, lvE_nil, obE_nil]
    · simp -dsimp -implicitDefEqProofs [hsub, lvE_cons hL, obE_cons hL]
def soSt (n : Nat) (e : Int) (j : Nat) : St := ⟨tl [(1, .ptr 0 0), (3, lvE 1 (pairsE e (j + 1))), (4, .int .i64 ((j : Int) + 1))], ⟨some [.int .i64 n, .int .u32 e] :: obE (pairsE e (j + 1))⟩⟩
def siSt (n : Nat) (e : Int) (j : Nat) (i : Nat) : St := ⟨tl [(1, .ptr 0 0), (3, lvE 1 (pairsE e (j + 1) ++ prE e (j + 1) i)), (4, .int .i64 ((j : Int) + 1)), (5, .int .i64 i)], ⟨some [.int .i64 n, .int .u32 e] :: obE (pairsE e (j + 1) ++ prE e (j + 1) i)⟩⟩
theorem n_spec_l01Pairs : QN PP 120 sp_edges := by
  refine QN_pf (fun i h => ?_) fun i h => ?_
  · obtain ⟨n, e⟩ := i; first | rfl | simp
  obtain ⟨n, e⟩ := i
  replace h : n ≤ 5 ∧ 0 ≤ e ∧ e ≤ 4294967295 := h
  show T PP 120 [.agg [.int .i64 n, .int .u32 e]] .nil fun r' A' => r' = ((pairsR e n : AV × List (Option (List AV)))).1 ∧ A' = ⟨((pairsR e n : AV × List (Option (List AV)))).2⟩
  unfold pairsR
  refine H_code (Quiet.q1 q_spec_l01Joined Quiet.nil) hmix k_spec_l01Pairs rfl (fun _ => 1) (by simp [AHeap.n, AHeap.nil]) (by intro b hb; simp [AHeap.n, AHeap.nil] at hb <;> subst hb <;> rfl) (obE_inj _ _) (lvE_lt0 _) ?_
  have p1 : pairsE e 1 = [] := rfl
  simp -dsimp -implicitDefEqProofs [c_spec_l01Pairs, r_spec_l01Pairs]
  refine wpLoop_st (soSt n e) (fun j => j = 0 ∨ j + 1 ≤ n) (fun j => n - j) 0 (.inl rfl) (Sub.keep (by simp [soSt]) (by simp [hsub, soSt, p1, obE_nil]) (by simp [soSt, p1, lvE_nil])) ?_
  intro j hj
  simp -dsimp -implicitDefEqProofs [soSt]
  refine brW_of (fun h => ?_) (fun h => ?_) <;> simp only [decide_eq_true_eq, decide_eq_false_iff_not] at h
  · have hwx : IntKind.wrap .i64 ((j : Int) + 1 + 1) = (j : Int) + 1 + 1 := wrapI64 (by omega) (by omega)
    have hul := pairsE_len e (j + 1)
    have hjj : (j + 1) * (j + 1) ≤ 16 := Nat.mul_le_mul (by omega : j + 1 ≤ 4) (by omega : j + 1 ≤ 4)
    simp -dsimp -implicitDefEqProofs
    refine wpLoop_st (siSt n e j) (fun i => i ≤ j + 1) (fun i => j + 1 - i) 0 (by omega) (Sub.keep (by simp [siSt, prE_zero]) (by by_cases hL : pairsE e (j + 1) = [] <;> simp [hsub, siSt, prE_zero, hL, obE_nil, obE_cons]) (by simp [siSt, prE_zero, lvE_lt])) ?_
    intro i hi
    have hrl := prE_len e (j + 1) i
    simp -dsimp -implicitDefEqProofs [siSt]
    refine brW_of (fun h2 => ?_) (fun h2 => ?_) <;> simp only [decide_eq_true_eq, decide_eq_false_iff_not] at h2
    · have hwi := wrapNat (i := i) (by omega)
      have hb := sp_l01Joined_eq n e i ((j : Int) + 1) ⟨⟨by omega, by omega⟩, ⟨by omega, by omega⟩, by omega, by omega⟩
      have hne : decide ((i : Int) ≠ (j : Int) + 1) = true := decide_eq_true (by omega)
      cases hv : hasB e i ((j + 1 : Nat) : Int) with
      | true =>
        have hv' : joinedB e i ((j : Int) + 1) = true := by unfold joinedB; rw [hne]; exact hv
        have e1 := prE_true (e := e) (j := j + 1) (k := i) hv
        have e2 := frE_snoc (pairsE e (j + 1) ++ prE e (j + 1) i) i ((j : Int) + 1)
        have e4 : pairsE e (j + 1) ++ prE e (j + 1) (i + 1) = (pairsE e (j + 1) ++ prE e (j + 1) i) ++ [⟨(i : Int), (j : Int) + 1⟩] := by rw [e1, List.append_assoc]; rfl
        have hLl : (pairsE e (j + 1) ++ prE e (j + 1) i).length ≤ 20 := by rw [List.length_append]; omega
        rw [hv'] at hb
        by_cases hL : pairsE e (j + 1) ++ prE e (j + 1) i = []
        · rw [hL] at e4
          have l1 : 1 * 17 ≤ mostBytes := by decide
          rw [hL]
          simp -dsimp -implicitDefEqProofs [hb, hwi, lvE_nil, obE_nil, l1]
          exact .mk (i + 1) (by omega) (by omega) (Sub.mk' (fun b => if b = 1 then 2 else b) (by simp) (by intro b hb; simp at hb <;> omega) (by show injB _ (some _ :: obE (pairsE e (j + 1) ++ prE e (j + 1) (i + 1))).length = true; rw [e4, obE_cons (by simp)]; rfl) (by simp [hsub, siSt, e4, obE, flatA_cons]) (by simp [siSt, e4, lvE, obE, hwi]))
        · generalize hL2 : pairsE e (j + 1) ++ prE e (j + 1) (i + 1) = L2 at *
          generalize pairsE e (j + 1) ++ prE e (j + 1) i = L at *
          have l1 : (L.length + 1) * 17 ≤ mostBytes := by simp only [mostBytes]; omega
          have l2 : ¬ ((L.length + 1) * 2 ≤ L.length * 2) := by omega
          have l3 : (flatA (frsA L)).take (L.length * 2) = flatA (frsA L) := List.take_of_length_le (by simp)
          have e5 : L2 ≠ [] := by rw [e4]; simp
          simp -dsimp -implicitDefEqProofs [hb, hwi, l1, l2, l3, e2, lvE_cons hL, obE_cons hL]
          exact .mk (i + 1) (by omega) (by omega) (Sub.mk' (fun b => if b = 1 then 3 else b) (by simp) (by intro b hb; simp at hb <;> omega) (by show injB _ (some _ :: obE (pairsE e (j + 1) ++ prE e (j + 1) (i + 1))).length = true; rw [hL2, obE_cons e5]; rfl) (by simp [hsub, siSt, hL2, e4, obE_cons]) (by simp [siSt, hL2, e4, lvE_cons, obE_cons, hwi]))
      | false =>
        have hv' : joinedB e i ((j : Int) + 1) = false := by unfold joinedB; rw [hne]; exact hv
        have e1 := prE_false (e := e) (j := j + 1) (k := i) hv
        rw [hv'] at hb
        simp -dsimp -implicitDefEqProofs [hb, hwi]
        exact .mk (i + 1) (by omega) (by omega) (Sub.keep (by simp [siSt]) (by by_cases hL : pairsE e (j + 1) ++ prE e (j + 1) i = [] <;> simp [hsub, siSt, e1, hL, obE_nil, obE_cons]) (by simp [siSt, e1, hwi, lvE_lt]))
    · obtain rfl : i = j + 1 := by omega
      have e6 : pairsE e (j + 1) ++ prE e (j + 1) (j + 1) = pairsE e (j + 1 + 1) := rfl
      rw [e6]
      simp -dsimp -implicitDefEqProofs [hwx]
      exact .mk (j + 1) (by omega) (by omega) (Sub.keep (by simp [soSt]) (by by_cases hL : pairsE e (j + 1 + 1) = [] <;> simp [hsub, soSt, hL, obE_nil, obE_cons]) (by simp [soSt, hwx, lvE_lt]))
  · have e7 : pairsE e (j + 1) = pairsE e n := by
      rcases hj with rfl | hj
      · have : n = 0 ∨ n = 1 := by omega
        rcases this with rfl | rfl <;> rfl
      · rw [show j + 1 = n by omega]
    rw [e7]
    by_cases hL : pairsE e n = []
    · simp -dsimp -implicitDefEqProofs [hsub, hL, lvE_nil, obE_nil]
    · simp -dsimp -implicitDefEqProofs [hsub, lvE_cons hL, obE_cons hL]
end Go.Proofs.YtlglgcmpeabdnaaGreatDoorAi
end
