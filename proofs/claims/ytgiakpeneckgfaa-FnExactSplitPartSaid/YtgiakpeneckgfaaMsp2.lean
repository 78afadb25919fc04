/- Contracts, joined. -/
import Derived.Test.YtgiakpeneckgfaaMsp1
import Derived.Test.YtgiakpeneckgfaaAiX
import Derived.Test.YtgiakpeneckgfaaProg
section
/- MADE BY PROGRAM (wip/tools/gen.py): the abstract code of functions. -/
namespace Go.Proofs.YtgiakpeneckgfaaAi
open Go AC AOp Opd
set_option linter.unusedVariables false
set_option maxRecDepth 100000
def c_impl_bit : AC := seq (reg [⟨(some 4), mv (c (.int .u32 0)), none⟩]) (seq (seq (reg [⟨(some 5), mv (t 0), none⟩, ⟨(some 6), mv (t 1), none⟩, ⟨(some 7), bin .gtr (t 5) (t 6), none⟩]) (cond (t 7) (reg [⟨(some 8), mv (t 1), none⟩, ⟨(some 9), mv (t 0), none⟩, ⟨(some 0), mv (t 8), none⟩, ⟨(some 1), mv (t 9), none⟩]) (skip))) (seq (reg [⟨(some 10), mv (t 1), none⟩, ⟨(some 11), callq (c (.fn 67 [])) [t 10], none⟩, ⟨(some 12), mv (t 0), none⟩, ⟨(some 13), bin .add (t 11) (t 12), none⟩, ⟨(some 14), bin .shl (c (.int .u32 1)) (t 13), none⟩, ⟨(some 4), mv (t 14), none⟩]) (ret)))
def r_impl_bit : List ARes := [.tmp 4]
theorem k_impl_bit : acLin Go.Proofs.Try.prog 65 2 (inQ [67] []) [] = some (c_impl_bit, r_impl_bit) := by kernel_rfl
def c_impl_made : AC := seq (reg [⟨(some 4), alloc [.int .i64 0, .int .u32 0], none⟩]) (seq (reg [⟨(some 8), mv (t 0), none⟩, ⟨(some 9), bld [.int .i64 0, .int .u32 0] [(0, 1, t 8)], none⟩, ⟨(some 5), alloc [.int .i64 0, .int .u32 0], none⟩, ⟨none, st (t 5) 2 (t 9), none⟩]) (seq (seq (reg [⟨(some 10), mv (t 0), none⟩, ⟨(some 11), mv (c (.int .i64 0)), none⟩]) (block 0 (loop (seq (reg [⟨(some 12), bin .lss (t 11) (t 10), none⟩]) (seq (cond (t 12) (skip) (exit 0)) (seq (block 1 (seq (reg [⟨(some 13), mv (t 11), none⟩, ⟨(some 6), mv (t 13), none⟩]) (seq (reg [⟨(some 14), mv (t 6), none⟩, ⟨(some 15), mv (c (.int .i64 0)), none⟩]) (block 2 (loop (seq (reg [⟨(some 16), bin .lss (t 15) (t 14), none⟩]) (seq (cond (t 16) (skip) (exit 2)) (seq (block 3 (seq (reg [⟨(some 17), mv (t 15), none⟩, ⟨(some 7), mv (t 17), none⟩]) (seq (reg [⟨(some 18), mv (t 1), none⟩, ⟨(some 19), mv (t 7), none⟩, ⟨(some 20), mv (t 6), none⟩, ⟨(some 21), call (t 18) [t 19, t 20], none⟩]) (cond (t 21) (reg [⟨(some 22), fad (t 5) 1, none⟩, ⟨(some 23), ld (t 22) 1 false, none⟩, ⟨(some 24), mv (t 7), none⟩, ⟨(some 25), mv (t 6), none⟩, ⟨(some 26), callq (c (.fn 65 [])) [t 24, t 25], none⟩, ⟨(some 27), bin .or (t 23) (t 26), none⟩, ⟨(some 28), fad (t 5) 1, none⟩, ⟨none, st (t 28) 1 (t 27), none⟩]) (skip))))) (reg [⟨(some 29), bin .add (t 15) (c (.int .i64 1)), none⟩, ⟨(some 15), mv (t 29), none⟩]))))))))) (reg [⟨(some 30), bin .add (t 11) (c (.int .i64 1)), none⟩, ⟨(some 11), mv (t 30), none⟩]))))))) (seq (reg [⟨(some 31), ld (t 5) 2 true, none⟩, ⟨none, st (t 4) 2 (t 31), none⟩]) (ret))))
def r_impl_made : List ARes := [.cell 4 2 true]
theorem k_impl_made : acLin Go.Proofs.Try.prog 56 2 (inQ [65] []) [⟨false, none, [], [], none⟩, ⟨false, none, [], [], none⟩, ⟨false, none, [], [], none⟩, ⟨false, none, [], [], none⟩, ⟨false, none, [], [], none⟩, ⟨false, none, [], [], none⟩, ⟨false, none, [], [], none⟩, ⟨false, none, [], [], none⟩, ⟨false, none, [], [], none⟩, ⟨false, none, [], [], none⟩, ⟨false, none, [], [], none⟩, ⟨false, some [0, 1, 2, 3, 4, 5, 6, 7], [], [], none⟩] = some (c_impl_made, r_impl_made) := by kernel_rfl
def c_laws_markFractionS : AC := seq (reg [⟨(some 4), mv (c (.int .i64 0)), none⟩]) (seq (seq (reg [⟨(some 5), mv (c (.int .i64 0)), none⟩]) (block 0 (loop (seq (seq (reg [⟨(some 6), mv (t 5), none⟩, ⟨(some 7), mv (t 0), none⟩, ⟨(some 8), len (t 7), none⟩, ⟨(some 9), bin .lss (t 6) (t 8), none⟩]) (cond (t 9) (skip) (exit 0))) (seq (block 1 (seq (reg [⟨(some 12), mv (t 0), none⟩, ⟨(some 13), mv (t 5), none⟩, ⟨(some 14), mv (t 1), none⟩, ⟨(some 15), iad 2 (t 12) (t 13), none⟩, ⟨(some 16), fad (t 15) 0, none⟩, ⟨none, st (t 16) 1 (t 14), none⟩]) (seq (reg [⟨(some 17), mv (t 1), none⟩, ⟨(some 18), bin .add (t 17) (c (.int .i64 1)), none⟩, ⟨(some 1), mv (t 18), none⟩]) (seq (reg [⟨(some 19), mv (t 0), none⟩, ⟨(some 20), mv (t 5), none⟩, ⟨(some 21), mv (t 1), none⟩, ⟨(some 22), iad 2 (t 19) (t 20), none⟩, ⟨(some 23), fad (t 22) 1, none⟩, ⟨none, st (t 23) 1 (t 21), none⟩]) (reg [⟨(some 24), mv (t 1), none⟩, ⟨(some 25), bin .add (t 24) (c (.int .i64 1)), none⟩, ⟨(some 1), mv (t 25), none⟩]))))) (reg [⟨(some 10), mv (t 5), none⟩, ⟨(some 11), bin .add (t 10) (c (.int .i64 1)), none⟩, ⟨(some 5), mv (t 11), none⟩])))))) (seq (reg [⟨(some 26), mv (t 1), none⟩, ⟨(some 4), mv (t 26), none⟩]) (ret)))
def r_laws_markFractionS : List ARes := [.tmp 4]
theorem k_laws_markFractionS : acLin Go.Proofs.Try.prog 35 2 (inQ [] []) [] = some (c_laws_markFractionS, r_laws_markFractionS) := by kernel_rfl
def c_laws_heldFractionS : AC := seq (reg [⟨(some 4), mv (c (.int .i64 0)), none⟩]) (seq (seq (reg [⟨(some 5), mv (c (.int .i64 0)), none⟩]) (block 0 (loop (seq (seq (reg [⟨(some 6), mv (t 5), none⟩, ⟨(some 7), mv (t 0), none⟩, ⟨(some 8), len (t 7), none⟩, ⟨(some 9), bin .lss (t 6) (t 8), none⟩]) (cond (t 9) (skip) (exit 0))) (seq (block 1 (seq (seq (reg [⟨(some 12), mv (t 0), none⟩, ⟨(some 13), mv (t 5), none⟩, ⟨(some 14), iad 2 (t 12) (t 13), none⟩, ⟨(some 15), fad (t 14) 0, none⟩, ⟨(some 16), ld (t 15) 1 false, none⟩, ⟨(some 17), mv (t 1), none⟩, ⟨(some 18), bin .neq (t 16) (t 17), none⟩]) (cond (t 18) (seq (reg [⟨(some 4), mv (c (.int .i64 (-1))), none⟩]) (ret)) (skip))) (seq (reg [⟨(some 19), mv (t 1), none⟩, ⟨(some 20), bin .add (t 19) (c (.int .i64 1)), none⟩, ⟨(some 1), mv (t 20), none⟩]) (seq (seq (reg [⟨(some 21), mv (t 0), none⟩, ⟨(some 22), mv (t 5), none⟩, ⟨(some 23), iad 2 (t 21) (t 22), none⟩, ⟨(some 24), fad (t 23) 1, none⟩, ⟨(some 25), ld (t 24) 1 false, none⟩, ⟨(some 26), mv (t 1), none⟩, ⟨(some 27), bin .neq (t 25) (t 26), none⟩]) (cond (t 27) (seq (reg [⟨(some 4), mv (c (.int .i64 (-1))), none⟩]) (ret)) (skip))) (reg [⟨(some 28), mv (t 1), none⟩, ⟨(some 29), bin .add (t 28) (c (.int .i64 1)), none⟩, ⟨(some 1), mv (t 29), none⟩]))))) (reg [⟨(some 10), mv (t 5), none⟩, ⟨(some 11), bin .add (t 10) (c (.int .i64 1)), none⟩, ⟨(some 5), mv (t 11), none⟩])))))) (seq (reg [⟨(some 30), mv (t 1), none⟩, ⟨(some 4), mv (t 30), none⟩]) (ret)))
def r_laws_heldFractionS : List ARes := [.tmp 4]
theorem k_laws_heldFractionS : acLin Go.Proofs.Try.prog 36 2 (inQ [] []) [] = some (c_laws_heldFractionS, r_laws_heldFractionS) := by kernel_rfl
def c_laws_markPattern : AC := seq (reg [⟨(some 2), box 4 (t 0), none⟩, ⟨(some 4), mv (c (.int .i64 0)), none⟩]) (seq (reg [⟨(some 5), fad (t 2) 3, none⟩, ⟨(some 6), ld (t 5) 1 false, none⟩, ⟨(some 7), mv (t 1), none⟩, ⟨(some 8), calle (c (.fn 35 [])) [t 6, t 7] [], none⟩, ⟨(some 1), mv (t 8), none⟩]) (seq (reg [⟨(some 9), mv (t 1), none⟩, ⟨(some 4), mv (t 9), none⟩]) (ret)))
def r_laws_markPattern : List ARes := [.tmp 4]
theorem k_laws_markPattern : acLin Go.Proofs.Try.prog 10 2 (inQ [] [35]) [] = some (c_laws_markPattern, r_laws_markPattern) := by kernel_rfl
def c_laws_heldPattern : AC := seq (reg [⟨(some 2), box 4 (t 0), none⟩, ⟨(some 4), mv (c (.int .i64 0)), none⟩]) (seq (reg [⟨(some 5), fad (t 2) 3, none⟩, ⟨(some 6), ld (t 5) 1 false, none⟩, ⟨(some 7), mv (t 1), none⟩, ⟨(some 8), callq (c (.fn 36 [])) [t 6, t 7], none⟩, ⟨(some 1), mv (t 8), none⟩]) (seq (seq (reg [⟨(some 9), mv (t 1), none⟩, ⟨(some 10), bin .lss (t 9) (c (.int .i64 0)), none⟩]) (cond (t 10) (seq (reg [⟨(some 4), mv (c (.int .i64 (-1))), none⟩]) (ret)) (skip))) (seq (reg [⟨(some 11), mv (t 1), none⟩, ⟨(some 4), mv (t 11), none⟩]) (ret))))
def r_laws_heldPattern : List ARes := [.tmp 4]
theorem k_laws_heldPattern : acLin Go.Proofs.Try.prog 11 2 (inQ [36] []) [] = some (c_laws_heldPattern, r_laws_heldPattern) := by kernel_rfl
end Go.Proofs.YtgiakpeneckgfaaAi
end

section
/- Contracts: products of words; cells over and over; patterns of equal parts. -/
namespace Go.Proofs.YtgiakpeneckgfaaAi
open Go Go.RowKit
set_option linter.unusedVariables false
set_option linter.unusedSimpArgs false
set_option maxRecDepth 20000

theorem mask64n {a : Int} (h0 : 0 ≤ a) (ha : a < 4294967296) : IntKind.u64.wrap ((a % 2 ^ IntKind.u64.bits).toNat &&& 4294967295 % 2 ^ IntKind.u64.bits : Nat) = a := by
  have h := mask64 h0 ha
  rw [BitVec.toNat_and, BitVec.toNat_ofInt, BitVec.toNat_ofInt] at h
  exact h
theorem mask64z : IntKind.u64.wrap ((0 % 2 ^ IntKind.u64.bits : Int).toNat &&& 4294967295 % 2 ^ IntKind.u64.bits : Nat) = 0 := mask64n (by omega) (by omega)
theorem shr64 {a : Int} (h0 : 0 ≤ a) (ha : a < 4294967296) : a.fdiv (2 ^ min 32 IntKind.u64.bits) = 0 := shr0 (n := 32) h0 ha
theorem wrap0 : IntKind.u64.wrap 0 = 0 := rfl
noncomputable def sp_Mul64 : List AV → Option (AV) := pf (ι := (Int) × (Int)) (α := AV) (fun ⟨a, b⟩ => (0 ≤ a ∧ a < 65536) ∧ (0 ≤ b ∧ b < 65536)) (fun ⟨a, b⟩ => [.int .u64 a, .int .u64 b]) (fun ⟨a, b⟩ => .tup [.int .u64 0, .int .u64 (a * b)])
theorem sp_Mul64_eq (a b : Int) (h : (0 ≤ a ∧ a < 65536) ∧ (0 ≤ b ∧ b < 65536)) : sp_Mul64 [.int .u64 a, .int .u64 b] = some (.tup [.int .u64 0, .int .u64 (a * b)]) := by
  unfold sp_Mul64
  exact pf_eq (ι := (Int) × (Int)) (α := AV) (a, b) h (by rintro ⟨a', b'⟩ _ e; simp_all [Int.natCast_inj])
theorem reps_fr (n : Nat) (p q : Int) : rep n [.int .i64 p, .int .i64 q] = flatA (frsA (List.replicate n ⟨p, q⟩)) := news_fr n p q
noncomputable def sp_repeatF : List AV → List AV → Option (AV × List (Option (List AV))) := pb (pf (ι := (Int) × (Int) × (Int)) (α := AV × List (Option (List AV))) (fun ⟨p, q, n⟩ => 1 ≤ n ∧ n < 65536) (fun i => .agg ((fun ⟨p, q, n⟩ => [.int .i64 p, .int .i64 q] : (Int) × (Int) × (Int) → List AV) i) :: (fun ⟨p, q, n⟩ => [.ref 0 2 0 1 .tight, .int .i64 n] : (Int) × (Int) × (Int) → List AV) i) (fun ⟨p, q, n⟩ => (.ref 1 2 0 n.toNat .tight, [some [.int .i64 p, .int .i64 q], some (flatA (frsA (List.replicate n.toNat ⟨p, q⟩)))])))
theorem sp_repeatF_eq (p q n : Int) (h : 1 ≤ n ∧ n < 65536) : sp_repeatF [.int .i64 p, .int .i64 q] [.ref 0 2 0 1 .tight, .int .i64 n] = some (.ref 1 2 0 n.toNat .tight, [some [.int .i64 p, .int .i64 q], some (flatA (frsA (List.replicate n.toNat ⟨p, q⟩)))]) := by
  unfold sp_repeatF pb
  exact pf_eq (ι := (Int) × (Int) × (Int)) (α := AV × List (Option (List AV))) (p, q, n) h (by rintro ⟨p', q', n'⟩ _ e; simp_all [Int.natCast_inj])
theorem low1 {n : Int} (h : 1 ≤ n ∧ n ≤ 4) : lowP 1 n = 1 ∧ lowQ 1 n = n := by
  have h5 : n = 1 ∨ n = 2 ∨ n = 3 ∨ n = 4 := by omega
  rcases h5 with rfl | rfl | rfl | rfl <;> decide
def evenL (n : Int) : List Fr := List.replicate n.toNat ⟨1, n⟩
noncomputable def sp_even : List AV → Option (AV × List (Option (List AV))) := pf (ι := (Int) × (Int) × (Int)) (α := AV × List (Option (List AV))) (fun ⟨n, e, l⟩ => 1 ≤ n ∧ n ≤ 4) (fun ⟨n, e, l⟩ => [.agg [.int .i64 n, .int .u32 e], .int .u32 l]) (fun ⟨n, e, l⟩ => (.agg [.int .i64 n, .int .u32 e, .int .u32 l, .ref 0 2 0 n.toNat .tight], [some (flatA (frsA (evenL n)))]))
theorem sp_even_eq (n e l : Int) (h : 1 ≤ n ∧ n ≤ 4) : sp_even [.agg [.int .i64 n, .int .u32 e], .int .u32 l] = some ((.agg [.int .i64 n, .int .u32 e, .int .u32 l, .ref 0 2 0 n.toNat .tight], [some (flatA (frsA (evenL n)))])) := by
  unfold sp_even
  exact pf_eq (ι := (Int) × (Int) × (Int)) (α := AV × List (Option (List AV))) (n, e, l) h (by rintro ⟨n', e', l'⟩ _ e; simp_all [Int.natCast_inj])
end Go.Proofs.YtgiakpeneckgfaaAi
end

section
/- Contracts: patterns of equal weights. -/
namespace Go.Proofs.YtgiakpeneckgfaaAi
open Go Go.RowKit
set_option linter.unusedVariables false
set_option linter.unusedSimpArgs false
set_option maxRecDepth 20000

def noPat (c : Int) : AV := .tup [.agg [.int .i64 0, .int .u32 0, .int .u32 0, .sl [] true], .int .i64 c]
def evenR (t : Cp) (n e l : Int) : AV × List (Option (List AV)) :=
  if graphOk n e = false then (noPat 1, []) else if loopsOk n l = false then (noPat 2, [])
  else (.tup [.agg [.int .i64 n, .int .u32 e, .int .u32 l, .ref 0 2 0 n.toNat t], .int .i64 0], [some (flatA (frsA (evenL n)))])
theorem loops_n {n l : Int} (h : loopsOk n l = true) : 1 ≤ n ∧ n ≤ 4 := (of_decide_eq_true h).1
noncomputable def sp_evenI : List AV → Option (AV × List (Option (List AV))) := pf (ι := (Int) × (Int) × (Int)) (α := AV × List (Option (List AV))) (fun ⟨n, e, l⟩ => (0 ≤ e ∧ e ≤ 4294967295) ∧ (0 ≤ l ∧ l ≤ 4294967295)) (fun ⟨n, e, l⟩ => [.agg [.int .i64 n, .int .u32 e], .int .u32 l]) (fun ⟨n, e, l⟩ => evenR .tight n e l)
theorem sp_evenI_eq (n e l : Int) (h : (0 ≤ e ∧ e ≤ 4294967295) ∧ (0 ≤ l ∧ l ≤ 4294967295)) : sp_evenI [.agg [.int .i64 n, .int .u32 e], .int .u32 l] = some (evenR .tight n e l) := by
  unfold sp_evenI
  exact pf_eq (ι := (Int) × (Int) × (Int)) (α := AV × List (Option (List AV))) (n, e, l) h (by rintro ⟨n', e', l'⟩ _ e; simp_all [Int.natCast_inj])
noncomputable def sp_evenS : List AV → Option (AV × List (Option (List AV))) := pf (ι := (Int) × (Int) × (Int)) (α := AV × List (Option (List AV))) (fun ⟨n, e, l⟩ => (0 ≤ e ∧ e ≤ 4294967295) ∧ (0 ≤ l ∧ l ≤ 4294967295)) (fun ⟨n, e, l⟩ => [.agg [.int .i64 n, .int .u32 e], .int .u32 l]) (fun ⟨n, e, l⟩ => evenR .full n e l)
theorem sp_evenS_eq (n e l : Int) (h : (0 ≤ e ∧ e ≤ 4294967295) ∧ (0 ≤ l ∧ l ≤ 4294967295)) : sp_evenS [.agg [.int .i64 n, .int .u32 e], .int .u32 l] = some (evenR .full n e l) := by
  unfold sp_evenS
  exact pf_eq (ι := (Int) × (Int) × (Int)) (α := AV × List (Option (List AV))) (n, e, l) h (by rintro ⟨n', e', l'⟩ _ e; simp_all [Int.natCast_inj])
def evSt (n e l : Int) : Nat → St
  | 0 => ⟨tl [(2, .ptr 0 0), (4, .ptr 1 0), (5, .int .i64 0), (6, .ptr 2 0), (7, .int .i64 0)], ⟨[some [.int .i64 n, .int .u32 e], some [.int .i64 0, .int .u32 0, .int .u32 0, .sl [] true], some [.int .i64 n, .int .u32 e, .int .u32 l, .sl [] true]]⟩⟩
  | i + 1 => ⟨tl [(2, .ptr 0 0), (4, .ptr 1 0), (5, .int .i64 0), (6, .ptr 2 0), (7, .int .i64 (i + 1 : Nat))], ⟨[some [.int .i64 n, .int .u32 e], some [.int .i64 0, .int .u32 0, .int .u32 0, .sl [] true], some [.int .i64 n, .int .u32 e, .int .u32 l, .ref 3 2 0 (i + 1) .full], some (flatA (frsA (List.replicate (i + 1) ⟨1, n⟩)))]⟩⟩
theorem reps_snoc (k : Nat) (x : Fr) : flatA (frsA (List.replicate k x)) ++ [.int .i64 x.p, .int .i64 x.q] = flatA (frsA (List.replicate (k + 1) x)) := by
  rw [List.replicate_succ', flatA_append]; rfl
end Go.Proofs.YtgiakpeneckgfaaAi
end

section
/- Contracts: marks in patterns. -/
namespace Go.Proofs.YtgiakpeneckgfaaAi
open Go Go.RowKit
set_option linter.unusedVariables false
set_option linter.unusedSimpArgs false
set_option maxRecDepth 20000

def kOk (k : Int) : Prop := 0 ≤ k ∧ k ≤ 1099511627776
noncomputable def sp_markFr : List (Option (List AV)) → List AV → Option (AV × List (Option (List AV))) := pv (pf (ι := (List Fr) × (Int) × (Cp)) (α := AV × List (Option (List AV))) (fun ⟨ps, k, t⟩ => kOk k ∧ ps.length ≤ 1048576) (fun i => .agg (((fun ⟨ps, k, t⟩ => [some (flatA (frsA ps))] : (List Fr) × (Int) × (Cp) → List (Option (List AV))) i).map enO) :: (fun ⟨ps, k, t⟩ => [.ref 0 2 0 ps.length t, .int .i64 k] : (List Fr) × (Int) × (Cp) → List AV) i) (fun ⟨ps, k, t⟩ => (.int .i64 (k + 2 * ps.length), [some (flatA (frsA (marksF ps.length k)))])))
theorem sp_markFr_eq (ps : List Fr) (k : Int) (t : Cp) (h : kOk k ∧ ps.length ≤ 1048576) : sp_markFr [some (flatA (frsA ps))] [.ref 0 2 0 ps.length t, .int .i64 k] = some (.int .i64 (k + 2 * ps.length), [some (flatA (frsA (marksF ps.length k)))]) := by
  unfold sp_markFr pv
  exact pf_eq (ι := (List Fr) × (Int) × (Cp)) (α := AV × List (Option (List AV))) (ps, k, t) h (by rintro ⟨ps', k', t'⟩ _ e; simp_all [enO, Int.natCast_inj])
theorem v_laws_markFractionS : QV PP 35 sp_markFr := by
  refine QV_pf fun i h => ?_
  obtain ⟨ps, k, t⟩ := i
  replace h : kOk k ∧ ps.length ≤ 1048576 := h
  refine H_code Quiet.nil hmix k_laws_markFractionS rfl (fun b => b) (by simp [AHeap.n]) (fun _ _ => rfl) (by rfl) (by first | rfl | simp) ?_
  show wpc _ PP _ c_laws_markFractionS (initSt [.ref 0 2 0 ps.length t, .int .i64 k] ⟨[some (flatA (frsA ps))]⟩) (endH (fun b => b) r_laws_markFractionS (.int .i64 (k + 2 * ps.length)) [some (flatA (frsA (marksF ps.length k)))])
  obtain ⟨hk, hl⟩ := h
  unfold kOk at hk
  simp -dsimp -implicitDefEqProofs [c_laws_markFractionS, r_laws_markFractionS]
  refine wpLoop_st (fun (i : Nat × List Fr) => ⟨tl [(0, .ref 0 2 0 ps.length t), (1, .int .i64 (k + 2 * i.1)), (5, .int .i64 i.1)], ⟨[some (flatA (frsA i.2))]⟩⟩) (fun i => i.1 ≤ ps.length ∧ i.2.length = ps.length ∧ i.2 = (marksF ps.length k).take i.1 ++ ps.drop i.1) (fun i => ps.length - i.1) (0, ps) ⟨by simp, rfl, by simp⟩ (Sub.keep (by simp) (by simp [hsub]) (by simp)) ?_
  rintro ⟨i, L⟩ ⟨h1, h2, h3⟩
  simp only at h1 h2 h3
  simp -dsimp -implicitDefEqProofs
  refine brW_of (fun h => ?_) (fun h => ?_) <;> simp only [decide_eq_true_eq, decide_eq_false_iff_not] at h
  · have hi : i < ps.length := by simpa using h
    have w1 : IntKind.i64.wrap (k + 2 * (i : Int) + 1) = k + 2 * i + 1 := wrapI64 (by omega) (by omega)
    have w2 : IntKind.i64.wrap (k + 2 * (i : Int) + 1 + 1) = k + 2 * i + 1 + 1 := wrapI64 (by omega) (by omega)
    have hw := wrapNat (i := i) (by omega)
    have f1 : i * 2 + 1 ≤ L.length * 2 := by omega
    have f2 : i * 2 + 1 + 1 ≤ L.length * 2 := by omega
    have hs := set_fr L i (k + 2 * i) (k + 2 * i + 1) (by omega)
    simp -dsimp -implicitDefEqProofs [hi, w1, w2, hw, f1, f2, hs]
    refine .mk (i + 1, L.set i ⟨k + 2 * i, k + 2 * i + 1⟩) ⟨by simp only; omega, by simp [h2], ?_⟩ (by simp only; omega) (Sub.keep (by simp) (by simp [hsub]) (by simp [w2, hw]; omega))
    simp only
    rw [h3]
    exact marks_step ps k i hi
  · have hi : i = ps.length := by simp at h; omega
    subst hi
    rw [marks_end] at h3
    subst h3
    simp -dsimp -implicitDefEqProofs [hsub]
noncomputable def sp_markFr0 : List AV → Option (AV) := pf (ι := (Int)) (α := AV) (fun k => True) (fun k => [.sl [] false, .int .i64 k]) (fun k => .int .i64 k)
theorem sp_markFr0_eq (k : Int) : sp_markFr0 [.sl [] false, .int .i64 k] = some (.int .i64 k) := by
  unfold sp_markFr0
  exact pf_eq (ι := (Int)) (α := AV) k trivial (by rintro k' _ e; simp_all [Int.natCast_inj])
attribute [simp] sp_markFr0_eq
theorem q_laws_markFractionS : QP PP 35 sp_markFr0 := by
  refine QP_pf (fun k h => ?_) fun k h => ?_
  · exact ⟨by first | rfl | simp, by first | rfl | simp⟩
  replace h : True := h
  refine P_code Quiet.nil hmix k_laws_markFractionS rfl ?_ ?_
  · first | rfl | simp
  show wpc 0 PP _ c_laws_markFractionS (initSt [.sl [] false, .int .i64 k] .nil) (endP r_laws_markFractionS (.int .i64 k))
  simp -dsimp -implicitDefEqProofs [c_laws_markFractionS, r_laws_markFractionS]
  refine wpLoop_st (fun (_ : Unit) => ⟨tl [(0, .sl [] false), (1, .int .i64 k), (5, .int .i64 0)], ⟨[]⟩⟩) (fun _ => True) (fun _ => 0) () trivial (Sub.keep (by simp) (by simp [hsub]) (by simp)) ?_
  intro _ _
  simp -dsimp -implicitDefEqProofs
theorem e_laws_markFractionS : QE PP 35 (refE (spV sp_markFr) (spR sp_markFr0)) := QE.ref v_laws_markFractionS.toE q_laws_markFractionS.toR
noncomputable def sp_heldFr : List AV → Option (AV) := pf (ι := (Nat) × (Int)) (α := AV) (fun ⟨n, k⟩ => kOk k ∧ n ≤ 1048576) (fun ⟨n, k⟩ => [.sl (frsA (marksF n k)) false, .int .i64 k]) (fun ⟨n, k⟩ => .int .i64 (k + 2 * n))
theorem sp_heldFr_eq (n : Nat) (k : Int) (h : kOk k ∧ n ≤ 1048576) : sp_heldFr [.sl (frsA (marksF n k)) false, .int .i64 k] = some (.int .i64 (k + 2 * n)) := by
  unfold sp_heldFr
  exact pf_eq (ι := (Nat) × (Int)) (α := AV) (n, k) h (by rintro ⟨n', k'⟩ _ e; simp_all [Int.natCast_inj])
theorem q_laws_heldFractionS : QP PP 36 sp_heldFr := by
  refine QP_pf (fun i h => ?_) fun i h => ?_
  · obtain ⟨n, k⟩ := i; exact ⟨by first | rfl | simp, by first | rfl | simp⟩
  obtain ⟨n, k⟩ := i
  replace h : kOk k ∧ n ≤ 1048576 := h
  refine P_code Quiet.nil hmix k_laws_heldFractionS rfl ?_ ?_
  · first | rfl | simp
  show wpc 0 PP _ c_laws_heldFractionS (initSt [.sl (frsA (marksF n k)) false, .int .i64 k] .nil) (endP r_laws_heldFractionS (.int .i64 (k + 2 * n)))
  obtain ⟨hk, hl⟩ := h
  unfold kOk at hk
  simp -dsimp -implicitDefEqProofs [c_laws_heldFractionS, r_laws_heldFractionS]
  refine wpLoop_st (fun (i : Nat) => ⟨tl [(0, .sl (frsA (marksF n k)) false), (1, .int .i64 (k + 2 * i)), (5, .int .i64 i)], ⟨[]⟩⟩) (fun i => i ≤ n) (fun i => n - i) 0 (by omega) (Sub.keep (by simp) (by simp [hsub]) (by simp)) ?_
  intro i hi
  simp -dsimp -implicitDefEqProofs
  refine brW_of (fun h => ?_) (fun h => ?_) <;> simp only [decide_eq_true_eq, decide_eq_false_iff_not] at h
  · have hi : i < n := by simpa using h
    have w1 : IntKind.i64.wrap (k + 2 * (i : Int) + 1) = k + 2 * i + 1 := wrapI64 (by omega) (by omega)
    have w2 : IntKind.i64.wrap (k + 2 * (i : Int) + 1 + 1) = k + 2 * i + 1 + 1 := wrapI64 (by omega) (by omega)
    have hw := wrapNat (i := i) (by omega)
    have hg := marksF_get n k i (by simpa using hi)
    simp -dsimp -implicitDefEqProofs [hi, w1, w2, hw, hg]
    exact .mk (i + 1) (by omega) (by omega) (Sub.keep (by simp) (by simp [hsub]) (by simp [w2, hw]; omega))
  · have hi : i = n := by simp at h; omega
    subst hi
    simp -dsimp -implicitDefEqProofs

noncomputable def sp_markPat : List (Option (List AV)) → List AV → Option (AV × List (Option (List AV))) := pv (pf (ι := (Int) × (Int) × (Int) × (List Fr) × (Int) × (Cp)) (α := AV × List (Option (List AV))) (fun ⟨a, b, c, ps, k, t⟩ => kOk k ∧ ps.length ≤ 1048576) (fun i => .agg (((fun ⟨a, b, c, ps, k, t⟩ => [some (flatA (frsA ps))] : (Int) × (Int) × (Int) × (List Fr) × (Int) × (Cp) → List (Option (List AV))) i).map enO) :: (fun ⟨a, b, c, ps, k, t⟩ => [.agg [.int .i64 a, .int .u32 b, .int .u32 c, .ref 0 2 0 ps.length t], .int .i64 k] : (Int) × (Int) × (Int) × (List Fr) × (Int) × (Cp) → List AV) i) (fun ⟨a, b, c, ps, k, t⟩ => (.int .i64 (k + 2 * ps.length), [some (flatA (frsA (marksF ps.length k)))])))
theorem sp_markPat_eq (a b c : Int) (ps : List Fr) (k : Int) (t : Cp) (h : kOk k ∧ ps.length ≤ 1048576) : sp_markPat [some (flatA (frsA ps))] [.agg [.int .i64 a, .int .u32 b, .int .u32 c, .ref 0 2 0 ps.length t], .int .i64 k] = some (.int .i64 (k + 2 * ps.length), [some (flatA (frsA (marksF ps.length k)))]) := by
  unfold sp_markPat pv
  exact pf_eq (ι := (Int) × (Int) × (Int) × (List Fr) × (Int) × (Cp)) (α := AV × List (Option (List AV))) (a, b, c, ps, k, t) h (by rintro ⟨a', b', c', ps', k', t'⟩ _ e; simp_all [enO, Int.natCast_inj])
theorem v_laws_markPattern : QV PP 10 sp_markPat := by
  refine QV_pf fun i h => ?_
  obtain ⟨a, b, c, ps, k, t⟩ := i
  replace h : kOk k ∧ ps.length ≤ 1048576 := h
  refine H_code (Quiet.e1 e_laws_markFractionS Quiet.nil) hmix k_laws_markPattern rfl (fun b => b) (by simp [AHeap.n]) (fun _ _ => rfl) (by rfl) (by first | rfl | simp) ?_
  show wpc _ PP _ c_laws_markPattern (initSt [.agg [.int .i64 a, .int .u32 b, .int .u32 c, .ref 0 2 0 ps.length t], .int .i64 k] ⟨[some (flatA (frsA ps))]⟩) (endH (fun b => b) r_laws_markPattern (.int .i64 (k + 2 * ps.length)) [some (flatA (frsA (marksF ps.length k)))])
  simp -dsimp -implicitDefEqProofs [c_laws_markPattern, r_laws_markPattern, sp_markFr_eq ps k t h, hsub]
noncomputable def sp_markPat0 : List AV → Option (AV) := pf (ι := (Int) × (Int) × (Int) × (Int)) (α := AV) (fun ⟨a, b, c, k⟩ => True) (fun ⟨a, b, c, k⟩ => [.agg [.int .i64 a, .int .u32 b, .int .u32 c, .sl [] false], .int .i64 k]) (fun ⟨a, b, c, k⟩ => .int .i64 k)
theorem sp_markPat0_eq (a b c k : Int) : sp_markPat0 [.agg [.int .i64 a, .int .u32 b, .int .u32 c, .sl [] false], .int .i64 k] = some (.int .i64 k) := by
  unfold sp_markPat0
  exact pf_eq (ι := (Int) × (Int) × (Int) × (Int)) (α := AV) (a, b, c, k) trivial (by rintro ⟨a', b', c', k'⟩ _ e; simp_all [Int.natCast_inj])
attribute [simp] sp_markPat0_eq
theorem q_laws_markPattern : QP PP 10 sp_markPat0 := by
  refine QP_pf (fun i h => ?_) fun i h => ?_
  · obtain ⟨a, b, c, k⟩ := i; exact ⟨by first | rfl | simp, by first | rfl | simp⟩
  obtain ⟨a, b, c, k⟩ := i
  replace h : True := h
  refine P_code (Quiet.e1 e_laws_markFractionS Quiet.nil) hmix k_laws_markPattern rfl ?_ ?_
  · first | rfl | simp
  show wpc 0 PP _ c_laws_markPattern (initSt [.agg [.int .i64 a, .int .u32 b, .int .u32 c, .sl [] false], .int .i64 k] .nil) (endP r_laws_markPattern (.int .i64 k))
  simp -dsimp -implicitDefEqProofs [c_laws_markPattern, r_laws_markPattern]
theorem e_laws_markPattern : QE PP 10 (refE (spV sp_markPat) (spR sp_markPat0)) := QE.ref v_laws_markPattern.toE q_laws_markPattern.toR
noncomputable def sp_heldPat : List AV → Option (AV) := pf (ι := (Int) × (Int) × (Int) × (Nat) × (Int)) (α := AV) (fun ⟨a, b, c, n, k⟩ => kOk k ∧ n ≤ 1048576) (fun ⟨a, b, c, n, k⟩ => [.agg [.int .i64 a, .int .u32 b, .int .u32 c, .sl (frsA (marksF n k)) false], .int .i64 k]) (fun ⟨a, b, c, n, k⟩ => .int .i64 (k + 2 * n))
theorem sp_heldPat_eq (a b c : Int) (n : Nat) (k : Int) (h : kOk k ∧ n ≤ 1048576) : sp_heldPat [.agg [.int .i64 a, .int .u32 b, .int .u32 c, .sl (frsA (marksF n k)) false], .int .i64 k] = some (.int .i64 (k + 2 * n)) := by
  unfold sp_heldPat
  exact pf_eq (ι := (Int) × (Int) × (Int) × (Nat) × (Int)) (α := AV) (a, b, c, n, k) h (by rintro ⟨a', b', c', n', k'⟩ _ e; simp_all [Int.natCast_inj])
theorem q_laws_heldPattern : QP PP 11 sp_heldPat := by
  refine QP_pf (fun i h => ?_) fun i h => ?_
  · obtain ⟨a, b, c, n, k⟩ := i; exact ⟨by first | rfl | simp, by first | rfl | simp⟩
  obtain ⟨a, b, c, n, k⟩ := i
  replace h : kOk k ∧ n ≤ 1048576 := h
  refine P_code (Quiet.q1 q_laws_heldFractionS Quiet.nil) hmix k_laws_heldPattern rfl ?_ ?_
  · first | rfl | simp
  show wpc 0 PP _ c_laws_heldPattern (initSt [.agg [.int .i64 a, .int .u32 b, .int .u32 c, .sl (frsA (marksF n k)) false], .int .i64 k] .nil) (endP r_laws_heldPattern (.int .i64 (k + 2 * n)))
  have hn : ¬ (k + 2 * (n : Int) < 0) := by unfold kOk at h; omega
  simp -dsimp -implicitDefEqProofs [c_laws_heldPattern, r_laws_heldPattern, sp_heldFr_eq n k h, hn]
end Go.Proofs.YtgiakpeneckgfaaAi
end

section
/- The law of EvenPattern. -/
namespace Go.Proofs.YtgiakpeneckgfaaAi
open Go Go.RowKit
set_option linter.unusedVariables false
set_option linter.unusedSimpArgs false
set_option maxRecDepth 20000

@[simp] theorem evenL_len (n : Int) : (evenL n).length = n.toNat := by simp [evenL]
abbrev tyGraph : Ty := .st [.int .i64, .int .u32]
theorem eqPat_refl (a b c : Int) (ps : List Fr) (h : ps.length ≤ maxLen) : sp_eqPattern [.agg [.int .i64 a, .int .u32 b, .int .u32 c, .sl (frsA ps) false], .agg [.int .i64 a, .int .u32 b, .int .u32 c, .sl (frsA ps) false]] = some (.bool true) := by
  rw [sp_eqPattern_eq a b c ps a b c ps h]; simp
theorem eqPat_nil (a b c : Int) : sp_eqPattern [.agg [.int .i64 a, .int .u32 b, .int .u32 c, .sl [] false], .agg [.int .i64 a, .int .u32 b, .int .u32 c, .sl [] false]] = some (.bool true) := eqPat_refl a b c [] (by simp [maxLen])
theorem heldPat_nil (a b c k : Int) (h : kOk k) : sp_heldPat [.agg [.int .i64 a, .int .u32 b, .int .u32 c, .sl [] false], .int .i64 k] = some (.int .i64 k) := by
  have := sp_heldPat_eq a b c 0 k ⟨h, by omega⟩
  simpa [marksF, mapA] using this
theorem k1_ok : kOk 1 := by unfold kOk; omega
end Go.Proofs.YtgiakpeneckgfaaAi
end

section
/- Lists in order, element by element; going through lists until one is enough. -/
namespace Go.Proofs.YtgiakpeneckgfaaAi
open Go Go.RowKit
set_option linter.unusedVariables false
set_option linter.unusedSimpArgs false

/-- Through a list until one is enough, with a state. -/
def goL {α ι : Type} (en : α → ι → Bool × ι) : List α → ι → Bool × ι
  | [], s => (false, s)
  | x :: r, s => if (en x s).1 = true then (true, (en x s).2) else goL en r (en x s).2
theorem goL_append {α ι : Type} (en : α → ι → Bool × ι) : ∀ (a b : List α) (s : ι), goL en (a ++ b) s = if (goL en a s).1 = true then goL en a s else goL en b (goL en a s).2
  | [], b, s => rfl
  | x :: a, b, s => by
    simp only [List.cons_append, goL]
    split
    · rfl
    · exact goL_append en a b _
theorem goL_one {α ι : Type} (en : α → ι → Bool × ι) (x : α) (s : ι) : goL en [x] s = en x s := by
  simp only [goL]
  split
  · rename_i h; rw [← h]
  · rename_i h
    have : (en x s).1 = false := by simpa using h
    rw [← this]

/-- All lists with so many more elements, of which each next one is right. -/
def dfsL (fit : List Int → Int → Bool) (k : Nat) : Nat → List Int → List (List Int)
  | 0, now => [now]
  | d + 1, now => (List.range k).flatMap fun (x : Nat) => if fit now (x : Int) = true then dfsL fit k d (now ++ [(x : Int)]) else []
theorem flatMap_range_succ {β : Type} (f : Nat → List β) (x : Nat) : (List.range (x + 1)).flatMap f = (List.range x).flatMap f ++ f x := by
  rw [List.range_succ, List.flatMap_append]; simp
/-- What is left behind the first numbers. -/
def restL (fit : List Int → Int → Bool) (k d : Nat) (now : List Int) (x : Nat) : List (List Int) := (List.range' x (k - x)).flatMap fun (y : Nat) => if fit now (y : Int) = true then dfsL fit k d (now ++ [(y : Int)]) else []
theorem restL_zero (fit : List Int → Int → Bool) (k d : Nat) (now : List Int) : restL fit k d now 0 = dfsL fit k (d + 1) now := by
  rw [restL, dfsL, List.range_eq_range', Nat.sub_zero]
theorem restL_step (fit : List Int → Int → Bool) (k d : Nat) (now : List Int) (x : Nat) (h : x < k) : restL fit k d now x = (if fit now (x : Int) = true then dfsL fit k d (now ++ [(x : Int)]) else []) ++ restL fit k d now (x + 1) := by
  unfold restL
  obtain ⟨m, hm⟩ : ∃ m, k - x = m + 1 := ⟨k - x - 1, by omega⟩
  rw [hm, show k - (x + 1) = m by omega, List.range'_succ, List.flatMap_cons]
theorem restL_end (fit : List Int → Int → Bool) (k d : Nat) (now : List Int) : restL fit k d now k = [] := by
  rw [restL, Nat.sub_self]; rfl
theorem dfsL_len {fit : List Int → Int → Bool} {k : Nat} : ∀ {d : Nat} {now l : List Int}, l ∈ dfsL fit k d now → l.length = now.length + d
  | 0, now, l, h => by rw [dfsL, List.mem_singleton] at h; rw [h]; rfl
  | d + 1, now, l, h => by
    rw [dfsL, List.mem_flatMap] at h
    obtain ⟨x, _, hx⟩ := h
    split at hx
    · have := dfsL_len hx; simp at this; omega
    · cases hx
theorem dfsL_range {fit : List Int → Int → Bool} {k : Nat} : ∀ {d : Nat} {now l : List Int}, (∀ x ∈ now, 0 ≤ x ∧ x < k) → l ∈ dfsL fit k d now → ∀ x ∈ l, 0 ≤ x ∧ x < k
  | 0, now, l, hn, h => by rw [dfsL, List.mem_singleton] at h; rw [h]; exact hn
  | d + 1, now, l, hn, h => by
    rw [dfsL, List.mem_flatMap] at h
    obtain ⟨x, hx0, hx⟩ := h
    split at hx
    · refine dfsL_range (fun y hy => ?_) hx
      rw [List.mem_append, List.mem_singleton] at hy
      rcases hy with hy | rfl
      · exact hn y hy
      · have := List.mem_range.1 hx0; omega
    · cases hx
/-- All pairs of a list, as they come: each element fits what is before it. -/
def fitsB (fit : List Int → Int → Bool) : Nat → List Int → Bool
  | 0, _ => true
  | j + 1, l => fitsB fit j l && (match l[j]? with | some x => fit (l.take j) x | none => true)
theorem fitsB_pre (fit : List Int → Int → Bool) : ∀ (j : Nat) (l m : List Int), j ≤ l.length → fitsB fit j (l ++ m) = fitsB fit j l
  | 0, _, _, _ => rfl
  | j + 1, l, m, h => by
    rw [fitsB, fitsB, fitsB_pre fit j l m (by omega), List.getElem?_append_left (by omega), List.take_append_of_le_length (by omega)]
/-- Lists that fit are those among all lists. -/
theorem dfsL_filter (fit : List Int → Int → Bool) (k : Nat) : ∀ (d : Nat) (now : List Int), fitsB fit now.length now = true → dfsL fit k d now = (dfsL (fun _ _ => true) k d now).filter fun l => fitsB fit l.length l
  | 0, now, h => by simp [dfsL, h]
  | d + 1, now, h => by
    rw [dfsL, dfsL, List.filter_flatMap]
    congr 1
    funext x
    simp only [if_true]
    have key : fitsB fit (now.length + 1) (now ++ [(x : Int)]) = fit now x := by
      rw [fitsB, fitsB_pre fit _ now _ (Nat.le_refl _), h]
      simp
    by_cases hf : fit now x = true
    · rw [if_pos hf]
      exact dfsL_filter fit k d _ (by rw [List.length_append]; exact key.trans hf)
    · rw [if_neg hf]
      symm
      rw [List.filter_eq_nil_iff]
      intro l hl hc
      have hpre : ∃ m, l = (now ++ [(x : Int)]) ++ m := by
        clear hc key hf
        generalize now ++ [(x : Int)] = w at hl
        induction d generalizing w with
        | zero => rw [dfsL, List.mem_singleton] at hl; exact ⟨[], by simp [hl]⟩
        | succ d ih =>
          rw [dfsL, List.mem_flatMap] at hl
          obtain ⟨y, _, hy⟩ := hl
          simp only [if_true] at hy
          obtain ⟨m, hm⟩ := ih _ hy
          exact ⟨(y : Int) :: m, by simp [hm]⟩
      obtain ⟨m, rfl⟩ := hpre
      have hmono : ∀ (j i : Nat) (l : List Int), fitsB fit (i + j) l = true → fitsB fit i l = true := by
        intro j
        induction j with
        | zero => intro i l h; exact h
        | succ j ih =>
          intro i l h
          rw [show i + (j + 1) = (i + j) + 1 by omega, fitsB, Bool.and_eq_true] at h
          exact ih i l h.1
      have h2 := hmono ((now ++ [(x : Int)] ++ m).length - (now.length + 1)) (now.length + 1) _ (by
        rw [show now.length + 1 + ((now ++ [(x : Int)] ++ m).length - (now.length + 1)) = (now ++ [(x : Int)] ++ m).length by simp]
        exact hc)
      rw [fitsB_pre fit _ _ _ (by simp), key] at h2
      exact hf h2

/-! ### lists one behind another -/
/-- Each list is followed by the next one, and the last one by none. -/
def chainB (next : List Int → Option (List Int)) : List (List Int) → Bool
  | [] => false
  | [x] => decide (next x = none)
  | x :: y :: r => decide (next x = some y) && chainB next (y :: r)
theorem chainB_get {next : List Int → Option (List Int)} : ∀ {L : List (List Int)}, chainB next L = true → ∀ i x, L[i]? = some x → next x = L[i + 1]?
  | [], h, i, x, e => by simp at e
  | [y], h, i, x, e => by
    cases i with
    | zero => simp at e; subst e; simpa [chainB] using h
    | succ i => simp at e
  | y :: z :: r, h, i, x, e => by
    rw [chainB, Bool.and_eq_true, decide_eq_true_eq] at h
    cases i with
    | zero => simp at e; subst e; simpa using h.1
    | succ i =>
      rw [List.getElem?_cons_succ] at e
      rw [List.getElem?_cons_succ]
      exact chainB_get h.2 i x e
end Go.Proofs.YtgiakpeneckgfaaAi
end

section
/- Contracts: bits of edges; graphs that are made. -/
namespace Go.Proofs.YtgiakpeneckgfaaAi
open Go Go.RowKit
set_option linter.unusedVariables false
set_option linter.unusedSimpArgs false
set_option maxRecDepth 20000
variable {P : Program}

def bitI (i j : Nat) : Nat := if i < j then j * (j - 1) / 2 + i else i * (i - 1) / 2 + j
noncomputable def sp_bit : List AV → Option (AV) := pf (ι := (Int) × (Int)) (α := AV) (fun ⟨i, j⟩ => (0 ≤ i ∧ i ≤ 5) ∧ (0 ≤ j ∧ j ≤ 5)) (fun ⟨i, j⟩ => [.int .i64 i, .int .i64 j]) (fun ⟨i, j⟩ => .int .u32 (2 ^ bitI i.toNat j.toNat))
theorem sp_bit_eq (i j : Int) (h : (0 ≤ i ∧ i ≤ 5) ∧ (0 ≤ j ∧ j ≤ 5)) : sp_bit [.int .i64 i, .int .i64 j] = some (.int .u32 (2 ^ bitI i.toNat j.toNat)) := by
  unfold sp_bit
  exact pf_eq (ι := (Int) × (Int)) (α := AV) (i, j) h (by rintro ⟨i', j'⟩ _ e; simp_all [Int.natCast_inj])
theorem q_impl_bit : QP PP 65 sp_bit := by
  refine QP_pf (fun i h => ?_) fun i h => ?_
  · obtain ⟨i, j⟩ := i; exact ⟨by first | rfl | simp, by first | rfl | simp⟩
  obtain ⟨i, j⟩ := i
  replace h : (0 ≤ i ∧ i ≤ 5) ∧ (0 ≤ j ∧ j ≤ 5) := h
  refine P_code (Quiet.q1 q_impl_pairs Quiet.nil) hmix k_impl_bit rfl ?_ ?_
  · first | rfl | simp
  show wpc 0 PP _ c_impl_bit (initSt [.int .i64 i, .int .i64 j] .nil) (endP r_impl_bit (.int .u32 (2 ^ bitI i.toNat j.toNat)))
  obtain ⟨⟨i0, i1⟩, j0, j1⟩ := h
  have hj : j = 0 ∨ j = 1 ∨ j = 2 ∨ j = 3 ∨ j = 4 ∨ j = 5 := by omega
  have hi : i = 0 ∨ i = 1 ∨ i = 2 ∨ i = 3 ∨ i = 4 ∨ i = 5 := by omega
  rcases hi with rfl | rfl | rfl | rfl | rfl | rfl <;> rcases hj with rfl | rfl | rfl | rfl | rfl | rfl <;> simp -dsimp -implicitDefEqProofs [c_impl_bit, r_impl_bit, sp_pairs_eq, pI0, pI1, pI2, pI3, pI4, pI5, bitI, IntKind.wrap, IntKind.bits, IntKind.signed]
/-! ### a call that sees some objects, of which nothing is known here -/
def ClosedH (os : List (Option (List AV))) : Prop := ∀ b cs, hget os b = some cs → ltL os.length cs = true
theorem hset_pre (os r : List (Option (List AV))) (i : Nat) (x : Option (List AV)) : hset (os ++ r) (os.length + i) x = os ++ hset r i x := by
  induction os with
  | nil => simp
  | cons o os ih =>
    simp only [List.cons_append, List.length_cons, hset]
    rw [if_neg (by omega), show os.length + 1 + i - 1 = os.length + i by omega, ih]
theorem hset_pre0 (os r : List (Option (List AV))) (x : Option (List AV)) : hset (os ++ r) os.length x = os ++ hset r 0 x := hset_pre os r 0 x
theorem hget_pre (os r : List (Option (List AV))) (i : Nat) : hget (os ++ r) (os.length + i) = hget r i := by
  rw [hget_append, if_neg (by omega), show os.length + i - os.length = i by omega]
theorem hget_pre0 (os r : List (Option (List AV))) : hget (os ++ r) os.length = hget r 0 := hget_pre os r 0
theorem hsub_of {f : Nat → Nat} {n : Nat} {A : AHeap} : ∀ {l : List (Option (List AV))} {i : Nat}, (∀ b, b < l.length → f (i + b) < A.n) → (∀ b cs, hget l b = some cs → ltL n cs = true ∧ A (f (i + b)) = some (renL f cs)) → hsub f n A i l
  | [], i, _, _ => trivial
  | none :: r, i, h1, h2 => ⟨by simpa using h1 0 (by simp), hsub_of (fun b hb => by have := h1 (b + 1) (by simp; omega); rwa [show i + (b + 1) = i + 1 + b by omega] at this) (fun b cs hb => by have := h2 (b + 1) cs (by simpa [hget] using hb); rwa [show i + (b + 1) = i + 1 + b by omega] at this)⟩
  | some c :: r, i, h1, h2 => ⟨by simpa using h2 0 c (by simp [hget]), hsub_of (fun b hb => by have := h1 (b + 1) (by simp; omega); rwa [show i + (b + 1) = i + 1 + b by omega] at this) (fun b cs hb => by have := h2 (b + 1) cs (by simpa [hget] using hb); rwa [show i + (b + 1) = i + 1 + b by omega] at this)⟩
theorem hsub_pre {os r : List (Option (List AV))} {m : Nat} (ho : ClosedH os) (hm : os.length ≤ m) : hsub (fun b => b) m ⟨os ++ r⟩ 0 os := by
  refine hsub_of (fun b hb => ?_) fun b cs hb => ?_
  · simp [AHeap.n]; omega
  · have hlt := hget_lt hb
    rw [Nat.zero_add]
    refine ⟨ltL_mono hm _ (ho b cs hb), ?_⟩
    show hget (os ++ r) b = _
    rw [hget_append, if_pos hlt, renL_id, hb]
theorem hsub_append {f : Nat → Nat} {n : Nat} {A : AHeap} : ∀ (l k : List (Option (List AV))) (i : Nat), hsub f n A i l → hsub f n A (i + l.length) k → hsub f n A i (l ++ k)
  | [], k, i, _, h => h
  | none :: r, k, i, h1, h => ⟨h1.1, hsub_append r k (i + 1) h1.2 (by rw [List.length_cons, show i + (r.length + 1) = i + 1 + r.length by omega] at h; exact h)⟩
  | some c :: r, k, i, h1, h => ⟨h1.1, hsub_append r k (i + 1) h1.2 (by rw [List.length_cons, show i + (r.length + 1) = i + 1 + r.length by omega] at h; exact h)⟩
theorem Sub.pre {os r r' : List (Option (List AV))} {t : Nat → AV} {l : List (Nat × AV)} (ho : ClosedH os) (hs : hsub (fun b => b) (os.length + r'.length) ⟨os ++ r⟩ os.length r') (ht : ∀ p ∈ l, p.2.lt (os.length + r'.length) = true ∧ t p.1 = p.2) : Sub os.length ⟨t, ⟨os ++ r⟩⟩ ⟨tl l, ⟨os ++ r'⟩⟩ := by
  have e : (os ++ r').length = os.length + r'.length := by simp
  refine Sub.keep (by simp) ?_ (by rw [e]; exact ht)
  rw [e]
  exact hsub_append _ _ _ (hsub_pre ho (by omega)) (by rw [Nat.zero_add]; exact hs)
theorem View.pre {os r : List (Option (List AV))} (ho : ClosedH os) : View (fun b => b) ⟨os ++ r⟩ ⟨os⟩ := by
  refine ⟨fun b hb => ?_, fun b cs hb => ?_, fun b b' cs cs' _ _ e => e⟩
  · have hb : b < os.length := hb
    simp [AHeap.n]; omega
  · have hlt := hget_lt hb
    refine ⟨ho b cs hb, ?_⟩
    show hget (os ++ r) b = _
    rw [hget_append, if_pos hlt, renL_id]
    exact hb
mutual
theorem ren_same {n : Nat} {g : Nat → Nat} (hg : ∀ b, b < n → g b = b) : ∀ x : AV, x.lt n = true → x.ren g = x
  | .ptr b o, h => by rw [AV.ren, hg b (of_decide_eq_true h)]
  | .ref b e o m t, h => by rw [AV.ren, hg b (of_decide_eq_true h)]
  | .ep x i o, h => by rw [AV.ren, ren_same hg x h]
  | .fn f cs, h => by rw [AV.ren, renL_same hg cs h]
  | .agg cs, h => by rw [AV.ren, renL_same hg cs h]
  | .tup cs, h => by rw [AV.ren, renL_same hg cs h]
  | .bool _, _ | .int _ _, _ | .str _, _ | .sl _ _, _ | .nilp, _ | .nilf, _ | .nili, _ | .iface, _ | .mv _ _, _ | .any, _ => rfl
theorem renL_same {n : Nat} {g : Nat → Nat} (hg : ∀ b, b < n → g b = b) : ∀ cs : List AV, ltL n cs = true → renL g cs = cs
  | [], _ => rfl
  | x :: r, h => by
    simp only [ltL, Bool.and_eq_true] at h
    rw [renL, ren_same hg x h.1, renL_same hg r h.2]
end
theorem upd_pre (g : Nat → Nat) (os r : List (Option (List AV))) (ho : ClosedH os) (hg : ∀ b, b < os.length → g b = b) : upd (fun b => b) g 0 os os (os ++ r) = os ++ r := by
  have key : ∀ (a b : List (Option (List AV))), (∀ i cs, hget b i = some cs → renL g cs = cs) → upd (fun b => b) g a.length b b (a ++ b ++ r) = a ++ b ++ r := by
    intro a b
    induction b generalizing a with
    | nil => intro _; simp [upd]
    | cons o b ih =>
      intro h
      rw [upd]
      have h0 : (if o.isSome = true then hset (a ++ o :: b ++ r) a.length (o.map (renL g)) else a ++ o :: b ++ r) = (a ++ [o]) ++ b ++ r := by
        cases o with
        | none => simp
        | some c =>
          simp only [Option.isSome_some, if_true, Option.map_some, List.append_assoc, List.cons_append]
          rw [hset_pre0, hset, if_pos rfl, h 0 c (by simp [hget])]
          simp
      rw [h0]
      have := ih (a ++ [o]) (fun i cs hi => h (i + 1) cs (by simpa [hget] using hi))
      simp only [List.length_append, List.length_cons, List.length_nil] at this
      rw [this]
      simp
  have := key [] os (fun i cs hi => renL_same hg cs (ho i cs hi))
  simpa using this
/-- A call that sees some objects and leaves them as they are. -/
theorem T.sees {f : FuncId} {args : List AV} {os : List (Option (List AV))} {v : AV} (h : T P f args ⟨os⟩ fun r A' => r = v ∧ A' = ⟨os⟩) (ho : ClosedH os) (ha : ltL os.length args = true) (hv : v.lt 0 = true) (r : List (Option (List AV))) :
    T P f args ⟨os ++ r⟩ fun x A' => x = v ∧ A' = ⟨os ++ r⟩ := by
  have := h.embed (A := ⟨os ++ r⟩) (View.pre ho) ha
  rw [renL_id] at this
  refine this.mono ?_
  rintro x A1 ⟨r', A1', ⟨rfl, rfl⟩, rfl, rfl⟩
  refine ⟨ren_low _ _ hv, AHeap.ext' ?_⟩
  exact upd_pre _ os r ho (fun b hb => by simp [extN, AHeap.n, hb])
end Go.Proofs.YtgiakpeneckgfaaAi
end

section
/- Contracts: graphs that are made. -/
namespace Go.Proofs.YtgiakpeneckgfaaAi
open Go Go.RowKit
set_option linter.unusedVariables false
set_option linter.unusedSimpArgs false
set_option maxRecDepth 20000

def rowE (J : Nat → Nat → Bool) (j : Nat) (e : Nat) : Nat → Nat
  | 0 => e
  | i + 1 => if J i j = true then rowE J j e i ||| 2 ^ bitI i j else rowE J j e i
def madeE (J : Nat → Nat → Bool) : Nat → Nat
  | 0 => 0
  | j + 1 => rowE J j (madeE J j) j
theorem bitI_lt {i j : Nat} (h : i < j) (hj : j < 5) : bitI i j < 10 := by
  unfold bitI
  rw [if_pos h]
  have h5 : j = 1 ∨ j = 2 ∨ j = 3 ∨ j = 4 := by omega
  rcases h5 with rfl | rfl | rfl | rfl <;> omega
theorem rowE_lt {J : Nat → Nat → Bool} {j e : Nat} (he : e < 1024) (hj : j < 5) : ∀ {i : Nat}, i ≤ j → rowE J j e i < 1024
  | 0, _ => he
  | i + 1, hi => by
    have h1 := rowE_lt (J := J) he hj (show i ≤ j by omega)
    rw [rowE]
    split
    · exact Nat.or_lt_two_pow (n := 10) h1 (Nat.pow_lt_pow_right (by omega) (bitI_lt (by omega) hj))
    · exact h1
theorem madeE_lt {J : Nat → Nat → Bool} : ∀ {n : Nat}, n ≤ 5 → madeE J n < 1024
  | 0, _ => by simp [madeE]
  | j + 1, hj => rowE_lt (madeE_lt (by omega)) (by omega) (Nat.le_refl _)

theorem orBit0 {a c : Nat} (ha : a < 1024) (hc : c < 1024) : IntKind.u32.wrap ((a % 2 ^ IntKind.u32.bits ||| ((c : Int) % 2 ^ IntKind.u32.bits).toNat : Nat)) = ((a ||| c : Nat) : Int) := by
  have e1 : a % 2 ^ IntKind.u32.bits = a := Nat.mod_eq_of_lt (by simp only [IntKind.bits]; omega)
  have e2 : ((c : Int) % 2 ^ IntKind.u32.bits).toNat = c := by
    rw [Int.emod_eq_of_lt (by omega) (by simp only [IntKind.bits]; omega)]
    simp
  rw [e1, e2]
  have := Nat.or_lt_two_pow (n := 10) ha hc
  exact wrap32 (by omega) (by omega)
theorem orBit {a b : Nat} (ha : a < 1024) (hb : b < 10) : IntKind.u32.wrap ((a % 2 ^ IntKind.u32.bits ||| ((2 : Int) ^ b % 2 ^ IntKind.u32.bits).toNat : Nat)) = ((a ||| 2 ^ b : Nat) : Int) := by
  have e : (2 : Int) ^ b = ((2 ^ b : Nat) : Int) := by simp
  rw [e]
  exact orBit0 ha (Nat.pow_lt_pow_right (n := 10) (by omega) hb)
theorem injB_id (n : Nat) : injB (fun b => b) n = true := by
  simp only [injB, List.all_eq_true]
  intro i _ j _
  by_cases h : i = j <;> simp [h]
theorem T_made {g : FuncId} {caps : List AV} {os : List (Option (List AV))} (J : Nat → Nat → Bool) (n : Nat) (hn : n ≤ 5) (ho : ClosedH os) (hc : ltL os.length caps = true)
    (hf : ∀ i j, i < j → j < n → T PP g ([.int .i64 i, .int .i64 j] ++ caps) ⟨os⟩ fun r A' => r = .bool (J i j) ∧ A' = ⟨os⟩) :
    T PP 56 [.int .i64 n, .fn g caps] ⟨os⟩ fun r A' => r = .agg [.int .i64 n, .int .u32 (madeE J n)] ∧ A' = ⟨os⟩ := by
  refine H_code (Quiet.q1 q_impl_bit Quiet.nil) hmix k_impl_made rfl (fun b => b) (Nat.le_refl _) (fun _ _ => rfl) (injB_id _) (by rfl) ?_
  show wpc os.length PP _ c_impl_made (initSt [.int .i64 n, .fn g caps] ⟨os⟩) _
  have k1 : ¬ (os.length + 1 < os.length) := by omega
  simp -dsimp -implicitDefEqProofs [c_impl_made, r_impl_made, hset_pre0, hset_pre, k1]
  refine wpLoop_st (fun (j : Nat) => ⟨tl [(0, .int .i64 n), (1, .fn g caps), (4, .ptr os.length 0), (5, .ptr (os.length + 1) 0), (10, .int .i64 n), (11, .int .i64 j)], ⟨os ++ [some [.int .i64 0, .int .u32 0], some [.int .i64 n, .int .u32 (madeE J j)]]⟩⟩) (fun j => j ≤ n) (fun j => n - j) 0 (by omega) (Sub.pre ho (by simp [hsub, k1, madeE]) (by simp [ltL_mono (Nat.le_add_right os.length 2) _ hc])) ?_
  intro j hj
  simp -dsimp -implicitDefEqProofs [hset_pre0, hset_pre, k1]
  refine brW_of (fun h => ?_) (fun h => ?_) <;> simp only [decide_eq_true_eq, decide_eq_false_iff_not] at h
  · have hw := wrapNat (i := j) (by omega)
    simp -dsimp -implicitDefEqProofs [k1, hw]
    refine wpLoop_st (fun (i : Nat) => ⟨tl [(0, .int .i64 n), (1, .fn g caps), (4, .ptr os.length 0), (5, .ptr (os.length + 1) 0), (10, .int .i64 n), (11, .int .i64 j), (6, .int .i64 j), (14, .int .i64 j), (15, .int .i64 i)], ⟨os ++ [some [.int .i64 0, .int .u32 0], some [.int .i64 n, .int .u32 (rowE J j (madeE J j) i)]]⟩⟩) (fun i => i ≤ j) (fun i => j - i) 0 (by omega) (Sub.pre ho (by simp [hsub, k1, rowE]) (by simp [ltL_mono (Nat.le_add_right os.length 2) _ hc])) ?_
    intro i hi
    simp -dsimp -implicitDefEqProofs [k1, hw]
    refine brW_of (fun h => ?_) (fun h => ?_) <;> simp only [decide_eq_true_eq, decide_eq_false_iff_not] at h
    · have hw := wrapNat (i := i) (by omega)
      simp -dsimp -implicitDefEqProofs [k1, hw]
      refine ((hf i j h (by omega)).sees ho (by simpa using hc) rfl _).mono ?_
      rintro r A' ⟨rfl, rfl⟩
      have hb := sp_bit_eq i j (by omega)
      cases hJ : J i j with
      | false =>
        simp -dsimp -implicitDefEqProofs [k1, hw]
        exact .mk (i + 1) (by omega) (by omega) (Sub.pre ho (by simp [hsub, k1, rowE, hJ]) (by simp [hw, ltL_mono (Nat.le_add_right os.length 2) _ hc]))
      | true =>
        simp -dsimp -implicitDefEqProofs [k1, hw, hb, hset_pre0, hset_pre]
        have he := orBit (rowE_lt (J := J) (madeE_lt (J := J) (n := j) (by omega)) (by omega) hi) (bitI_lt h (by omega))
        exact .mk (i + 1) (by omega) (by omega) (Sub.pre ho (by simp [hsub, k1, rowE, hJ, he]) (by simp [hw, ltL_mono (Nat.le_add_right os.length 2) _ hc]))
    · have : i = j := by omega
      subst this
      simp -dsimp -implicitDefEqProofs [k1, hw]
      exact .mk (i + 1) (by omega) (by omega) (Sub.pre ho (by simp [hsub, k1, madeE]) (by simp [hw, ltL_mono (Nat.le_add_right os.length 2) _ hc]))
  · have : j = n := by omega
    subst this
    simp -dsimp -implicitDefEqProofs [hset_pre0, hset_pre, k1, hsub_pre ho]

def yes (i j : Nat) : Bool := true
theorem made_yes : ∀ n : Nat, n ≤ 5 → madeE yes n = 2 ^ (n * (n - 1) / 2) - 1 := by decide
theorem ClosedH.nil : ClosedH [] := fun b cs h => by cases h
end Go.Proofs.YtgiakpeneckgfaaAi
end

section
/- Edges of graphs as bits. -/
namespace Go.Proofs.YtgiakpeneckgfaaAi
open Go Go.RowKit
set_option linter.unusedVariables false
set_option linter.unusedSimpArgs false

theorem or_step (c : Bool) (a b k : Nat) : (if c = true then a ||| 2 ^ b else a).testBit k = (a.testBit k || (c && decide (b = k))) := by
  cases c <;> simp [Nat.testBit_or, Nat.testBit_two_pow]
theorem bitI_c {i j : Nat} : bitI i j = bitI j i := by
  unfold bitI
  by_cases h : i < j
  · rw [if_pos h, if_neg (by omega)]
  · by_cases h2 : j < i
    · rw [if_neg h, if_pos h2]
    · have : i = j := by omega
      subst this; simp
theorem tri_step (j : Nat) : (j + 1) * j / 2 = j * (j - 1) / 2 + j := by
  cases j with
  | zero => rfl
  | succ j =>
    have h : (j + 1 + 1) * (j + 1) = (j + 1) * (j + 1 - 1) + (j + 1) * 2 := by
      rw [← Nat.mul_add, show j + 1 - 1 + 2 = j + 1 + 1 by omega, Nat.mul_comm]
    rw [h, Nat.add_mul_div_right _ _ (by omega)]
theorem tri_mono {i j : Nat} (h : i ≤ j) : i * (i - 1) / 2 ≤ j * (j - 1) / 2 := Nat.div_le_div_right (Nat.mul_le_mul h (by omega))
theorem bitI_inj {i j i' j' : Nat} (h : i < j) (h' : i' < j') (e : bitI i j = bitI i' j') : i = i' ∧ j = j' := by
  unfold bitI at e
  rw [if_pos h, if_pos h'] at e
  have key : ∀ a b : Nat, a < b → a * (a - 1) / 2 + a ≤ b * (b - 1) / 2 := by
    intro a b hab
    have := tri_mono (i := a + 1) (j := b) (by omega)
    rw [show a + 1 - 1 = a by omega, tri_step] at this
    exact this
  rcases Nat.lt_trichotomy j j' with hj | hj | hj
  · have := key j j' hj; omega
  · subst hj; omega
  · have := key j' j hj; omega
theorem rowE_bit (J : Nat → Nat → Bool) (j e k : Nat) : ∀ i, i ≤ j → ((rowE J j e i).testBit k = true ↔ (e.testBit k = true ∨ ∃ a, a < i ∧ J a j = true ∧ bitI a j = k))
  | 0, _ => by simp [rowE]
  | i + 1, h => by
    rw [rowE, or_step, Bool.or_eq_true, rowE_bit J j e k i (by omega), or_assoc]
    simp only [Bool.and_eq_true, decide_eq_true_eq]
    constructor
    · rintro (h1 | ⟨a, h1, h2⟩ | ⟨h1, h2⟩)
      · exact .inl h1
      · exact .inr ⟨a, by omega, h2⟩
      · exact .inr ⟨i, by omega, h1, h2⟩
    · rintro (h1 | ⟨a, h1, h2, h3⟩)
      · exact .inl h1
      · by_cases ha : a = i
        · subst ha; exact .inr (.inr ⟨h2, h3⟩)
        · exact .inr (.inl ⟨a, by omega, h2, h3⟩)
/-- The edges that are made. -/
theorem madeE_bit (J : Nat → Nat → Bool) (k : Nat) : ∀ n, (madeE J n).testBit k = true ↔ ∃ a b, a < b ∧ b < n ∧ J a b = true ∧ bitI a b = k
  | 0 => by simp [madeE]
  | n + 1 => by
    rw [madeE, rowE_bit J n _ k n (Nat.le_refl _), madeE_bit J k n]
    constructor
    · rintro (⟨a, b, h1, h2, h3⟩ | ⟨a, h1, h2⟩)
      · exact ⟨a, b, h1, by omega, h3⟩
      · exact ⟨a, n, h1, by omega, h2⟩
    · rintro ⟨a, b, h1, h2, h3⟩
      by_cases hb : b = n
      · subst hb; exact .inr ⟨a, h1, h3⟩
      · exact .inl ⟨a, b, h1, by omega, h3⟩
theorem madeE_has (J : Nat → Nat → Bool) {n i j : Nat} (h : i < j) (hj : j < n) : (madeE J n).testBit (bitI i j) = J i j := by
  rw [Bool.eq_iff_iff, madeE_bit]
  constructor
  · rintro ⟨a, b, h1, h2, h3, h4⟩
    obtain ⟨rfl, rfl⟩ := bitI_inj h1 h h4
    exact h3
  · intro hJ
    exact ⟨i, j, h, hj, hJ, rfl⟩
/-- Each bit below is one of a pair. -/
theorem bit_pair {n k : Nat} (hk : k < n * (n - 1) / 2) : ∃ a b, a < b ∧ b < n ∧ bitI a b = k := by
  induction n with
  | zero => simp at hk
  | succ n ih =>
    rw [show n + 1 - 1 = n by omega, tri_step] at hk
    by_cases h : k < n * (n - 1) / 2
    · obtain ⟨a, b, h1, h2, h3⟩ := ih h
      exact ⟨a, b, h1, by omega, h3⟩
    · refine ⟨k - n * (n - 1) / 2, n, by omega, by omega, ?_⟩
      unfold bitI
      rw [if_pos (by omega)]
      omega
theorem bitI_tri {a b n : Nat} (h : a < b) (hb : b < n) : bitI a b < n * (n - 1) / 2 := by
  unfold bitI
  rw [if_pos h]
  have := tri_mono (i := b + 1) (j := n) (by omega)
  rw [show b + 1 - 1 = b by omega, tri_step] at this
  omega
theorem edges_ext {n e e' : Nat} (he : e < 2 ^ (n * (n - 1) / 2)) (he' : e' < 2 ^ (n * (n - 1) / 2)) (h : ∀ a b, a < b → b < n → e.testBit (bitI a b) = e'.testBit (bitI a b)) : e = e' := by
  apply Nat.eq_of_testBit_eq
  intro k
  by_cases hk : k < n * (n - 1) / 2
  · obtain ⟨a, b, h1, h2, rfl⟩ := bit_pair hk
    exact h a b h1 h2
  · rw [Nat.testBit_lt_two_pow (Nat.lt_of_lt_of_le he (Nat.pow_le_pow_right (by omega) (by omega))), Nat.testBit_lt_two_pow (Nat.lt_of_lt_of_le he' (Nat.pow_le_pow_right (by omega) (by omega)))]
theorem madeE_tri (J : Nat → Nat → Bool) (n : Nat) : madeE J n < 2 ^ (n * (n - 1) / 2) := by
  apply Nat.lt_of_not_le
  intro h
  obtain ⟨k, hk1, hk2⟩ := Nat.exists_ge_and_testBit_of_ge_two_pow h
  rw [madeE_bit] at hk2
  obtain ⟨a, b, h1, h2, _, h4⟩ := hk2
  have := bitI_tri h1 h2
  omega
theorem xor_made {n e : Nat} (he : e < 2 ^ (n * (n - 1) / 2)) : (2 ^ (n * (n - 1) / 2) - 1) ^^^ e = madeE (fun i j => !e.testBit (bitI i j)) n := by
  refine edges_ext (Nat.xor_lt_two_pow (by have := Nat.two_pow_pos (n * (n - 1) / 2); omega) he) (madeE_tri _ n) fun a b h1 h2 => ?_
  rw [madeE_has _ h1 h2, Nat.testBit_xor, Nat.testBit_two_pow_sub_one]
  simp [bitI_tri h1 h2]
end Go.Proofs.YtgiakpeneckgfaaAi
end

section
/- Contracts of functions that take functions. -/
namespace Go.Proofs.YtgiakpeneckgfaaAi
open Go Go.RowKit
set_option linter.unusedVariables false
set_option linter.unusedSimpArgs false
set_option maxRecDepth 20000
variable {P : Program}

theorem T.of_closed {f : FuncId} {args : List AV} {A : AHeap} {R : AV → AHeap → Prop} (he : Enters P f) (h : ClosedH A.l → ltL A.n args = true → T P f args A R) : T P f args A R := by
  refine ⟨he, fun B w0 σ w vs hG hb hs ha => (h (fun b cs e => ?_) ?_).2 B w0 σ w vs hG hb hs ha⟩
  · obtain ⟨c, cur, t, k1, k2, k3, k4, k5, k6⟩ := hs.own b cs e
    refine ltL_of fun x hx => ?_
    obtain ⟨j, hj⟩ := List.mem_iff_getElem?.1 hx
    obtain ⟨v, _, e2, _⟩ := k6 j x hj
    exact hs.lt_of x v e2
  · refine ltL_of fun x hx => ?_
    obtain ⟨j, hj⟩ := List.mem_iff_getElem?.1 hx
    have hlt : j < vs.length := by rw [← ha.1]; exact (List.getElem?_eq_some_iff.1 hj).1
    exact hs.lt_of x _ (ha.2 j x _ hj (List.getElem?_eq_getElem hlt))

theorem rowE_congr {J J' : Nat → Nat → Bool} {j e : Nat} : ∀ {i : Nat}, (∀ a, a < i → J a j = J' a j) → rowE J j e i = rowE J' j e i
  | 0, _ => rfl
  | i + 1, h => by rw [rowE, rowE, h i (by omega), rowE_congr (fun a ha => h a (by omega))]
theorem madeE_congr {J J' : Nat → Nat → Bool} : ∀ {n : Nat}, (∀ i j, i < j → j < n → J i j = J' i j) → madeE J n = madeE J' n
  | 0, _ => rfl
  | n + 1, h => by rw [madeE, madeE, madeE_congr (fun i j hi hj => h i j hi (by omega)), rowE_congr (fun a ha => h a n ha (by omega))]

def yesOf (sp : List AV → AHeap → Option (AV × AHeap)) (args : List AV) (A : AHeap) : Bool := match sp args A with
  | some (.bool b, _) => b
  | _ => false
open Classical in
noncomputable def spMade (g : FuncId) (sp : List AV → AHeap → Option (AV × AHeap)) : List AV → AHeap → Option (AV × AHeap)
  | [.int .i64 n, .fn g' caps], A => if g' = g ∧ 0 ≤ n ∧ n ≤ 5 ∧ ∀ i j : Nat, i < j → j < n.toNat → sp ([.int .i64 i, .int .i64 j] ++ caps) A = some (.bool (yesOf sp ([.int .i64 i, .int .i64 j] ++ caps) A), A)
      then some (.agg [.int .i64 n, .int .u32 (madeE (fun i j => yesOf sp ([.int .i64 i, .int .i64 j] ++ caps) A) n.toNat)], A) else none
  | _, _ => none
theorem spMade_eq {g : FuncId} {sp : List AV → AHeap → Option (AV × AHeap)} (J : Nat → Nat → Bool) {n : Int} {caps : List AV} {A : AHeap} (hn : 0 ≤ n ∧ n ≤ 5) (h : ∀ i j : Nat, i < j → j < n.toNat → sp ([.int .i64 i, .int .i64 j] ++ caps) A = some (.bool (J i j), A)) :
    spMade g sp [.int .i64 n, .fn g caps] A = some (.agg [.int .i64 n, .int .u32 (madeE J n.toNat)], A) := by
  have hy : ∀ i j : Nat, i < j → j < n.toNat → yesOf sp ([.int .i64 i, .int .i64 j] ++ caps) A = J i j := by
    intro i j hi hj
    unfold yesOf
    rw [h i j hi hj]
  unfold spMade
  dsimp only
  rw [if_pos ⟨rfl, hn.1, hn.2, fun i j hi hj => by rw [hy i j hi hj]; exact h i j hi hj⟩, madeE_congr hy]
theorem QE_made {g : FuncId} {sp : List AV → AHeap → Option (AV × AHeap)} (hg : QE PP g sp) : QE PP 56 (spMade g sp) := by
  intro args A r A1 e
  unfold spMade at e
  split at e
  · rename_i n g' caps
    split at e
    · rename_i hc
      obtain ⟨rfl, h0, h5, hJ⟩ := hc
      injection e with e
      injection e with e1 e2
      subst e1; subst e2
      obtain ⟨m, rfl⟩ := Int.eq_ofNat_of_zero_le h0
      refine T.of_closed (T_made (g := g') (caps := []) (os := []) yes 0 (by omega) ClosedH.nil rfl (fun i j _ hj => absurd hj (Nat.not_lt_zero _))).1 fun ho hl => ?_
      exact T_made (os := A.l) _ m (by omega) ho (by simpa [ltL, AV.lt] using hl) fun i j hi hj => hg _ _ _ _ (hJ i j hi hj)
    · cases e
  · cases e
end Go.Proofs.YtgiakpeneckgfaaAi
end

section
/- Contracts: the graph with all edges. -/
namespace Go.Proofs.YtgiakpeneckgfaaAi
open Go Go.RowKit
set_option linter.unusedVariables false
set_option linter.unusedSimpArgs false
set_option maxRecDepth 20000

theorem tri_pow {n : Int} (h : 0 ≤ n ∧ n ≤ 5) : n = 0 ∨ n = 1 ∨ n = 2 ∨ n = 3 ∨ n = 4 ∨ n = 5 := by omega
def compR (n : Int) : AV := if 0 ≤ n ∧ n ≤ 5 then .tup [.agg [.int .i64 n, .int .u32 (2 ^ (n.toNat * (n.toNat - 1) / 2) - 1 : Nat)], .int .i64 0] else .tup [.agg [.int .i64 0, .int .u32 0], .int .i64 2]
@[simp] theorem compR_lt (n : Int) (k : Nat) : (compR n).lt k = true := by unfold compR; split <;> rfl
noncomputable def sp_CompleteGraph : List AV → Option (AV) := pf (ι := (Int)) (α := AV) (fun n => True) (fun n => [.int .i64 n]) (fun n => compR n)
theorem sp_CompleteGraph_eq (n : Int) : sp_CompleteGraph [.int .i64 n] = some (compR n) := by
  unfold sp_CompleteGraph
  exact pf_eq (ι := (Int)) (α := AV) n trivial (by rintro n' _ e; simp_all [Int.natCast_inj])
attribute [simp] sp_CompleteGraph_eq
end Go.Proofs.YtgiakpeneckgfaaAi
end

section
/- MADE BY PROGRAM (wip/tools/gen.py): the abstract code of functions. -/
namespace Go.Proofs.YtgiakpeneckgfaaAi
open Go AC AOp Opd
set_option linter.unusedVariables false
set_option maxRecDepth 100000
def c_impl_Graph_has : AC := seq (reg [⟨(some 3), box 2 (t 0), none⟩, ⟨(some 6), mv (c (.bool false)), none⟩]) (seq (reg [⟨(some 7), fad (t 3) 1, none⟩, ⟨(some 8), ld (t 7) 1 false, none⟩, ⟨(some 9), mv (t 1), none⟩, ⟨(some 10), mv (t 2), none⟩, ⟨(some 11), callq (c (.fn 65 [])) [t 9, t 10], none⟩, ⟨(some 12), bin .and (t 8) (t 11), none⟩, ⟨(some 13), bin .neq (t 12) (c (.int .u32 0)), none⟩, ⟨(some 6), mv (t 13), none⟩]) (ret))
def r_impl_Graph_has : List ARes := [.tmp 6]
theorem k_impl_Graph_has : acLin Go.Proofs.Try.prog 66 3 (inQ [65] []) [⟨false, none, [], [], none⟩, ⟨false, some [0, 1, 2, 3, 4, 5, 6, 7], [], [], none⟩] = some (c_impl_Graph_has, r_impl_Graph_has) := by kernel_rfl
def c_spec_l07Copy : AC := seq (reg [⟨(some 2), alloc [.int .i64 0, .int .u32 0, .int .u32 0, .sl [] true], none⟩]) (seq (reg [⟨(some 3), mv (t 0), none⟩, ⟨(some 4), nilc (t 3), none⟩, ⟨(some 5), fad (t 4) 0, none⟩, ⟨(some 6), ld (t 5) 2 true, none⟩, ⟨(some 7), mv (t 0), none⟩, ⟨(some 8), nilc (t 7), none⟩, ⟨(some 9), fad (t 8) 2, none⟩, ⟨(some 10), ld (t 9) 1 false, none⟩, ⟨(some 12), mv (t 0), none⟩, ⟨(some 13), nilc (t 12), none⟩, ⟨(some 14), fad (t 13) 3, none⟩, ⟨(some 15), ld (t 14) 1 false, none⟩, ⟨(some 11), bsl 2 0 [.int .i64 0, .int .i64 0] [], none⟩, ⟨(some 16), appc 2 16 (t 11) (t 15), none⟩, ⟨(some 17), bld [.int .i64 0, .int .u32 0, .int .u32 0, .sl [] true] [(0, 2, t 6), (2, 1, t 10), (3, 1, t 16)], none⟩, ⟨none, st (t 2) 4 (t 17), none⟩]) (ret))
def r_spec_l07Copy : List ARes := [.cell 2 4 true]
theorem k_spec_l07Copy : acLin Go.Proofs.Try.prog 18 1 (inQ [] []) [⟨false, none, [], [], none⟩, ⟨false, some [0, 1, 2, 3, 4, 5, 6, 7, 9, 10, 11, 12, 8, 13, 14, 15], [(13, [(c .nilf, 0, false)])], [], none⟩] = some (c_spec_l07Copy, r_spec_l07Copy) := by kernel_rfl
def c_slices_Clone_Simpl_Fraction_impl_Fraction : AC := seq (reg [⟨(some 2), mv (c (.sl [] true)), none⟩]) (seq (seq (reg [⟨(some 3), mv (t 0), none⟩, ⟨(some 4), eqn false (t 3), none⟩]) (cond (t 4) (seq (reg [⟨(some 2), mv (c (.sl [] true)), none⟩]) (ret)) (skip))) (seq (reg [⟨(some 5), bsl 2 0 [.int .i64 0, .int .i64 0] [], none⟩, ⟨(some 6), mv (t 0), none⟩, ⟨(some 7), app 2 16 (t 5) (t 6), none⟩, ⟨(some 2), mv (t 7), none⟩]) (ret)))
def r_slices_Clone_Simpl_Fraction_impl_Fraction : List ARes := [.tmp 2]
theorem k_slices_Clone_Simpl_Fraction_impl_Fraction : acLin Go.Proofs.Try.prog 27 1 (inQ [] []) [] = some (c_slices_Clone_Simpl_Fraction_impl_Fraction, r_slices_Clone_Simpl_Fraction_impl_Fraction) := by kernel_rfl
end Go.Proofs.YtgiakpeneckgfaaAi
end

section
/- Contracts: edges of graphs; opposite graphs; copies of lists. -/
namespace Go.Proofs.YtgiakpeneckgfaaAi
open Go Go.RowKit
set_option linter.unusedVariables false
set_option linter.unusedSimpArgs false
set_option maxRecDepth 20000

theorem andBit0 {a c : Nat} (ha : a < 4294967296) (hc : c < 1024) : IntKind.u32.wrap ((a % 2 ^ IntKind.u32.bits &&& ((c : Int) % 2 ^ IntKind.u32.bits).toNat : Nat)) = ((a &&& c : Nat) : Int) := by
  have e1 : a % 2 ^ IntKind.u32.bits = a := Nat.mod_eq_of_lt (by simp only [IntKind.bits]; omega)
  have e2 : ((c : Int) % 2 ^ IntKind.u32.bits).toNat = c := by
    rw [Int.emod_eq_of_lt (by omega) (by simp only [IntKind.bits]; omega)]
    simp
  rw [e1, e2]
  have : a &&& c ≤ c := Nat.and_le_right
  exact wrap32 (by omega) (by omega)
theorem and_pow (a b : Nat) : a &&& 2 ^ b = if a.testBit b = true then 2 ^ b else 0 := by
  apply Nat.eq_of_testBit_eq
  intro k
  rw [Nat.testBit_and, Nat.testBit_two_pow]
  by_cases h : b = k
  · subst h
    cases a.testBit b <;> simp
  · cases a.testBit b <;> simp [h, Nat.testBit_two_pow]
theorem andBit {a b : Nat} (ha : a < 4294967296) (hb : b < 10) : IntKind.u32.wrap ((a % 2 ^ IntKind.u32.bits &&& ((2 : Int) ^ b % 2 ^ IntKind.u32.bits).toNat : Nat)) = if a.testBit b = true then ((2 ^ b : Nat) : Int) else 0 := by
  have e : (2 : Int) ^ b = ((2 ^ b : Nat) : Int) := by simp
  rw [e, andBit0 ha (Nat.pow_lt_pow_right (n := 10) (by omega) hb), and_pow]
  cases a.testBit b <;> simp
theorem bitI_10 {i j : Nat} (hi : i < 5) (hj : j < 5) (h : i ≠ j) : bitI i j < 10 := by
  rcases Nat.lt_or_gt_of_ne h with h | h
  · exact bitI_lt h hj
  · rw [bitI_c]; exact bitI_lt h hi

def hasB (e i j : Int) : Bool := e.toNat.testBit (bitI i.toNat j.toNat)
def vx (i j : Int) : Prop := (0 ≤ i ∧ i < 5) ∧ (0 ≤ j ∧ j < 5) ∧ i ≠ j
noncomputable def sp_has : List AV → Option (AV) := pf (ι := (Int) × (Int) × (Int) × (Int)) (α := AV) (fun ⟨n, e, i, j⟩ => (0 ≤ e ∧ e ≤ 4294967295) ∧ vx i j) (fun ⟨n, e, i, j⟩ => [.agg [.int .i64 n, .int .u32 e], .int .i64 i, .int .i64 j]) (fun ⟨n, e, i, j⟩ => .bool (hasB e i j))
theorem sp_has_eq (n e i j : Int) (h : (0 ≤ e ∧ e ≤ 4294967295) ∧ vx i j) : sp_has [.agg [.int .i64 n, .int .u32 e], .int .i64 i, .int .i64 j] = some (.bool (hasB e i j)) := by
  unfold sp_has
  exact pf_eq (ι := (Int) × (Int) × (Int) × (Int)) (α := AV) (n, e, i, j) h (by rintro ⟨n', e', i', j'⟩ _ e; simp_all [Int.natCast_inj])
theorem q_impl_Graph_has : QP PP 66 sp_has := by
  refine QP_pf (fun i h => ?_) fun i h => ?_
  · obtain ⟨n, e, i, j⟩ := i; exact ⟨by first | rfl | simp, by first | rfl | simp⟩
  obtain ⟨n, e, i, j⟩ := i
  replace h : (0 ≤ e ∧ e ≤ 4294967295) ∧ vx i j := h
  refine P_code (Quiet.q1 q_impl_bit Quiet.nil) hmix k_impl_Graph_has rfl ?_ ?_
  · first | rfl | simp
  show wpc 0 PP _ c_impl_Graph_has (initSt [.agg [.int .i64 n, .int .u32 e], .int .i64 i, .int .i64 j] .nil) (endP r_impl_Graph_has (.bool (hasB e i j)))
  obtain ⟨⟨e0, e1⟩, ⟨i0, i1⟩, ⟨j0, j1⟩, hij⟩ := h
  obtain ⟨m, rfl⟩ := Int.eq_ofNat_of_zero_le e0
  have hb := andBit (a := m) (b := bitI i.toNat j.toNat) (by omega) (bitI_10 (by omega) (by omega) (by omega))
  simp -dsimp -implicitDefEqProofs [c_impl_Graph_has, r_impl_Graph_has, sp_bit_eq i j (by omega), hb, hasB]
  have hp : (2 : Int) ^ bitI i.toNat j.toNat ≠ 0 := Int.pow_ne_zero (by omega)
  cases m.testBit (bitI i.toNat j.toNat) <;> simp [hp]

def notE (e : Int) (n : Int) : Nat := madeE (fun i j => !hasB e i j) n.toNat
noncomputable def sp_opp1 : List (Option (List AV)) → List AV → Option (AV × List (Option (List AV))) := pv (pf (ι := (Int) × (Int) × (Int) × (Int)) (α := AV × List (Option (List AV))) (fun ⟨n, e, i, j⟩ => (0 ≤ e ∧ e ≤ 4294967295) ∧ vx i j) (fun i => .agg (((fun ⟨n, e, i, j⟩ => [some [.int .i64 n, .int .u32 e]] : (Int) × (Int) × (Int) × (Int) → List (Option (List AV))) i).map enO) :: (fun ⟨n, e, i, j⟩ => [.int .i64 i, .int .i64 j, .ptr 0 0] : (Int) × (Int) × (Int) × (Int) → List AV) i) (fun ⟨n, e, i, j⟩ => (.bool (!hasB e i j), [some [.int .i64 n, .int .u32 e]])))
theorem sp_opp1_eq (n e i j : Int) (h : (0 ≤ e ∧ e ≤ 4294967295) ∧ vx i j) : sp_opp1 [some [.int .i64 n, .int .u32 e]] [.int .i64 i, .int .i64 j, .ptr 0 0] = some (.bool (!hasB e i j), [some [.int .i64 n, .int .u32 e]]) := by
  unfold sp_opp1 pv
  exact pf_eq (ι := (Int) × (Int) × (Int) × (Int)) (α := AV × List (Option (List AV))) (n, e, i, j) h (by rintro ⟨n', e', i', j'⟩ _ e; simp_all [enO, Int.natCast_inj])
noncomputable def sp_opp : List AV → Option (AV) := pf (ι := (Int) × (Int)) (α := AV) (fun ⟨n, e⟩ => (0 ≤ n ∧ n ≤ 5) ∧ (0 ≤ e ∧ e ≤ 4294967295)) (fun ⟨n, e⟩ => [.agg [.int .i64 n, .int .u32 e]]) (fun ⟨n, e⟩ => .agg [.int .i64 n, .int .u32 (notE e n)])
theorem sp_opp_eq (n e : Int) (h : (0 ≤ n ∧ n ≤ 5) ∧ (0 ≤ e ∧ e ≤ 4294967295)) : sp_opp [.agg [.int .i64 n, .int .u32 e]] = some (.agg [.int .i64 n, .int .u32 (notE e n)]) := by
  unfold sp_opp
  exact pf_eq (ι := (Int) × (Int)) (α := AV) (n, e) h (by rintro ⟨n', e'⟩ _ e; simp_all [Int.natCast_inj])
end Go.Proofs.YtgiakpeneckgfaaAi
end

section
/- MADE BY PROGRAM (wip/tools/gen.py): the abstract code of functions. -/
namespace Go.Proofs.YtgiakpeneckgfaaAi
open Go AC AOp Opd
set_option linter.unusedVariables false
set_option maxRecDepth 100000
def c_impl_Pattern_loop : AC := seq (reg [⟨(some 4), mv (c (.bool false)), none⟩]) (seq (reg [⟨(some 5), mv (t 0), none⟩, ⟨(some 6), nilc (t 5), none⟩, ⟨(some 7), fad (t 6) 2, none⟩, ⟨(some 8), ld (t 7) 1 false, none⟩, ⟨(some 9), mv (t 1), none⟩, ⟨(some 10), bin .shr (t 8) (t 9), none⟩, ⟨(some 11), bin .and (t 10) (c (.int .u32 1)), none⟩, ⟨(some 12), bin .eql (t 11) (c (.int .u32 1)), none⟩, ⟨(some 4), mv (t 12), none⟩]) (ret))
def r_impl_Pattern_loop : List ARes := [.tmp 4]
theorem k_impl_Pattern_loop : acLin Go.Proofs.Try.prog 59 2 (inQ [] []) [] = some (c_impl_Pattern_loop, r_impl_Pattern_loop) := by kernel_rfl
def c_impl_Pattern_joined : AC := seq (reg [⟨(some 6), mv (c (.bool false)), none⟩]) (seq (seq (reg [⟨(some 7), mv (t 1), none⟩, ⟨(some 8), mv (t 2), none⟩, ⟨(some 9), bin .eql (t 7) (t 8), none⟩]) (cond (t 9) (seq (reg [⟨(some 10), mv (t 0), none⟩, ⟨(some 11), mv (t 1), none⟩, ⟨(some 12), calle (c (.fn 59 [])) [t 10, t 11] [], none⟩, ⟨(some 6), mv (t 12), none⟩]) (ret)) (skip))) (seq (reg [⟨(some 13), mv (t 0), none⟩, ⟨(some 14), nilc (t 13), none⟩, ⟨(some 15), fad (t 14) 0, none⟩, ⟨(some 16), ld (t 15) 2 true, none⟩, ⟨(some 17), mv (t 1), none⟩, ⟨(some 18), mv (t 2), none⟩, ⟨(some 19), callq (c (.fn 66 [])) [t 16, t 17, t 18], none⟩, ⟨(some 6), mv (t 19), none⟩]) (ret)))
def r_impl_Pattern_joined : List ARes := [.tmp 6]
theorem k_impl_Pattern_joined : acLin Go.Proofs.Try.prog 58 3 (inQ [66] [59]) [] = some (c_impl_Pattern_joined, r_impl_Pattern_joined) := by kernel_rfl
def c_spec_l01Bit : AC := seq (reg [⟨(some 4), mv (c (.int .u32 0)), none⟩]) (seq (seq (reg [⟨(some 5), mv (t 0), none⟩, ⟨(some 6), mv (t 1), none⟩, ⟨(some 7), bin .gtr (t 5) (t 6), none⟩]) (cond (t 7) (seq (reg [⟨(some 8), mv (t 1), none⟩, ⟨(some 9), mv (t 0), none⟩, ⟨(some 10), callq (c (.fn 20 [])) [t 8, t 9], none⟩, ⟨(some 4), mv (t 10), none⟩]) (ret)) (skip))) (seq (reg [⟨(some 11), mv (t 1), none⟩, ⟨(some 12), callq (c (.fn 48 [])) [t 11], none⟩, ⟨(some 13), mv (t 0), none⟩, ⟨(some 14), bin .add (t 12) (t 13), none⟩, ⟨(some 15), conv .u64 (t 14), none⟩, ⟨(some 16), bin .shl (c (.int .u32 1)) (t 15), none⟩, ⟨(some 4), mv (t 16), none⟩]) (ret)))
def r_spec_l01Bit : List ARes := [.tmp 4]
theorem k_spec_l01Bit : acLin Go.Proofs.Try.prog 20 2 (inQ [20, 48] []) [] = some (c_spec_l01Bit, r_spec_l01Bit) := by kernel_rfl
def c_spec_l01Joined : AC := seq (reg [⟨(some 3), box 2 (t 0), none⟩, ⟨(some 6), mv (c (.bool false)), none⟩]) (seq (reg [⟨(some 7), mv (t 1), none⟩, ⟨(some 8), mv (t 2), none⟩, ⟨(some 9), bin .neq (t 7) (t 8), none⟩, ⟨(some 10), mv (t 9), none⟩, ⟨(some 11), fad (t 3) 1, some (10, true)⟩, ⟨(some 12), ld (t 11) 1 false, some (10, true)⟩, ⟨(some 13), mv (t 1), some (10, true)⟩, ⟨(some 14), mv (t 2), some (10, true)⟩, ⟨(some 15), callq (c (.fn 20 [])) [t 13, t 14], some (10, true)⟩, ⟨(some 16), bin .and (t 12) (t 15), some (10, true)⟩, ⟨(some 17), bin .neq (t 16) (c (.int .u32 0)), some (10, true)⟩, ⟨(some 18), pick (t 10) (t 17) (c (.bool false)), none⟩, ⟨(some 6), mv (t 18), none⟩]) (ret))
def r_spec_l01Joined : List ARes := [.tmp 6]
theorem k_spec_l01Joined : acLin Go.Proofs.Try.prog 47 3 (inQ [20] []) [⟨false, none, [], [], none⟩, ⟨false, some [0, 1, 2, 3, 4, 5, 6, 7, 8, 9, 10, 11, 12], [], [], none⟩] = some (c_spec_l01Joined, r_spec_l01Joined) := by kernel_rfl
def c_spec_l07Joined : AC := seq (reg [⟨(some 6), mv (c (.bool false)), none⟩]) (seq (seq (reg [⟨(some 7), mv (t 1), none⟩, ⟨(some 8), mv (t 2), none⟩, ⟨(some 9), bin .eql (t 7) (t 8), none⟩]) (cond (t 9) (seq (reg [⟨(some 10), mv (t 0), none⟩, ⟨(some 11), nilc (t 10), none⟩, ⟨(some 12), fad (t 11) 2, none⟩, ⟨(some 13), ld (t 12) 1 false, none⟩, ⟨(some 14), mv (t 1), none⟩, ⟨(some 15), conv .u64 (t 14), none⟩, ⟨(some 16), bin .shr (t 13) (t 15), none⟩, ⟨(some 17), bin .and (t 16) (c (.int .u32 1)), none⟩, ⟨(some 18), bin .eql (t 17) (c (.int .u32 1)), none⟩, ⟨(some 6), mv (t 18), none⟩]) (ret)) (skip))) (seq (reg [⟨(some 19), mv (t 0), none⟩, ⟨(some 20), nilc (t 19), none⟩, ⟨(some 21), fad (t 20) 0, none⟩, ⟨(some 22), ld (t 21) 2 true, none⟩, ⟨(some 23), mv (t 1), none⟩, ⟨(some 24), mv (t 2), none⟩, ⟨(some 25), callq (c (.fn 47 [])) [t 22, t 23, t 24], none⟩, ⟨(some 6), mv (t 25), none⟩]) (ret)))
def r_spec_l07Joined : List ARes := [.tmp 6]
theorem k_spec_l07Joined : acLin Go.Proofs.Try.prog 19 3 (inQ [47] []) [] = some (c_spec_l07Joined, r_spec_l07Joined) := by kernel_rfl
end Go.Proofs.YtgiakpeneckgfaaAi
end

section
/- Contracts: joined parts of patterns. (Under way.) -/
namespace Go.Proofs.YtgiakpeneckgfaaAi
open Go Go.RowKit
set_option linter.unusedVariables false
set_option linter.unusedSimpArgs false
set_option maxRecDepth 20000

noncomputable def sp_sizeOk : List AV → Option (AV) := pf (ι := (Int)) (α := AV) (fun n => True) (fun n => [.int .i64 n]) (fun n => .bool (decide (0 ≤ n) && decide (n ≤ 5)))
theorem sp_sizeOk_eq (n : Int) : sp_sizeOk [.int .i64 n] = some (.bool (decide (0 ≤ n) && decide (n ≤ 5))) := by
  unfold sp_sizeOk
  exact pf_eq (ι := (Int)) (α := AV) n trivial (by rintro n' _ e; simp_all [Int.natCast_inj])
attribute [simp] sp_sizeOk_eq
theorem shrBit {l i : Nat} (hl : l < 4294967296) (hi : i < 5) : (IntKind.u32.wrap ((((l : Int).fdiv (2 ^ min i IntKind.u32.bits) % 2 ^ IntKind.u32.bits).toNat &&& 1 % 2 ^ IntKind.u32.bits : Nat)) == 1) = l.testBit i := by
  have e0 : min i IntKind.u32.bits = i := Nat.min_eq_left (by simp only [IntKind.bits]; omega)
  have e1 : (2 : Int) ^ i = ((2 ^ i : Nat) : Int) := by simp
  have hq : l / 2 ^ i ≤ l := Nat.div_le_self _ _
  have e2 : ((l : Int).fdiv (2 ^ i) % 2 ^ IntKind.u32.bits).toNat = l / 2 ^ i := by
    rw [e1]
    generalize 2 ^ i = c at hq
    rw [Int.fdiv_eq_ediv_of_nonneg _ (Int.natCast_nonneg c), ← Int.natCast_ediv]
    generalize l / c = d at hq
    rw [Int.emod_eq_of_lt (by omega) (by simp only [IntKind.bits]; omega)]
    simp
  rw [e0, e2, show (1 : Nat) % 2 ^ IntKind.u32.bits = 1 from rfl, Nat.and_one_is_mod, wrap32 (by omega) (by omega), Nat.testBit_eq_decide_div_mod_eq]
  generalize l / 2 ^ i = d
  rw [Bool.eq_iff_iff, beq_iff_eq, decide_eq_true_eq]
  omega
def loopB (l i : Int) : Bool := l.toNat.testBit i.toNat
noncomputable def sp_loopP : List (Option (List AV)) → List AV → Option (AV × List (Option (List AV))) := pv (pf (ι := (Int) × (Int) × (Int) × (List Fr) × (Int)) (α := AV × List (Option (List AV))) (fun ⟨n, e, l, ps, i⟩ => (0 ≤ l ∧ l ≤ 4294967295) ∧ (0 ≤ i ∧ i < 5)) (fun i => .agg (((fun ⟨n, e, l, ps, i⟩ => [some [.int .i64 n, .int .u32 e, .int .u32 l, .sl (frsA ps) false]] : (Int) × (Int) × (Int) × (List Fr) × (Int) → List (Option (List AV))) i).map enO) :: (fun ⟨n, e, l, ps, i⟩ => [.ptr 0 0, .int .i64 i] : (Int) × (Int) × (Int) × (List Fr) × (Int) → List AV) i) (fun ⟨n, e, l, ps, i⟩ => (.bool (loopB l i), [some [.int .i64 n, .int .u32 e, .int .u32 l, .sl (frsA ps) false]])))
theorem sp_loopP_eq (n e l : Int) (ps : List Fr) (i : Int) (h : (0 ≤ l ∧ l ≤ 4294967295) ∧ (0 ≤ i ∧ i < 5)) : sp_loopP [some [.int .i64 n, .int .u32 e, .int .u32 l, .sl (frsA ps) false]] [.ptr 0 0, .int .i64 i] = some (.bool (loopB l i), [some [.int .i64 n, .int .u32 e, .int .u32 l, .sl (frsA ps) false]]) := by
  unfold sp_loopP pv
  exact pf_eq (ι := (Int) × (Int) × (Int) × (List Fr) × (Int)) (α := AV × List (Option (List AV))) (n, e, l, ps, i) h (by rintro ⟨n', e', l', ps', i'⟩ _ e; simp_all [enO, Int.natCast_inj])
theorem v_impl_Pattern_loop : QV PP 59 sp_loopP := by
  refine QV_pf fun i h => ?_
  obtain ⟨n, e, l, ps, i⟩ := i
  replace h : (0 ≤ l ∧ l ≤ 4294967295) ∧ (0 ≤ i ∧ i < 5) := h
  refine H_code Quiet.nil hmix k_impl_Pattern_loop rfl (fun b => b) (by simp [AHeap.n]) (fun _ _ => rfl) (by rfl) (by first | rfl | simp) ?_
  show wpc _ PP _ c_impl_Pattern_loop (initSt [.ptr 0 0, .int .i64 i] ⟨[some [.int .i64 n, .int .u32 e, .int .u32 l, .sl (frsA ps) false]]⟩) (endH (fun b => b) r_impl_Pattern_loop (.bool (loopB l i)) [some [.int .i64 n, .int .u32 e, .int .u32 l, .sl (frsA ps) false]])
  obtain ⟨⟨l0, l1⟩, i0, i1⟩ := h
  obtain ⟨m, rfl⟩ := Int.eq_ofNat_of_zero_le l0
  have hn : ¬ i < 0 := by omega
  have hb := shrBit (l := m) (i := i.toNat) (by omega) (by omega)
  simp -dsimp -implicitDefEqProofs [c_impl_Pattern_loop, r_impl_Pattern_loop, hn, hb, loopB, hsub]
def joinB (e l i j : Int) : Bool := if i = j then loopB l i else hasB e i j
noncomputable def sp_joinP : List (Option (List AV)) → List AV → Option (AV × List (Option (List AV))) := pv (pf (ι := (Int) × (Int) × (Int) × (List Fr) × (Int) × (Int)) (α := AV × List (Option (List AV))) (fun ⟨n, e, l, ps, i, j⟩ => ((0 ≤ e ∧ e ≤ 4294967295) ∧ (0 ≤ l ∧ l ≤ 4294967295)) ∧ (0 ≤ i ∧ i < 5) ∧ (0 ≤ j ∧ j < 5)) (fun i => .agg (((fun ⟨n, e, l, ps, i, j⟩ => [some [.int .i64 n, .int .u32 e, .int .u32 l, .sl (frsA ps) false]] : (Int) × (Int) × (Int) × (List Fr) × (Int) × (Int) → List (Option (List AV))) i).map enO) :: (fun ⟨n, e, l, ps, i, j⟩ => [.ptr 0 0, .int .i64 i, .int .i64 j] : (Int) × (Int) × (Int) × (List Fr) × (Int) × (Int) → List AV) i) (fun ⟨n, e, l, ps, i, j⟩ => (.bool (joinB e l i j), [some [.int .i64 n, .int .u32 e, .int .u32 l, .sl (frsA ps) false]])))
theorem sp_joinP_eq (n e l : Int) (ps : List Fr) (i j : Int) (h : ((0 ≤ e ∧ e ≤ 4294967295) ∧ (0 ≤ l ∧ l ≤ 4294967295)) ∧ (0 ≤ i ∧ i < 5) ∧ (0 ≤ j ∧ j < 5)) : sp_joinP [some [.int .i64 n, .int .u32 e, .int .u32 l, .sl (frsA ps) false]] [.ptr 0 0, .int .i64 i, .int .i64 j] = some (.bool (joinB e l i j), [some [.int .i64 n, .int .u32 e, .int .u32 l, .sl (frsA ps) false]]) := by
  unfold sp_joinP pv
  exact pf_eq (ι := (Int) × (Int) × (Int) × (List Fr) × (Int) × (Int)) (α := AV × List (Option (List AV))) (n, e, l, ps, i, j) h (by rintro ⟨n', e', l', ps', i', j'⟩ _ e; simp_all [enO, Int.natCast_inj])
theorem v_impl_Pattern_joined : QV PP 58 sp_joinP := by
  refine QV_pf fun i h => ?_
  obtain ⟨n, e, l, ps, i, j⟩ := i
  replace h : ((0 ≤ e ∧ e ≤ 4294967295) ∧ (0 ≤ l ∧ l ≤ 4294967295)) ∧ (0 ≤ i ∧ i < 5) ∧ (0 ≤ j ∧ j < 5) := h
  refine H_code (Quiet.q1 q_impl_Graph_has (Quiet.e1 v_impl_Pattern_loop.toE Quiet.nil)) hmix k_impl_Pattern_joined rfl (fun b => b) (by simp [AHeap.n]) (fun _ _ => rfl) (by rfl) (by first | rfl | simp) ?_
  show wpc _ PP _ c_impl_Pattern_joined (initSt [.ptr 0 0, .int .i64 i, .int .i64 j] ⟨[some [.int .i64 n, .int .u32 e, .int .u32 l, .sl (frsA ps) false]]⟩) (endH (fun b => b) r_impl_Pattern_joined (.bool (joinB e l i j)) [some [.int .i64 n, .int .u32 e, .int .u32 l, .sl (frsA ps) false]])
  by_cases hij : i = j
  · subst hij
    simp -dsimp -implicitDefEqProofs [c_impl_Pattern_joined, r_impl_Pattern_joined, sp_loopP_eq n e l ps i ⟨h.1.2, h.2.1⟩, joinB, hsub]
  · have hb : (i == j) = false := by simpa using hij
    simp -dsimp -implicitDefEqProofs [c_impl_Pattern_joined, r_impl_Pattern_joined, hb, hij, sp_has_eq n e i j ⟨h.1.1, h.2.1, h.2.2, hij⟩, joinB, hsub]
end Go.Proofs.YtgiakpeneckgfaaAi
end

section
/- Contracts: joined vertices, as the reference has them. (Under way.) -/
namespace Go.Proofs.YtgiakpeneckgfaaAi
open Go Go.RowKit
set_option linter.unusedVariables false
set_option linter.unusedSimpArgs false
set_option maxRecDepth 20000

/-- A contract that says nothing: for a call that does not come. -/
theorem QP.none (P : Program) (f : FuncId) : QP P f (fun _ => Option.none) := fun _ _ h => by cases h
noncomputable def sp_bitLe : List AV → Option (AV) := pf (ι := (Int) × (Int)) (α := AV) (fun ⟨i, j⟩ => (0 ≤ i ∧ i ≤ 5) ∧ (0 ≤ j ∧ j ≤ 5) ∧ i ≤ j) (fun ⟨i, j⟩ => [.int .i64 i, .int .i64 j]) (fun ⟨i, j⟩ => .int .u32 (2 ^ bitI i.toNat j.toNat))
theorem sp_bitLe_eq (i j : Int) (h : (0 ≤ i ∧ i ≤ 5) ∧ (0 ≤ j ∧ j ≤ 5) ∧ i ≤ j) : sp_bitLe [.int .i64 i, .int .i64 j] = some (.int .u32 (2 ^ bitI i.toNat j.toNat)) := by
  unfold sp_bitLe
  exact pf_eq (ι := (Int) × (Int)) (α := AV) (i, j) h (by rintro ⟨i', j'⟩ _ e; simp_all [Int.natCast_inj])
theorem q_bitLe : QP PP 20 sp_bitLe := by
  refine QP_pf (fun i h => ?_) fun i h => ?_
  · obtain ⟨i, j⟩ := i; exact ⟨rfl, rfl⟩
  obtain ⟨i, j⟩ := i
  replace h : (0 ≤ i ∧ i ≤ 5) ∧ (0 ≤ j ∧ j ≤ 5) ∧ i ≤ j := h
  refine P_code (Quiet.q1 (QP.none PP 20) (Quiet.q1 q_spec_l01Bits Quiet.nil)) hmix k_spec_l01Bit rfl rfl ?_
  obtain ⟨⟨i0, i1⟩, ⟨j0, j1⟩, hij⟩ := h
  have hj : j = 0 ∨ j = 1 ∨ j = 2 ∨ j = 3 ∨ j = 4 ∨ j = 5 := by omega
  have hi : i = 0 ∨ i = 1 ∨ i = 2 ∨ i = 3 ∨ i = 4 ∨ i = 5 := by omega
  rcases hi with rfl | rfl | rfl | rfl | rfl | rfl <;> rcases hj with rfl | rfl | rfl | rfl | rfl | rfl <;> first | (exfalso; omega) | simp -dsimp -implicitDefEqProofs [c_spec_l01Bit, r_spec_l01Bit, sp_pairs_eq, pI0, pI1, pI2, pI3, pI4, pI5, bitI, IntKind.wrap, IntKind.bits, IntKind.signed]
theorem q_spec_l01Bit : QP PP 20 sp_bit := by
  refine QP_pf (fun i h => ?_) fun i h => ?_
  · obtain ⟨i, j⟩ := i; exact ⟨rfl, rfl⟩
  obtain ⟨i, j⟩ := i
  replace h : (0 ≤ i ∧ i ≤ 5) ∧ (0 ≤ j ∧ j ≤ 5) := h
  by_cases hij : i ≤ j
  · exact (q_bitLe _ _ (sp_bitLe_eq i j ⟨h.1, h.2, hij⟩)).2
  · refine P_code (Quiet.q1 q_bitLe (Quiet.q1 q_spec_l01Bits Quiet.nil)) hmix k_spec_l01Bit rfl rfl ?_
    have hlt : j < i := by omega
    simp -dsimp -implicitDefEqProofs [c_spec_l01Bit, r_spec_l01Bit, hlt, sp_bitLe_eq j i ⟨h.2, h.1, by omega⟩, bitI_c (i := j.toNat) (j := i.toNat)]
def joinedB (e i j : Int) : Bool := decide (i ≠ j) && hasB e i j
noncomputable def sp_l01Joined : List AV → Option (AV) := pf (ι := (Int) × (Int) × (Int) × (Int)) (α := AV) (fun ⟨n, e, i, j⟩ => (0 ≤ e ∧ e ≤ 4294967295) ∧ (0 ≤ i ∧ i < 5) ∧ (0 ≤ j ∧ j < 5)) (fun ⟨n, e, i, j⟩ => [.agg [.int .i64 n, .int .u32 e], .int .i64 i, .int .i64 j]) (fun ⟨n, e, i, j⟩ => .bool (joinedB e i j))
theorem sp_l01Joined_eq (n e i j : Int) (h : (0 ≤ e ∧ e ≤ 4294967295) ∧ (0 ≤ i ∧ i < 5) ∧ (0 ≤ j ∧ j < 5)) : sp_l01Joined [.agg [.int .i64 n, .int .u32 e], .int .i64 i, .int .i64 j] = some (.bool (joinedB e i j)) := by
  unfold sp_l01Joined
  exact pf_eq (ι := (Int) × (Int) × (Int) × (Int)) (α := AV) (n, e, i, j) h (by rintro ⟨n', e', i', j'⟩ _ e; simp_all [Int.natCast_inj])
theorem q_spec_l01Joined : QP PP 47 sp_l01Joined := by
  refine QP_pf (fun i h => ?_) fun i h => ?_
  · obtain ⟨n, e, i, j⟩ := i; exact ⟨by first | rfl | simp, by first | rfl | simp⟩
  obtain ⟨n, e, i, j⟩ := i
  replace h : (0 ≤ e ∧ e ≤ 4294967295) ∧ (0 ≤ i ∧ i < 5) ∧ (0 ≤ j ∧ j < 5) := h
  refine P_code (Quiet.q1 q_spec_l01Bit Quiet.nil) hmix k_spec_l01Joined rfl ?_ ?_
  · first | rfl | simp
  show wpc 0 PP _ c_spec_l01Joined (initSt [.agg [.int .i64 n, .int .u32 e], .int .i64 i, .int .i64 j] .nil) (endP r_spec_l01Joined (.bool (joinedB e i j)))
  obtain ⟨⟨e0, e1⟩, ⟨i0, i1⟩, ⟨j0, j1⟩⟩ := h
  by_cases hij : i = j
  · subst hij
    simp -dsimp -implicitDefEqProofs [c_spec_l01Joined, r_spec_l01Joined, joinedB]
  · obtain ⟨m, rfl⟩ := Int.eq_ofNat_of_zero_le e0
    have hb := andBit (a := m) (b := bitI i.toNat j.toNat) (by omega) (bitI_10 (by omega) (by omega) (by omega))
    have hn : (i != j) = true := by simpa using hij
    simp -dsimp -implicitDefEqProofs [c_spec_l01Joined, r_spec_l01Joined, hn, sp_bit_eq i j (by omega), hb, joinedB, hasB, hij]
    have hp : (2 : Int) ^ bitI i.toNat j.toNat ≠ 0 := Int.pow_ne_zero (by omega)
    cases m.testBit (bitI i.toNat j.toNat) <;> simp [hp]
theorem v_spec_l07Joined : QV PP 19 sp_joinP := by
  refine QV_pf fun i h => ?_
  obtain ⟨n, e, l, ps, i, j⟩ := i
  replace h : ((0 ≤ e ∧ e ≤ 4294967295) ∧ (0 ≤ l ∧ l ≤ 4294967295)) ∧ (0 ≤ i ∧ i < 5) ∧ (0 ≤ j ∧ j < 5) := h
  refine H_code (Quiet.q1 q_spec_l01Joined Quiet.nil) hmix k_spec_l07Joined rfl (fun b => b) (by simp [AHeap.n]) (fun _ _ => rfl) (by rfl) (by first | rfl | simp) ?_
  show wpc _ PP _ c_spec_l07Joined (initSt [.ptr 0 0, .int .i64 i, .int .i64 j] ⟨[some [.int .i64 n, .int .u32 e, .int .u32 l, .sl (frsA ps) false]]⟩) (endH (fun b => b) r_spec_l07Joined (.bool (joinB e l i j)) [some [.int .i64 n, .int .u32 e, .int .u32 l, .sl (frsA ps) false]])
  by_cases hij : i = j
  · subst hij
    obtain ⟨⟨he, l0, l1⟩, ⟨i0, i1⟩, _⟩ := h
    obtain ⟨m, rfl⟩ := Int.eq_ofNat_of_zero_le l0
    have hu : IntKind.u64.wrap i = i := wrapU64 (by omega) (by omega)
    have hn : ¬ i < 0 := by omega
    have hb := shrBit (l := m) (i := i.toNat) (by omega) (by omega)
    simp -dsimp -implicitDefEqProofs [c_spec_l07Joined, r_spec_l07Joined, hu, hn, hb, joinB, loopB, hsub]
  · have hb : (i == j) = false := by simpa using hij
    simp -dsimp -implicitDefEqProofs [c_spec_l07Joined, r_spec_l07Joined, hb, hij, sp_l01Joined_eq n e i j ⟨h.1.1, h.2.1, h.2.2⟩, joinedB, joinB, hsub]
end Go.Proofs.YtgiakpeneckgfaaAi
end

section
/- Contracts: opposite patterns. -/
namespace Go.Proofs.YtgiakpeneckgfaaAi
open Go Go.RowKit
set_option linter.unusedVariables false
set_option linter.unusedSimpArgs false
set_option maxRecDepth 20000

theorem xorU {a b : Nat} (ha : a < 4294967296) (hb : b < 4294967296) : IntKind.u32.wrap ((((a : Int) % 2 ^ IntKind.u32.bits).toNat ^^^ ((b : Int) % 2 ^ IntKind.u32.bits).toNat : Nat)) = ((a ^^^ b : Nat) : Int) := by
  have e : ∀ c : Nat, c < 4294967296 → ((c : Int) % 2 ^ IntKind.u32.bits).toNat = c := fun c hc => by
    rw [Int.emod_eq_of_lt (by omega) (by simp only [IntKind.bits]; omega)]
    simp
  rw [e a ha, e b hb]
  have := Nat.xor_lt_two_pow (n := 32) (x := a) (y := b) (by omega) (by omega)
  exact wrap32 (by omega) (by omega)
theorem xorN {a b : Nat} (ha : a < 4294967296) (hb : b < 4294967296) : IntKind.u32.wrap ((a % 2 ^ IntKind.u32.bits ^^^ b % 2 ^ IntKind.u32.bits : Nat)) = ((a ^^^ b : Nat) : Int) := by
  rw [Nat.mod_eq_of_lt (by simp only [IntKind.bits]; omega), Nat.mod_eq_of_lt (by simp only [IntKind.bits]; omega)]
  have := Nat.xor_lt_two_pow (n := 32) (x := a) (y := b) (by omega) (by omega)
  exact wrap32 (by omega) (by omega)
theorem graphOk_lt {n e : Int} (h : graphOk n e = true) (he : 0 ≤ e) : (0 ≤ n ∧ n ≤ 5) ∧ e.toNat < 2 ^ (n.toNat * (n.toNat - 1) / 2) := by
  obtain ⟨hn, hlt⟩ := of_decide_eq_true h
  refine ⟨hn, ?_⟩
  obtain ⟨m, rfl⟩ := Int.eq_ofNat_of_zero_le he
  rcases tri_pow hn with rfl | rfl | rfl | rfl | rfl | rfl <;> simp [pI0, pI1, pI2, pI3, pI4, pI5] at hlt ⊢ <;> omega
def oppG (n e : Int) : AV := if graphOk n e = true then .tup [.agg [.int .i64 n, .int .u32 (notE e n)], .int .i64 0] else .tup [.agg [.int .i64 0, .int .u32 0], .int .i64 1]
@[simp] theorem oppG_lt (n e : Int) (k : Nat) : (oppG n e).lt k = true := by unfold oppG; split <;> rfl
noncomputable def sp_oppG : List AV → Option (AV) := pf (ι := (Int) × (Int)) (α := AV) (fun ⟨n, e⟩ => 0 ≤ e ∧ e ≤ 4294967295) (fun ⟨n, e⟩ => [.agg [.int .i64 n, .int .u32 e]]) (fun ⟨n, e⟩ => oppG n e)
theorem sp_oppG_eq (n e : Int) (h : 0 ≤ e ∧ e ≤ 4294967295) : sp_oppG [.agg [.int .i64 n, .int .u32 e]] = some (oppG n e) := by
  unfold sp_oppG
  exact pf_eq (ι := (Int) × (Int)) (α := AV) (n, e) h (by rintro ⟨n', e'⟩ _ e; simp_all [Int.natCast_inj])
noncomputable def sp_l07Copy : List AV → List AV → Option (AV × List (Option (List AV))) := pb (pf (ι := (Int) × (Int) × (Int) × (List Fr)) (α := AV × List (Option (List AV))) (fun ⟨n, e, l, ps⟩ => ps ≠ [] ∧ ps.length ≤ 1048576) (fun i => .agg ((fun ⟨n, e, l, ps⟩ => [.int .i64 n, .int .u32 e, .int .u32 l, .sl (frsA ps) false] : (Int) × (Int) × (Int) × (List Fr) → List AV) i) :: (fun ⟨n, e, l, ps⟩ => [.ptr 0 0] : (Int) × (Int) × (Int) × (List Fr) → List AV) i) (fun ⟨n, e, l, ps⟩ => (.agg [.int .i64 n, .int .u32 e, .int .u32 l, .ref 1 2 0 ps.length .full], [some [.int .i64 n, .int .u32 e, .int .u32 l, .sl (frsA ps) false], some (flatA (frsA ps))])))
theorem sp_l07Copy_eq (n e l : Int) (ps : List Fr) (h : ps ≠ [] ∧ ps.length ≤ 1048576) : sp_l07Copy [.int .i64 n, .int .u32 e, .int .u32 l, .sl (frsA ps) false] [.ptr 0 0] = some (.agg [.int .i64 n, .int .u32 e, .int .u32 l, .ref 1 2 0 ps.length .full], [some [.int .i64 n, .int .u32 e, .int .u32 l, .sl (frsA ps) false], some (flatA (frsA ps))]) := by
  unfold sp_l07Copy pb
  exact pf_eq (ι := (Int) × (Int) × (Int) × (List Fr)) (α := AV × List (Option (List AV))) (n, e, l, ps) h (by rintro ⟨n', e', l', ps'⟩ _ e; simp_all [Int.natCast_inj])
theorem b_spec_l07Copy : QB PP 18 sp_l07Copy := by
  refine QB_pf (fun i h => ?_) fun i h => ?_
  · obtain ⟨n, e, l, ps⟩ := i; exact ⟨by first | rfl | simp, by first | rfl | simp, by first | simp⟩
  obtain ⟨n, e, l, ps⟩ := i
  replace h : ps ≠ [] ∧ ps.length ≤ 1048576 := h
  refine H_code Quiet.nil hmix k_spec_l07Copy rfl (fun b => if b = 0 then 0 else 3) (by simp [AHeap.n]) (by intro b hb; simp [AHeap.n] at hb; subst hb; rfl) (by rfl) (by first | rfl | simp) ?_
  show wpc 1 PP _ c_spec_l07Copy (initSt [.ptr 0 0] ⟨[some [.int .i64 n, .int .u32 e, .int .u32 l, .sl (frsA ps) false]]⟩) (endH (fun b => if b = 0 then 0 else 3) r_spec_l07Copy (.agg [.int .i64 n, .int .u32 e, .int .u32 l, .ref 1 2 0 ps.length .full]) [some [.int .i64 n, .int .u32 e, .int .u32 l, .sl (frsA ps) false], some (flatA (frsA ps))])
  have hl : ps.length * 17 ≤ mostBytes := by simp only [mostBytes]; omega
  simp -dsimp -implicitDefEqProofs [c_spec_l07Copy, r_spec_l07Copy, h.1, hl, hsub]

noncomputable def sp_cloneFr : List AV → Option (AV × List (Option (List AV))) := pf (ι := (List Fr)) (α := AV × List (Option (List AV))) (fun ps => ps ≠ [] ∧ ps.length ≤ 1048576) (fun ps => [.sl (frsA ps) false]) (fun ps => (.ref 0 2 0 ps.length .full, [some (flatA (frsA ps))]))
theorem sp_cloneFr_eq (ps : List Fr) (h : ps ≠ [] ∧ ps.length ≤ 1048576) : sp_cloneFr [.sl (frsA ps) false] = some ((.ref 0 2 0 ps.length .full, [some (flatA (frsA ps))])) := by
  unfold sp_cloneFr
  exact pf_eq (ι := (List Fr)) (α := AV × List (Option (List AV))) ps h (by rintro ps' _ e; simp_all [Int.natCast_inj])
theorem n_slices_Clone_Simpl_Fraction_impl_Fraction : QN PP 27 sp_cloneFr := by
  refine QN_pf (fun ps h => ?_) fun ps h => ?_
  · first | rfl | simp
  replace h : ps ≠ [] ∧ ps.length ≤ 1048576 := h
  show T PP 27 [.sl (frsA ps) false] .nil fun r' A' => r' = (((.ref 0 2 0 ps.length .full, [some (flatA (frsA ps))]) : AV × List (Option (List AV)))).1 ∧ A' = ⟨(((.ref 0 2 0 ps.length .full, [some (flatA (frsA ps))]) : AV × List (Option (List AV)))).2⟩
  have hl : ps.length * 17 ≤ mostBytes := by simp only [mostBytes]; omega
  refine H_code Quiet.nil hmix k_slices_Clone_Simpl_Fraction_impl_Fraction rfl (fun _ => 1) (by simp [AHeap.n, AHeap.nil]) (by intro b hb; simp [AHeap.n, AHeap.nil] at hb <;> subst hb <;> rfl) (by rfl) (by first | rfl | simp) ?_
  simp -dsimp -implicitDefEqProofs [c_slices_Clone_Simpl_Fraction_impl_Fraction, r_slices_Clone_Simpl_Fraction_impl_Fraction, h.1, hl, hsub]

end Go.Proofs.YtgiakpeneckgfaaAi
end

section
/- Contracts: the pattern of opposite graphs. -/
namespace Go.Proofs.YtgiakpeneckgfaaAi
open Go Go.RowKit
set_option linter.unusedVariables false
set_option linter.unusedSimpArgs false
set_option maxRecDepth 20000

def oppR (n e l : Int) (ps : List Fr) : AV × List (Option (List AV)) :=
  if patOk n e l ps = true then (.tup [.agg [.int .i64 n, .int .u32 (notE e n), .int .u32 (2 ^ n.toNat - 1 - l), .ref 0 2 0 ps.length .full], .int .i64 0], [some (flatA (frsA ps))])
  else (noPat 1, [])
theorem xor_ones {w l : Nat} (h : l < 2 ^ w) : (2 ^ w - 1) ^^^ l = 2 ^ w - 1 - l := by
  have h1 : (BitVec.allOnes w ^^^ BitVec.ofNat w l).toNat = (~~~(BitVec.ofNat w l)).toNat := by rw [BitVec.not_def]
  rw [BitVec.toNat_xor, BitVec.toNat_allOnes, BitVec.toNat_not, BitVec.toNat_ofNat, Nat.mod_eq_of_lt h] at h1
  exact h1
theorem not32 {l : Int} (h0 : 0 ≤ l) (h : l ≤ 4294967295) : IntKind.u32.wrap (((if IntKind.u32.signed = true then -1 else IntKind.u32.max) % 2 ^ IntKind.u32.bits).toNat ^^^ (l % 2 ^ IntKind.u32.bits).toNat : Nat) = 4294967295 - l := by
  obtain ⟨m, rfl⟩ := Int.eq_ofNat_of_zero_le h0
  have e : ((if IntKind.u32.signed = true then -1 else IntKind.u32.max) % 2 ^ IntKind.u32.bits).toNat ^^^ ((m : Int) % 2 ^ IntKind.u32.bits).toNat = (2 ^ 32 - 1) ^^^ m := by
    have e2 : ((m : Int) % 2 ^ IntKind.u32.bits).toNat = m := by
      rw [Int.emod_eq_of_lt (by omega) (by simp only [IntKind.bits]; omega)]
      simp
    rw [e2]
    rfl
  rw [e, xor_ones (by omega)]
  exact (wrap32 (by omega) (by omega)).trans (by omega)
theorem mask32 {l c : Int} {w : Nat} (hw : w ≤ 4) (hc : c = 2 ^ w - 1) (h0 : 0 ≤ l) (h : l < 2 ^ w) : IntKind.u32.wrap (((4294967295 - l) % 2 ^ IntKind.u32.bits).toNat &&& (c % 2 ^ IntKind.u32.bits).toNat : Nat) = 2 ^ w - 1 - l := by
  obtain ⟨m, rfl⟩ := Int.eq_ofNat_of_zero_le h0
  subst hc
  have h5 : w = 0 ∨ w = 1 ∨ w = 2 ∨ w = 3 ∨ w = 4 := by omega
  have e : ((4294967295 - (m : Int)) % 2 ^ IntKind.u32.bits).toNat = 4294967295 - m := by
    have : m < 16 := by rcases h5 with rfl | rfl | rfl | rfl | rfl <;> omega
    rw [Int.emod_eq_of_lt (by omega) (by simp only [IntKind.bits]; omega)]
    omega
  rw [e]
  have key : ∀ w : Nat, w ≤ 4 → ∀ m : Nat, m < 2 ^ w → (4294967295 - m) &&& (2 ^ w - 1) = 2 ^ w - 1 - m := by decide
  have hk := key w hw m (by have : ((2 ^ w : Nat) : Int) = 2 ^ w := by simp
                            omega)
  have e2 : (((2 : Int) ^ w - 1) % 2 ^ IntKind.u32.bits).toNat = 2 ^ w - 1 := by rcases h5 with rfl | rfl | rfl | rfl | rfl <;> rfl
  rw [e2, hk]
  rcases h5 with rfl | rfl | rfl | rfl | rfl <;> exact (wrap32 (by omega) (by omega)).trans (by omega)
theorem xorL {l c : Int} {w : Nat} (hw : w ≤ 4) (hc : c = 2 ^ w - 1) (h0 : 0 ≤ l) (h : l < 2 ^ w) : IntKind.u32.wrap ((c % 2 ^ IntKind.u32.bits).toNat ^^^ (l % 2 ^ IntKind.u32.bits).toNat : Nat) = 2 ^ w - 1 - l := by
  obtain ⟨m, rfl⟩ := Int.eq_ofNat_of_zero_le h0
  subst hc
  have h5 : w = 0 ∨ w = 1 ∨ w = 2 ∨ w = 3 ∨ w = 4 := by omega
  have hm : m < 2 ^ w := by have : ((2 ^ w : Nat) : Int) = 2 ^ w := by simp
                            omega
  have e : ((m : Int) % 2 ^ IntKind.u32.bits).toNat = m := by
    have : m < 16 := by rcases h5 with rfl | rfl | rfl | rfl | rfl <;> omega
    rw [Int.emod_eq_of_lt (by omega) (by simp only [IntKind.bits]; omega)]
    simp
  have e2 : (((2 : Int) ^ w - 1) % 2 ^ IntKind.u32.bits).toNat = 2 ^ w - 1 := by rcases h5 with rfl | rfl | rfl | rfl | rfl <;> rfl
  rw [e, e2, xor_ones hm]
  rcases h5 with rfl | rfl | rfl | rfl | rfl <;> exact (wrap32 (by omega) (by omega)).trans (by omega)
theorem patOk_spec {n e l : Int} {ps : List Fr} (h : patOk n e l ps = true) : graphOk n e = true ∧ (1 ≤ n ∧ n ≤ 4) ∧ l < 2 ^ n.toNat ∧ (ps.length : Int) = n ∧ allOk ps = true := by
  simp only [patOk, Bool.and_eq_true, decide_eq_true_eq] at h
  obtain ⟨⟨⟨⟨⟨h1, h2⟩, h3⟩, h4⟩, _⟩, _⟩ := h
  obtain ⟨h5, h6⟩ := of_decide_eq_true h2
  exact ⟨h1, h5, h6, h3, h4⟩
noncomputable def sp_oppP : List AV → Option (AV × List (Option (List AV))) := pf (ι := (Int) × (Int) × (Int) × (List Fr)) (α := AV × List (Option (List AV))) (fun ⟨n, e, l, ps⟩ => (0 ≤ e ∧ e ≤ 4294967295) ∧ (0 ≤ l ∧ l ≤ 4294967295) ∧ ps.length ≤ maxLen) (fun ⟨n, e, l, ps⟩ => [.agg [.int .i64 n, .int .u32 e, .int .u32 l, .sl (frsA ps) false]]) (fun ⟨n, e, l, ps⟩ => oppR n e l ps)
theorem sp_oppP_eq (n e l : Int) (ps : List Fr) (h : (0 ≤ e ∧ e ≤ 4294967295) ∧ (0 ≤ l ∧ l ≤ 4294967295) ∧ ps.length ≤ maxLen) : sp_oppP [.agg [.int .i64 n, .int .u32 e, .int .u32 l, .sl (frsA ps) false]] = some (oppR n e l ps) := by
  unfold sp_oppP
  exact pf_eq (ι := (Int) × (Int) × (Int) × (List Fr)) (α := AV × List (Option (List AV))) (n, e, l, ps) h (by rintro ⟨n', e', l', ps'⟩ _ e; simp_all [Int.natCast_inj])
end Go.Proofs.YtgiakpeneckgfaaAi
end

section
/- Contracts: lists of numbers; graphs with so many vertices in each part. -/
namespace Go.Proofs.YtgiakpeneckgfaaAi
open Go Go.RowKit
set_option linter.unusedVariables false
set_option linter.unusedSimpArgs false
set_option maxRecDepth 20000

/-! ### searching in lists -/
def idxF {α : Type} (f : α → Bool) : List α → Nat → Int
  | [], _ => -1
  | x :: r, i => if f x = true then i else idxF f r (i + 1)
theorem idxF_ge {α : Type} (f : α → Bool) : ∀ (l : List α) (i : Nat), decide (0 ≤ idxF f l i) = l.any f
  | [], _ => rfl
  | x :: r, i => by
    rw [idxF, List.any_cons]
    cases hx : f x with
    | true => simp
    | false => simp only [Bool.false_eq_true, if_false, Bool.false_or]; exact idxF_ge f r (i + 1)
theorem hsub_all {os : List (Option (List AV))} (ho : ClosedH os) : hsub (fun b => b) os.length ⟨os⟩ 0 os := by
  have := hsub_pre (r := []) (m := os.length) ho (Nat.le_refl _)
  simpa using this
theorem Sub.pre0 {os : List (Option (List AV))} {t : Nat → AV} {l : List (Nat × AV)} (ho : ClosedH os) (ht : ∀ p ∈ l, p.2.lt os.length = true ∧ t p.1 = p.2) : Sub os.length ⟨t, ⟨os⟩⟩ ⟨tl l, ⟨os⟩⟩ := Sub.keep (Nat.le_refl _) (hsub_all ho) ht
noncomputable def yesI (sp : List AV → AHeap → Option (AV × AHeap)) (caps : List AV) (A : AHeap) (x : Int) : Bool := yesOf sp ([.int .i64 x] ++ caps) A
open Classical in
noncomputable def spIdxI (g : FuncId) (sp : List AV → AHeap → Option (AV × AHeap)) : List AV → AHeap → Option (AV × AHeap)
  | [.sl xs false, .fn g' caps], A => if h : g' = g ∧ ∃ l : List Int, xs = insA l ∧ l.length ≤ maxLen ∧ ∀ x ∈ l, sp ([.int .i64 x] ++ caps) A = some (.bool (yesI sp caps A x), A)
      then some (.int .i64 (idxF (yesI sp caps A) h.2.choose 0), A) else none
  | _, _ => none
theorem spIdxI_eq {g : FuncId} {sp : List AV → AHeap → Option (AV × AHeap)} (f : Int → Bool) {l : List Int} {caps : List AV} {A : AHeap} (hl : l.length ≤ maxLen) (h : ∀ x ∈ l, sp ([.int .i64 x] ++ caps) A = some (.bool (f x), A)) :
    spIdxI g sp [.sl (insA l) false, .fn g caps] A = some (.int .i64 (idxF f l 0), A) := by
  have hy : ∀ x ∈ l, yesI sp caps A x = f x := by
    intro x hx
    unfold yesI yesOf
    rw [h x hx]
  have hc : g = g ∧ ∃ k : List Int, insA l = insA k ∧ k.length ≤ maxLen ∧ ∀ x ∈ k, sp ([.int .i64 x] ++ caps) A = some (.bool (yesI sp caps A x), A) := ⟨rfl, l, rfl, hl, fun x hx => by rw [hy x hx]; exact h x hx⟩
  unfold spIdxI
  dsimp only
  rw [dif_pos hc]
  have e : hc.2.choose = l := (insA_inj.1 hc.2.choose_spec.1).symm
  rw [e]
  have : ∀ (l : List Int) (i : Nat), (∀ x ∈ l, yesI sp caps A x = f x) → idxF (yesI sp caps A) l i = idxF f l i := by
    intro l
    induction l with
    | nil => intro _ _; rfl
    | cons x l ih => intro i h; rw [idxF, idxF, h x (List.mem_cons_self ..), ih _ fun y hy => h y (List.mem_cons_of_mem _ hy)]
  rw [this l 0 hy]
open Classical in
noncomputable def spAnyI (g : FuncId) (sp : List AV → AHeap → Option (AV × AHeap)) : List AV → AHeap → Option (AV × AHeap)
  | [.sl xs false, .fn g' caps], A => if h : g' = g ∧ looseL caps = caps ∧ ∃ l : List Int, xs = insA l ∧ l.length ≤ maxLen ∧ ∀ x ∈ l, sp ([.int .i64 x] ++ caps) A = some (.bool (yesI sp caps A x), A)
      then some (.bool (h.2.2.choose.any (yesI sp caps A)), A) else none
  | _, _ => none
theorem spAnyI_eq {g : FuncId} {sp : List AV → AHeap → Option (AV × AHeap)} (f : Int → Bool) {l : List Int} {caps : List AV} {A : AHeap} (hl : l.length ≤ maxLen) (hcl : looseL caps = caps) (h : ∀ x ∈ l, sp ([.int .i64 x] ++ caps) A = some (.bool (f x), A)) :
    spAnyI g sp [.sl (insA l) false, .fn g caps] A = some (.bool (l.any f), A) := by
  have hy : ∀ x ∈ l, yesI sp caps A x = f x := by
    intro x hx
    unfold yesI yesOf
    rw [h x hx]
  have hc : g = g ∧ looseL caps = caps ∧ ∃ k : List Int, insA l = insA k ∧ k.length ≤ maxLen ∧ ∀ x ∈ k, sp ([.int .i64 x] ++ caps) A = some (.bool (yesI sp caps A x), A) := ⟨rfl, hcl, l, rfl, hl, fun x hx => by rw [hy x hx]; exact h x hx⟩
  unfold spAnyI
  dsimp only
  rw [dif_pos hc]
  have e : hc.2.2.choose = l := (insA_inj.1 hc.2.2.choose_spec.1).symm
  rw [e]
  have : l.any (yesI sp caps A) = l.any f := by
    clear e hc h hl
    induction l with
    | nil => rfl
    | cons x l ih => rw [List.any_cons, List.any_cons, hy x (List.mem_cons_self ..), ih fun y hm => hy y (List.mem_cons_of_mem _ hm)]
  rw [this]
end Go.Proofs.YtgiakpeneckgfaaAi
end

section
/- Contracts: graphs with so many vertices in each part. -/
namespace Go.Proofs.YtgiakpeneckgfaaAi
open Go Go.RowKit
set_option linter.unusedVariables false
set_option linter.unusedSimpArgs false
set_option maxRecDepth 20000

theorem flat_in (L : List Int) : flatA (mapA inA L) = L.map inA := by rw [List.map_eq_flatMap]; simp [flatA, mapA, List.flatMap_map]
@[simp] theorem flat_in_get (L : List Int) (i : Nat) (h : i < (flatA (mapA inA L)).length) : (flatA (mapA inA L))[i] = inA (L[i]'(by simpa using h)) := by simp [flat_in]
@[simp] theorem flat_in_inj {L K : List Int} : flatA (mapA inA L) = flatA (mapA inA K) ↔ L = K := by
  constructor
  · intro h
    rw [flat_in, flat_in] at h
    exact mapA_inj inA_inj h
  · intro h; rw [h]
theorem news_in1 (n : Nat) (p : Int) : List.replicate n (AV.int .i64 p) = flatA (mapA inA (List.replicate n p)) := by rw [flat_in]; simp
theorem wrapI0 : IntKind.i64.wrap 0 = 0 := rfl
theorem reps_in (n : Nat) (p : Int) : rep n [.int .i64 p] = flatA (insA (List.replicate n p)) := news_in n p
noncomputable def sp_repeatI : List AV → List AV → Option (AV × List (Option (List AV))) := pb (pf (ι := (Int) × (Int)) (α := AV × List (Option (List AV))) (fun ⟨p, n⟩ => 0 ≤ n ∧ n ≤ 5) (fun i => .agg ((fun ⟨p, n⟩ => [.int .i64 p] : (Int) × (Int) → List AV) i) :: (fun ⟨p, n⟩ => [.ref 0 1 0 1 .tight, .int .i64 n] : (Int) × (Int) → List AV) i) (fun ⟨p, n⟩ => (.ref 1 1 0 n.toNat .tight, [some [.int .i64 p], some (flatA (insA (List.replicate n.toNat p)))])))
theorem sp_repeatI_eq (p n : Int) (h : 0 ≤ n ∧ n ≤ 5) : sp_repeatI [.int .i64 p] [.ref 0 1 0 1 .tight, .int .i64 n] = some (.ref 1 1 0 n.toNat .tight, [some [.int .i64 p], some (flatA (insA (List.replicate n.toNat p)))]) := by
  unfold sp_repeatI pb
  exact pf_eq (ι := (Int) × (Int)) (α := AV × List (Option (List AV))) (p, n) h (by rintro ⟨p', n'⟩ _ e; simp_all [Int.natCast_inj])
def sizeI (n : Int) : Bool := decide (0 ≤ n) && decide (n ≤ 5)
noncomputable def sp_badSize : List AV → Option (AV) := pf (ι := (Int)) (α := AV) (fun n => True) (fun n => [.int .i64 n]) (fun n => .bool (!sizeI n))
theorem sp_badSize_eq (n : Int) : sp_badSize [.int .i64 n] = some (.bool (!sizeI n)) := by
  unfold sp_badSize
  exact pf_eq (ι := (Int)) (α := AV) n trivial (by rintro n' _ e; simp_all [Int.natCast_inj])
attribute [simp] sp_badSize_eq
def atI (L : List Int) (i : Nat) : Int := L.getD i 0
def allPart (L : List Int) : Prop := ∀ x ∈ L, 0 ≤ x ∧ x < 5
theorem allPart.at {L : List Int} (h : allPart L) {i : Nat} (hi : i < L.length) : 0 ≤ atI L i ∧ atI L i < 5 := by
  have : atI L i = L[i] := by simp [atI, hi]
  rw [this]; exact h _ (List.getElem_mem hi)
theorem atI_get {L : List Int} {i : Nat} (hi : i < L.length) : L[i] = atI L i := by simp [atI, hi]
noncomputable def sp_blow2 : List (Option (List AV)) → List AV → Option (AV × List (Option (List AV))) := pv (pf (ι := (Int) × (Int) × (Int) × (List Fr) × (List Int) × (Int) × (Int)) (α := AV × List (Option (List AV))) (fun ⟨n, e, l, ps, L, i, j⟩ => ((0 ≤ e ∧ e ≤ 4294967295) ∧ (0 ≤ l ∧ l ≤ 4294967295)) ∧ allPart L ∧ (0 ≤ i ∧ i < L.length) ∧ (0 ≤ j ∧ j < L.length)) (fun i => .agg (((fun ⟨n, e, l, ps, L, i, j⟩ => [some [.int .i64 n, .int .u32 e, .int .u32 l, .sl (frsA ps) false], some [.ref 2 1 0 L.length .full], some (flatA (insA L))] : (Int) × (Int) × (Int) × (List Fr) × (List Int) × (Int) × (Int) → List (Option (List AV))) i).map enO) :: (fun ⟨n, e, l, ps, L, i, j⟩ => [.int .i64 i, .int .i64 j, .ptr 0 0, .ptr 1 0] : (Int) × (Int) × (Int) × (List Fr) × (List Int) × (Int) × (Int) → List AV) i) (fun ⟨n, e, l, ps, L, i, j⟩ => (.bool (joinB e l (atI L i.toNat) (atI L j.toNat)), [some [.int .i64 n, .int .u32 e, .int .u32 l, .sl (frsA ps) false], some [.ref 2 1 0 L.length .full], some (flatA (insA L))])))
theorem sp_blow2_eq (n e l : Int) (ps : List Fr) (L : List Int) (i j : Int) (h : ((0 ≤ e ∧ e ≤ 4294967295) ∧ (0 ≤ l ∧ l ≤ 4294967295)) ∧ allPart L ∧ (0 ≤ i ∧ i < L.length) ∧ (0 ≤ j ∧ j < L.length)) : sp_blow2 [some [.int .i64 n, .int .u32 e, .int .u32 l, .sl (frsA ps) false], some [.ref 2 1 0 L.length .full], some (flatA (insA L))] [.int .i64 i, .int .i64 j, .ptr 0 0, .ptr 1 0] = some (.bool (joinB e l (atI L i.toNat) (atI L j.toNat)), [some [.int .i64 n, .int .u32 e, .int .u32 l, .sl (frsA ps) false], some [.ref 2 1 0 L.length .full], some (flatA (insA L))]) := by
  unfold sp_blow2 pv
  exact pf_eq (ι := (Int) × (Int) × (Int) × (List Fr) × (List Int) × (Int) × (Int)) (α := AV × List (Option (List AV))) (n, e, l, ps, L, i, j) h (by rintro ⟨n', e', l', ps', L', i', j'⟩ _ e; simp_all [enO, Int.natCast_inj])
/-- Each part so often. -/
def partsN : Nat → List Int → List Int
  | _, [] => []
  | i, n :: r => List.replicate n.toNat (i : Int) ++ partsN (i + 1) r
theorem partsN_snoc : ∀ (l : List Int) (i : Nat) (n : Int), partsN i (l ++ [n]) = partsN i l ++ List.replicate n.toNat ((i + l.length : Nat) : Int)
  | [], i, n => by simp [partsN]
  | x :: l, i, n => by
    rw [List.cons_append, partsN, partsN, partsN_snoc l (i + 1) n, List.append_assoc, List.length_cons, show i + 1 + l.length = i + (l.length + 1) by omega]
theorem partsN_part : ∀ (l : List Int) (i : Nat), i + l.length ≤ 5 → allPart (partsN i l)
  | [], i, h => fun x hx => by cases hx
  | n :: l, i, h => fun x hx => by
    rw [partsN, List.mem_append] at hx
    rw [List.length_cons] at h
    rcases hx with hx | hx
    · have := List.eq_of_mem_replicate hx
      omega
    · exact partsN_part l (i + 1) (by omega) x hx
theorem partsN_len : ∀ (l : List Int) (i : Nat), (∀ x ∈ l, sizeI x = true) → (partsN i l).length ≤ 5 * l.length
  | [], i, h => by simp [partsN]
  | n :: l, i, h => by
    have h1 := partsN_len l (i + 1) fun x hx => h x (List.mem_cons_of_mem _ hx)
    have h2 := h n (List.mem_cons_self ..)
    simp only [sizeI, Bool.and_eq_true, decide_eq_true_eq] at h2
    rw [partsN, List.length_append, List.length_replicate, List.length_cons]
    omega
def sizesOk (l : List Int) : Bool := l.all sizeI
theorem any_sizes (l : List Int) : (l.any fun x => !sizeI x) = !(sizesOk l) := by
  unfold sizesOk
  rw [List.not_all_eq_any_not]
def blowE (e l : Int) (L : List Int) : Nat := madeE (fun i j => joinB e l (atI L i) (atI L j)) L.length
/-- A graph with so many vertices in each part, with a code. -/
def blowR (n e l : Int) (ps : List Fr) (zs : List Int) : AV :=
  if patOk n e l ps = false then .tup [.agg [.int .i64 0, .int .u32 0], .int .i64 1]
  else if (zs.length = ps.length ∧ sizesOk zs = true) ∧ (partsN 0 zs).length ≤ 5 then .tup [.agg [.int .i64 (partsN 0 zs).length, .int .u32 (blowE e l (partsN 0 zs))], .int .i64 0]
  else .tup [.agg [.int .i64 0, .int .u32 0], .int .i64 2]
@[simp] theorem blowR_lt (n e l : Int) (ps : List Fr) (zs : List Int) (k : Nat) : (blowR n e l ps zs).lt k = true := by unfold blowR; split; rfl; split <;> rfl
/-- A list that grows in a cell. -/
def cellL (b : Nat) (L : List Int) : AV := if L = [] then .sl [] true else .ref b 1 0 L.length .full
def objL (L : List Int) : List (Option (List AV)) := if L = [] then [] else [some (flatA (insA L))]
theorem cellL_nil (b : Nat) : cellL b [] = .sl [] true := rfl
theorem objL_nil : objL [] = [] := rfl
theorem cellL_cons {b : Nat} {L : List Int} (h : L ≠ []) : cellL b L = .ref b 1 0 L.length .full := if_neg h
theorem objL_cons {L : List Int} (h : L ≠ []) : objL L = [some (flatA (insA L))] := if_neg h
noncomputable def sp_blowP : List AV → Option (AV) := pf (ι := (Int) × (Int) × (Int) × (List Fr) × (List Int)) (α := AV) (fun ⟨n, e, l, ps, zs⟩ => ((0 ≤ e ∧ e ≤ 4294967295) ∧ (0 ≤ l ∧ l ≤ 4294967295)) ∧ ps.length ≤ maxLen ∧ zs.length ≤ 1048576) (fun ⟨n, e, l, ps, zs⟩ => [.agg [.int .i64 n, .int .u32 e, .int .u32 l, .sl (frsA ps) false], .sl (insA zs) false]) (fun ⟨n, e, l, ps, zs⟩ => blowR n e l ps zs)
theorem sp_blowP_eq (n e l : Int) (ps : List Fr) (zs : List Int) (h : ((0 ≤ e ∧ e ≤ 4294967295) ∧ (0 ≤ l ∧ l ≤ 4294967295)) ∧ ps.length ≤ maxLen ∧ zs.length ≤ 1048576) : sp_blowP [.agg [.int .i64 n, .int .u32 e, .int .u32 l, .sl (frsA ps) false], .sl (insA zs) false] = some (blowR n e l ps zs) := by
  unfold sp_blowP
  exact pf_eq (ι := (Int) × (Int) × (Int) × (List Fr) × (List Int)) (α := AV) (n, e, l, ps, zs) h (by rintro ⟨n', e', l', ps', zs'⟩ _ e; simp_all [Int.natCast_inj])
end Go.Proofs.YtgiakpeneckgfaaAi
end

section
/- MADE BY PROGRAM (wip/tools/gen.py): the abstract code of functions. -/
namespace Go.Proofs.YtgiakpeneckgfaaAi
open Go AC AOp Opd
set_option linter.unusedVariables false
set_option maxRecDepth 100000

end Go.Proofs.YtgiakpeneckgfaaAi
end

section
/- MADE BY PROGRAM (wip/tools/gen.py): the abstract code of functions. -/
namespace Go.Proofs.YtgiakpeneckgfaaAi
open Go AC AOp Opd
set_option linter.unusedVariables false
set_option maxRecDepth 100000

end Go.Proofs.YtgiakpeneckgfaaAi
end

section
/- Contracts: all maps of vertices to parts, in order. -/
namespace Go.Proofs.YtgiakpeneckgfaaAi
open Go Go.RowKit
set_option linter.unusedVariables false
set_option linter.unusedSimpArgs false
set_option maxRecDepth 20000
variable {P : Program}

/-- A call to which an object is handed that will not change again. -/
theorem T.freeze {f : FuncId} {args args' : List AV} {A : AHeap} {R : AV → AHeap → Prop} {b : Nat} {cs : List AV} (hb : A b = some cs) (hl : args'.length = args.length) (ha : ∀ (i : Nat) x x', args[i]? = some x → args'[i]? = some x' → Fz b cs x x') (h : T P f args' (A.del b) R) : T P f args A R := by
  refine ⟨h.1, fun B w0 σ w vs hG hB hs hr => ?_⟩
  have hsh := Shift.freeze (N := A.n) (s := ⟨fun i => (args[i]?).getD .any, A⟩) (s' := ⟨fun i => (args'[i]?).getD .any, A.del b⟩) hb (fun i => ?_) (AHeap.del_n ..) (fun i l' e => ?_)
  · have htm : ∀ t, Rep σ ((args[t]?).getD .any) ((vs.toArray).getD t undef) := by
      intro t
      cases ht : args[t]? with
      | none => exact .any _
      | some x =>
        have hlt : t < vs.length := by rw [← hr.1]; exact (List.getElem?_eq_some_iff.1 ht).1
        have := hr.2 t x vs[t] ht (List.getElem?_eq_getElem hlt)
        simpa [ht, hlt] using this
    obtain ⟨σ1, hle, hs1⟩ := hsh B w0 vs.length σ ⟨vs.toArray, []⟩ w ⟨hs, htm, by simp, rfl, hB⟩
    have hle' : σ.Le σ1 := ⟨hle.mem, fun b x e => hle.nm b x (hs.nm b x.1 x.2 e).1 e, hle.base⟩
    refine (h.2 B w0 σ1 w vs hG hB hs1.sim ⟨by rw [hl]; exact hr.1, fun i c v hc hv => ?_⟩).mono fun e w' ⟨r, A', v, σ', e1, e2, e3, e4⟩ => ⟨r, A', v, σ', e1, e2, hle'.trans e3, e4⟩
    have hlt : i < vs.length := (List.getElem?_eq_some_iff.1 hv).1
    have := hs1.tmps i
    simp only [hc, Option.getD_some] at this
    have hv' : vs.toArray.getD i undef = v := by simp [hv]
    rw [hv'] at this
    exact this
  · cases ht : args'[i]? with
    | none => exact .inl (by simp [ht])
    | some x' =>
      have hlt : i < args.length := by rw [← hl]; exact (List.getElem?_eq_some_iff.1 ht).1
      have := ha i args[i] x' (List.getElem?_eq_getElem hlt) ht
      exact .inr (by simpa [ht, hlt] using this)
  · simp only at e
    rw [AHeap.del_at] at e
    split at e
    · cases e
    · rename_i hne
      exact ⟨hne, l', e, rfl, fun j x x' h1 h2 => .inl (by rw [h1] at h2; exact (Option.some.inj h2).symm)⟩

theorem upd_to (g : Nat → Nat) (os os' r : List (Option (List AV))) (hl : os'.length = os.length) (ho : ClosedH os') (hg : ∀ b, b < os.length → g b = b) (hall : ∀ b, b < os.length → (hget os b).isSome = true) : upd (fun b => b) g 0 os os' (os ++ r) = os' ++ r := by
  have key : ∀ (a b b' : List (Option (List AV))), b'.length = b.length → (∀ i, i < b.length → (hget b i).isSome = true) → (∀ i cs, hget b' i = some cs → renL g cs = cs) → upd (fun b => b) g a.length b b' (a ++ b ++ r) = a ++ b' ++ r := by
    intro a b
    induction b generalizing a with
    | nil =>
      intro b' hl _ _
      cases b' with
      | nil => simp [upd]
      | cons _ _ => simp at hl
    | cons o b ih =>
      intro b' hl h h'
      cases b' with
      | nil => simp at hl
      | cons o' b' =>
        rw [upd]
        have ho := h 0 (by simp)
        simp only [hget, if_true] at ho
        rw [if_pos ho]
        have h0 : hset (a ++ o :: b ++ r) a.length (o'.map (renL g)) = (a ++ [o']) ++ b ++ r := by
          rw [List.append_assoc, hset_pre0, List.cons_append, hset, if_pos rfl]
          cases o' with
          | none => simp
          | some c => rw [Option.map_some, h' 0 c (by simp [hget])]; simp
        rw [h0]
        have := ih (a ++ [o']) b' (by simpa using hl) (fun i hi => by have := h (i + 1) (by simp; omega); simpa [hget] using this) (fun i cs hi => h' (i + 1) cs (by simpa [hget] using hi))
        simp only [List.length_append, List.length_cons, List.length_nil] at this
        rw [this]
        simp
  have := key [] os os' hl hall (fun i cs hi => renL_same (n := os.length) hg cs (by rw [← hl]; exact ho i cs hi))
  simpa using this
/-- A call that sees some objects and changes them. -/
theorem T.seesE {f : FuncId} {args : List AV} {os os' : List (Option (List AV))} {v : AV} (h : T P f args ⟨os⟩ fun r A' => r = v ∧ A' = ⟨os'⟩) (ho : ClosedH os) (hl : os'.length = os.length) (ho' : ClosedH os') (hall : ∀ b, b < os.length → (hget os b).isSome = true) (ha : ltL os.length args = true) (hv : v.lt 0 = true) (r : List (Option (List AV))) :
    T P f args ⟨os ++ r⟩ fun x A' => x = v ∧ A' = ⟨os' ++ r⟩ := by
  have := h.embed (A := ⟨os ++ r⟩) (View.pre ho) ha
  rw [renL_id] at this
  refine this.mono ?_
  rintro x A1 ⟨r', A1', ⟨rfl, rfl⟩, rfl, rfl⟩
  refine ⟨ren_low _ _ hv, AHeap.ext' ?_⟩
  exact upd_to _ os os' r hl ho' (fun b hb => by simp [extN, AHeap.n, hb]) hall

/-- Two parts of a pattern that lies somewhere. -/
theorem T_joined {os : List (Option (List AV))} {pb : Nat} {n e l : Int} {ps : List Fr} {i j : Int} (ho : ClosedH os) (hp : hget os pb = some [.int .i64 n, .int .u32 e, .int .u32 l, .sl (frsA ps) false]) (h : ((0 ≤ e ∧ e ≤ 4294967295) ∧ (0 ≤ l ∧ l ≤ 4294967295)) ∧ (0 ≤ i ∧ i < 5) ∧ (0 ≤ j ∧ j < 5)) :
    T PP 58 [.ptr pb 0, .int .i64 i, .int .i64 j] ⟨os⟩ fun r A' => r = .bool (joinB e l i j) ∧ A' = ⟨os⟩ := by
  have h0 := v_impl_Pattern_joined _ _ _ _ (sp_joinP_eq n e l ps i j h)
  have hv : View (fun _ => pb) (⟨os⟩ : AHeap) ⟨[some [.int .i64 n, .int .u32 e, .int .u32 l, .sl (frsA ps) false]]⟩ := by
    refine ⟨fun b hb => hget_lt hp, fun b cs hb => ?_, fun b b' cs cs' e1 e2 e => ?_⟩
    · have hb0 : b = 0 := by
        have := hget_lt hb
        simpa using this
      subst hb0
      simp [hget] at hb
      subst hb
      exact ⟨by simp [AHeap.n, ltL, AV.lt], by simpa [renL, AV.ren] using hp⟩
    · have h1 := hget_lt e1
      have h2 := hget_lt e2
      simp at h1 h2
      omega
  refine (h0.embed hv (by simp [AHeap.n])).mono ?_
  rintro r A1 ⟨r', A1', ⟨rfl, rfl⟩, rfl, rfl⟩
  refine ⟨rfl, AHeap.ext' ?_⟩
  have hs : ∀ (os : List (Option (List AV))) (b : Nat) (c : List AV), hget os b = some c → hset os b (some c) = os := by
    intro os
    induction os with
    | nil => intro b c h; cases h
    | cons o r ih =>
      intro b c h
      simp only [hget] at h
      simp only [hset]
      split at h
      · rename_i hb; rw [if_pos hb, h]
      · rename_i hb; rw [if_neg hb, ih _ _ h]
  have := hs os pb _ hp
  simpa [upd, renL, AV.ren] using this

theorem Sub.preN {N : Nat} {os : List (Option (List AV))} {t : Nat → AV} {l : List (Nat × AV)} (hN : os.length = N) (ho : ClosedH os) (ht : ∀ p ∈ l, p.2.lt N = true ∧ t p.1 = p.2) : Sub N ⟨t, ⟨os⟩⟩ ⟨tl l, ⟨os⟩⟩ := by
  subst hN; exact Sub.pre0 ho ht
theorem Sub.preR {N : Nat} {os r : List (Option (List AV))} {t : Nat → AV} {l : List (Nat × AV)} (hN : os.length = N) (ho : ClosedH os) (ht : ∀ p ∈ l, p.2.lt N = true ∧ t p.1 = p.2) : Sub N ⟨t, ⟨os ++ r⟩⟩ ⟨tl l, ⟨os⟩⟩ := by
  subst hN
  have := Sub.pre (os := os) (r := r) (r' := []) (t := t) (l := l) ho trivial (by simpa using ht)
  simpa using this
noncomputable def sp_clipI : List AV → Option (AV) := pf (ι := (List Int)) (α := AV) (fun k => True) (fun k => [.sl (insA k) false]) (fun k => .sl (insA k) true)
theorem sp_clipI_eq (k : List Int) : sp_clipI [.sl (insA k) false] = some (.sl (insA k) true) := by
  unfold sp_clipI
  exact pf_eq (ι := (List Int)) (α := AV) k trivial (by rintro k' _ e; simp_all [Int.natCast_inj])
attribute [simp] sp_clipI_eq
def fitI (fitB : Int → Int → Bool → Bool) (e l : Int) (now : List Int) (x : Int) : Nat → Bool
  | 0 => true
  | i + 1 => fitI fitB e l now x i && fitB i now.length (joinB e l (atI now i) x)
def fitM (fitB : Int → Int → Bool → Bool) (e l : Int) (now : List Int) (x : Int) : Bool := fitI fitB e l now x now.length

theorem ins_cells (k : List Int) : ∀ x ∈ insA k, x.cells.length = 1 ∧ ltL 0 x.cells = true := by
  intro x hx
  obtain ⟨a, _, rfl⟩ := List.mem_map.1 hx
  exact ⟨rfl, rfl⟩
/-- A list that lies in a new object is handed on. -/
theorem T_ref {f : FuncId} {os os' : List (Option (List AV))} {a1 a2 : List AV} {k : List Int} {c0 : List AV} {v : AV} (h : T PP f (a1 ++ .sl (insA k) false :: a2) ⟨os⟩ fun r A' => r = v ∧ A' = ⟨os'⟩) (ho : ClosedH os) (hl : os'.length = os.length) (ho' : ClosedH os') (hall : ∀ b, b < os.length → (hget os b).isSome = true) (h1 : ltL os.length a1 = true) (h2 : ltL os.length a2 = true) (hv : v.lt 0 = true) (t : Cp) :
    T PP f (a1 ++ .ref (os.length + 1) 1 0 k.length t :: a2) ⟨os ++ [some c0, some (flatA (insA k))]⟩ fun r A' => r = v ∧ A' = ⟨os' ++ [some c0, none]⟩ := by
  have hget1 : (⟨os ++ [some c0, some (flatA (insA k))]⟩ : AHeap) (os.length + 1) = some (flatA (insA k)) := by
    show hget _ _ = _
    rw [hget_pre]; rfl
  refine T.freeze (args' := a1 ++ .sl (insA k) false :: a2) hget1 (by simp) (fun i x x' hx hx' => ?_) ?_
  · by_cases hi : i < a1.length
    · rw [List.getElem?_append_left hi] at hx hx'
      rw [hx] at hx'
      obtain rfl := Option.some.inj hx'
      exact Fz.refl _ _ _
    · rw [List.getElem?_append_right (by omega)] at hx hx'
      cases hj : i - a1.length with
      | zero =>
        rw [hj] at hx hx'
        simp at hx hx'
        subst hx; subst hx'
        refine .inl (.inr (.inr ⟨1, 0, k.length, t, insA k, false, rfl, rfl, fun h => (by cases h), by simp, by simp, ins_cells k, .inl ?_⟩))
        show flatA (insA k) = _
        rw [List.take_of_length_le (by simp)]
        simp
      | succ j =>
        rw [hj] at hx hx'
        simp only [List.getElem?_cons_succ] at hx hx'
        rw [hx] at hx'
        obtain rfl := Option.some.inj hx'
        exact Fz.refl _ _ _
  · have := h.seesE ho hl ho' hall (by simp only [ltL_append, ltL, h1, h2, AV.lt, Bool.and_true, Bool.and_self]) hv [some c0, none]
    have e : (⟨os ++ [some c0, some (flatA (insA k))]⟩ : AHeap).del (os.length + 1) = ⟨os ++ [some c0, none]⟩ := by
      show AHeap.mk (hset _ _ _) = _
      rw [hset_pre]
      rfl
    rw [e]
    exact this
end Go.Proofs.YtgiakpeneckgfaaAi
end

section
/- MADE BY PROGRAM (wip/tools/gen.py): the abstract code of functions. -/
namespace Go.Proofs.YtgiakpeneckgfaaAi
open Go AC AOp Opd
set_option linter.unusedVariables false
set_option maxRecDepth 100000

end Go.Proofs.YtgiakpeneckgfaaAi
end

section
/- MADE BY PROGRAM (wip/tools/gen.py): the abstract code of functions. -/
namespace Go.Proofs.YtgiakpeneckgfaaAi
open Go AC AOp Opd
set_option linter.unusedVariables false
set_option maxRecDepth 100000

end Go.Proofs.YtgiakpeneckgfaaAi
end

section
/- MADE BY PROGRAM (wip/tools/gen.py): the abstract code of functions. -/
namespace Go.Proofs.YtgiakpeneckgfaaAi
open Go AC AOp Opd
set_option linter.unusedVariables false
set_option maxRecDepth 100000
def c_impl_first : AC := seq (reg [⟨(some 2), mv (c (.sl [] true)), none⟩]) (seq (reg [⟨(some 5), bsl 1 0 [.int .i64 0] [], none⟩, ⟨(some 3), mv (t 5), none⟩]) (seq (seq (reg [⟨(some 6), mv (t 0), none⟩, ⟨(some 7), mv (c (.int .i64 0)), none⟩]) (block 0 (loop (seq (reg [⟨(some 8), bin .lss (t 7) (t 6), none⟩]) (seq (cond (t 8) (skip) (exit 0)) (seq (block 1 (seq (reg [⟨(some 9), mv (t 7), none⟩, ⟨(some 4), mv (t 9), none⟩]) (reg [⟨(some 10), mv (t 3), none⟩, ⟨(some 11), mv (t 4), none⟩, ⟨(some 12), bsl 1 1 [.int .i64 0] [(0, t 11)], none⟩, ⟨(some 13), app 1 8 (t 10) (t 12), none⟩, ⟨(some 3), mv (t 13), none⟩]))) (reg [⟨(some 14), bin .add (t 7) (c (.int .i64 1)), none⟩, ⟨(some 7), mv (t 14), none⟩]))))))) (seq (reg [⟨(some 15), mv (t 3), none⟩, ⟨(some 2), mv (t 15), none⟩]) (ret))))
def r_impl_first : List ARes := [.tmp 2]
theorem k_impl_first : acLin Go.Proofs.Try.prog 32 1 (inQ [] []) [] = some (c_impl_first, r_impl_first) := by kernel_rfl
end Go.Proofs.YtgiakpeneckgfaaAi
end

section
/- Contracts: all lists of different numbers, in order; orders of vertices. -/
namespace Go.Proofs.YtgiakpeneckgfaaAi
open Go Go.RowKit
set_option linter.unusedVariables false
set_option linter.unusedSimpArgs false
set_option maxRecDepth 20000

noncomputable def sp_indexI : List AV → Option (AV) := pf (ι := (List Int) × (Int)) (α := AV) (fun ⟨k, v⟩ => k.length ≤ 1048576) (fun ⟨k, v⟩ => [.sl (insA k) false, .int .i64 v]) (fun ⟨k, v⟩ => .int .i64 (idxF (fun x => v == x) k 0))
theorem sp_indexI_eq (k : List Int) (v : Int) (h : k.length ≤ 1048576) : sp_indexI [.sl (insA k) false, .int .i64 v] = some (.int .i64 (idxF (fun x => v == x) k 0)) := by
  unfold sp_indexI
  exact pf_eq (ι := (List Int) × (Int)) (α := AV) (k, v) h (by rintro ⟨k', v'⟩ _ e; simp_all [Int.natCast_inj])
def inL (k : List Int) (v : Int) : Bool := k.any fun x => v == x
noncomputable def sp_containsI : List AV → Option (AV) := pf (ι := (List Int) × (Int)) (α := AV) (fun ⟨k, v⟩ => k.length ≤ 1048576) (fun ⟨k, v⟩ => [.sl (insA k) false, .int .i64 v]) (fun ⟨k, v⟩ => .bool (inL k v))
theorem sp_containsI_eq (k : List Int) (v : Int) (h : k.length ≤ 1048576) : sp_containsI [.sl (insA k) false, .int .i64 v] = some (.bool (inL k v)) := by
  unfold sp_containsI
  exact pf_eq (ι := (List Int) × (Int)) (α := AV) (k, v) h (by rintro ⟨k', v'⟩ _ e; simp_all [Int.natCast_inj])
def newM (now : List Int) (x : Int) : Bool := !inL now x
theorem nodup_snoc {now : List Int} {x : Int} (h : now.Nodup) (hx : inL now x = false) : (now ++ [x]).Nodup := by
  rw [List.nodup_append]
  refine ⟨h, by simp, fun a ha b hb e => ?_⟩
  rw [List.mem_singleton] at hb
  subst hb; subst e
  unfold inL at hx
  rw [List.any_eq_false] at hx
  exact hx a ha (by simp)
end Go.Proofs.YtgiakpeneckgfaaAi
end

section
/- Contracts: graphs on lists of vertices; orders; how many orders make a graph itself. -/
namespace Go.Proofs.YtgiakpeneckgfaaAi
open Go Go.RowKit
set_option linter.unusedVariables false
set_option linter.unusedSimpArgs false
set_option maxRecDepth 20000

/-- A list of different vertices. -/
def distL (L : List Int) : Prop := L.Nodup ∧ L.length ≤ 5 ∧ allPart L
theorem distL.ne {L : List Int} (h : distL L) {i j : Nat} (hi : i < L.length) (hj : j < L.length) (hij : i ≠ j) : atI L i ≠ atI L j := by
  rw [← atI_get hi, ← atI_get hj]
  intro e
  exact hij ((List.getElem_inj h.1).1 e)
def onE (e : Int) (L : List Int) : Nat := madeE (fun i j => hasB e (atI L i) (atI L j)) L.length
noncomputable def sp_on1 : List (Option (List AV)) → List AV → Option (AV × List (Option (List AV))) := pv (pf (ι := (Int) × (Int) × (List Int) × (Int) × (Int)) (α := AV × List (Option (List AV))) (fun ⟨n, e, L, i, j⟩ => (0 ≤ e ∧ e ≤ 4294967295) ∧ distL L ∧ (0 ≤ i ∧ i < L.length) ∧ (0 ≤ j ∧ j < L.length) ∧ i ≠ j) (fun i => .agg (((fun ⟨n, e, L, i, j⟩ => [some [.int .i64 n, .int .u32 e], some [.sl (insA L) false]] : (Int) × (Int) × (List Int) × (Int) × (Int) → List (Option (List AV))) i).map enO) :: (fun ⟨n, e, L, i, j⟩ => [.int .i64 i, .int .i64 j, .ptr 0 0, .ptr 1 0] : (Int) × (Int) × (List Int) × (Int) × (Int) → List AV) i) (fun ⟨n, e, L, i, j⟩ => (.bool (hasB e (atI L i.toNat) (atI L j.toNat)), [some [.int .i64 n, .int .u32 e], some [.sl (insA L) false]])))
theorem sp_on1_eq (n e : Int) (L : List Int) (i j : Int) (h : (0 ≤ e ∧ e ≤ 4294967295) ∧ distL L ∧ (0 ≤ i ∧ i < L.length) ∧ (0 ≤ j ∧ j < L.length) ∧ i ≠ j) : sp_on1 [some [.int .i64 n, .int .u32 e], some [.sl (insA L) false]] [.int .i64 i, .int .i64 j, .ptr 0 0, .ptr 1 0] = some (.bool (hasB e (atI L i.toNat) (atI L j.toNat)), [some [.int .i64 n, .int .u32 e], some [.sl (insA L) false]]) := by
  unfold sp_on1 pv
  exact pf_eq (ι := (Int) × (Int) × (List Int) × (Int) × (Int)) (α := AV × List (Option (List AV))) (n, e, L, i, j) h (by rintro ⟨n', e', L', i', j'⟩ _ e; simp_all [enO, Int.natCast_inj])
noncomputable def sp_on : List AV → Option (AV) := pf (ι := (Int) × (Int) × (List Int)) (α := AV) (fun ⟨n, e, L⟩ => (0 ≤ e ∧ e ≤ 4294967295) ∧ distL L) (fun ⟨n, e, L⟩ => [.agg [.int .i64 n, .int .u32 e], .sl (insA L) false]) (fun ⟨n, e, L⟩ => .agg [.int .i64 L.length, .int .u32 (onE e L)])
theorem sp_on_eq (n e : Int) (L : List Int) (h : (0 ≤ e ∧ e ≤ 4294967295) ∧ distL L) : sp_on [.agg [.int .i64 n, .int .u32 e], .sl (insA L) false] = some (.agg [.int .i64 L.length, .int .u32 (onE e L)]) := by
  unfold sp_on
  exact pf_eq (ι := (Int) × (Int) × (List Int)) (α := AV) (n, e, L) h (by rintro ⟨n', e', L'⟩ _ e; simp_all [Int.natCast_inj])
/-! ### the first numbers -/
def upTo : Nat → List Int
  | 0 => []
  | n + 1 => upTo n ++ [(n : Int)]
@[simp] theorem upTo_len : ∀ n, (upTo n).length = n
  | 0 => rfl
  | n + 1 => by simp [upTo, upTo_len n]
theorem upTo_mem : ∀ {n : Nat} {x : Int}, x ∈ upTo n → 0 ≤ x ∧ x < n
  | 0, x, h => by cases h
  | n + 1, x, h => by
    rw [upTo, List.mem_append, List.mem_singleton] at h
    rcases h with h | rfl
    · have := upTo_mem h; omega
    · omega
theorem upTo_ne {n : Nat} (h : 0 < n) : upTo n ≠ [] := by
  intro e
  have := congrArg List.length e
  simp at this
  omega
theorem upTo_nodup : ∀ n, (upTo n).Nodup
  | 0 => by simp [upTo]
  | n + 1 => by
    rw [upTo]
    refine nodup_snoc (upTo_nodup n) ?_
    unfold inL
    rw [List.any_eq_false]
    intro x hx e
    have := upTo_mem hx
    have e : (n : Int) = x := by simpa using e
    omega
def firstR (n : Nat) : AV × List (Option (List AV)) := if n = 0 then (.sl [] true, []) else (.ref 0 1 0 n .full, [some (flatA (insA (upTo n)))])
noncomputable def sp_firstP : List AV → Option (AV × List (Option (List AV))) := pf (ι := (Nat)) (α := AV × List (Option (List AV))) (fun n => n ≤ 1000) (fun n => [.int .i64 n]) (fun n => firstR n)
theorem sp_firstP_eq (n : Nat) (h : n ≤ 1000) : sp_firstP [.int .i64 n] = some (firstR n) := by
  unfold sp_firstP
  exact pf_eq (ι := (Nat)) (α := AV × List (Option (List AV))) n h (by rintro n' _ e; simp_all [Int.natCast_inj])
theorem first_step (i : Nat) : flatA (insA (upTo i)) ++ [.int .i64 (i : Int)] = flatA (insA (upTo (i + 1))) := by rw [upTo, flatA_append, flatA_one]; rfl
theorem n_impl_first : QN PP 32 sp_firstP := by
  refine QN_pf (fun n h => ?_) fun n h => ?_
  · first | rfl | simp
  replace h : n ≤ 1000 := h
  show T PP 32 [.int .i64 n] .nil fun r' A' => r' = ((firstR n : AV × List (Option (List AV)))).1 ∧ A' = ⟨((firstR n : AV × List (Option (List AV)))).2⟩
  rcases Nat.eq_zero_or_pos n with rfl | hn
  · rw [show firstR 0 = (.sl [] true, []) from rfl]
    refine H_code Quiet.nil hmix k_impl_first rfl (fun _ => 0) (by simp [AHeap.n, AHeap.nil]) (by intro b hb; simp [AHeap.n, AHeap.nil] at hb <;> subst hb <;> rfl) (by rfl) (by first | rfl | simp) ?_
    simp -dsimp -implicitDefEqProofs [c_impl_first, r_impl_first]
    refine wpLoop_st (fun (i : Unit) => ⟨tl [(3, .sl [] true), (6, .int .i64 0), (7, .int .i64 0)], ⟨[]⟩⟩) (fun _ => True) (fun _ => 0) () trivial (Sub.keep (by simp) (by simp [hsub]) (by simp)) ?_
    rintro _ _
    simp -dsimp -implicitDefEqProofs [hsub]
  · rw [show firstR n = (.ref 0 1 0 n .full, [some (flatA (insA (upTo n)))]) from if_neg (by omega)]
    refine H_code Quiet.nil hmix k_impl_first rfl (fun _ => 0) (by simp [AHeap.n, AHeap.nil]) (by intro b hb; simp [AHeap.n, AHeap.nil] at hb <;> subst hb <;> rfl) (by rfl) (by first | rfl | simp) ?_
    simp -dsimp -implicitDefEqProofs [c_impl_first, r_impl_first]
    refine wpLoop_st (fun (i : Nat) => ⟨tl [(3, cellL 0 (upTo i)), (6, .int .i64 n), (7, .int .i64 i)], ⟨objL (upTo i)⟩⟩) (fun i => i ≤ n) (fun i => n - i) 0 (by omega) (Sub.keep (by simp) (by simp [hsub, upTo, objL_nil]) (by simp [upTo, objL_nil, cellL_nil])) ?_
    intro i hi
    rcases Nat.eq_zero_or_pos i with rfl | hi0
    · simp only [upTo, cellL_nil, objL_nil]
      have hm : 1 * 9 ≤ mostBytes := by decide
      have hw : IntKind.i64.wrap 1 = 1 := rfl
      simp -dsimp -implicitDefEqProofs [hn, hm, hw]
      refine .mk 1 (by omega) (by omega) ?_
      rw [cellL_cons (upTo_ne (by omega)), objL_cons (upTo_ne (by omega))]
      exact Sub.mk' (fun b => if b = 0 then 1 else b) (by simp) (by intro b hb; omega) (by rfl) (by simp [hsub, upTo, flat_in]) (by simp [hw])
    · rw [cellL_cons (upTo_ne hi0), objL_cons (upTo_ne hi0)]
      simp -dsimp -implicitDefEqProofs
      refine brW_of (fun h => ?_) (fun h => ?_) <;> simp only [decide_eq_true_eq, decide_eq_false_iff_not] at h
      · have hw := wrapNat (i := i) (by omega)
        have hm : (i + 1) * 9 ≤ mostBytes := by simp only [mostBytes]; omega
        have hfit : ¬ (i + 1 ≤ i) := by omega
        have htl : (flatA (insA (upTo i))).take i = flatA (insA (upTo i)) := List.take_of_length_le (by simp)
        have hst := first_step i
        simp -dsimp -implicitDefEqProofs [hw, hm, hfit, htl, hst]
        refine .mk (i + 1) (by omega) (by omega) ?_
        rw [cellL_cons (upTo_ne (by omega)), objL_cons (upTo_ne (by omega))]
        exact Sub.mk' (fun b => if b = 0 then 2 else b) (by simp) (by intro b hb; omega) (by rfl) (by simp [hsub]) (by simp [hw])
      · have : i = n := by omega
        subst this
        simp -dsimp -implicitDefEqProofs [hsub]
end Go.Proofs.YtgiakpeneckgfaaAi
end

section
/- Plain law: a part that is split. -/
namespace Go.Proofs.YtgiakpeneckgfaaAi
open Go Go.RowKit
set_option linter.unusedVariables false
set_option linter.unusedSimpArgs false
set_option maxRecDepth 20000

def spP (n part : Nat) : List Int := upTo n ++ [(part : Int)]
def spE (n e l part : Nat) : Nat := madeE (fun i j => joinB e l (atI (spP n part) i) (atI (spP n part) j)) (n + 1)
def lfG (l : Int) (P : List Int) : Nat → Nat
  | 0 => 0
  | i + 1 => if loopB l (atI P i) = true then lfG l P i ||| 2 ^ i else lfG l P i
def spL (n l part : Nat) : Nat := lfG l (spP n part) (n + 1)
def seF (n e l part : Nat) : Nat → Nat
  | 0 => e
  | i + 1 => if joinB e l i part = true then seF n e l part i ||| 2 ^ bitI i n else seF n e l part i
def slF (n l part : Nat) : Nat := if loopB l part = true then l ||| 2 ^ n else l
theorem split_all : (∀ e : Fin 1, ∀ l : Fin 2, ∀ part : Fin 1, seF 1 e l part 1 = spE 1 e l part ∧ slF 1 l part = spL 1 l part) ∧ (∀ e : Fin 2, ∀ l : Fin 4, ∀ part : Fin 2, seF 2 e l part 2 = spE 2 e l part ∧ slF 2 l part = spL 2 l part) ∧ (∀ e : Fin 8, ∀ l : Fin 8, ∀ part : Fin 3, seF 3 e l part 3 = spE 3 e l part ∧ slF 3 l part = spL 3 l part) := by decide +kernel
theorem split_same {n e l part : Nat} (hn : 1 ≤ n ∧ n ≤ 3) (he : e < 2 ^ (n * (n - 1) / 2)) (hl : l < 2 ^ n) (hp : part < n) : seF n e l part n = spE n e l part ∧ slF n l part = spL n l part := by
  obtain ⟨h1, h2, h3⟩ := split_all
  have h5 : n = 1 ∨ n = 2 ∨ n = 3 := by omega
  rcases h5 with rfl | rfl | rfl
  · exact h1 ⟨e, by simpa using he⟩ ⟨l, by simpa using hl⟩ ⟨part, hp⟩
  · exact h2 ⟨e, by simpa using he⟩ ⟨l, by simpa using hl⟩ ⟨part, hp⟩
  · exact h3 ⟨e, by simpa using he⟩ ⟨l, by simpa using hl⟩ ⟨part, hp⟩
end Go.Proofs.YtgiakpeneckgfaaAi
end

section
/- MADE BY PROGRAM (wip/tools/gen.py): the abstract code of functions. -/
namespace Go.Proofs.YtgiakpeneckgfaaAi
open Go AC AOp Opd
set_option linter.unusedVariables false
set_option maxRecDepth 100000
def c_impl_Pattern_remade_1 : AC := seq (reg [⟨(some 6), mv (c (.bool false)), none⟩]) (seq (reg [⟨(some 7), ld (t 2) 1 false, none⟩, ⟨(some 8), ld (t 3) 1 false, none⟩, ⟨(some 9), mv (t 0), none⟩, ⟨(some 10), iad 1 (t 8) (t 9), none⟩, ⟨(some 11), ld (t 10) 1 false, none⟩, ⟨(some 12), ld (t 3) 1 false, none⟩, ⟨(some 13), mv (t 1), none⟩, ⟨(some 14), iad 1 (t 12) (t 13), none⟩, ⟨(some 15), ld (t 14) 1 false, none⟩, ⟨(some 16), calle (c (.fn 58 [])) [t 7, t 11, t 15] [], none⟩, ⟨(some 6), mv (t 16), none⟩]) (ret))
def r_impl_Pattern_remade_1 : List ARes := [.tmp 6]
theorem k_impl_Pattern_remade_1 : acLin Go.Proofs.Try.prog 57 4 (inQ [] [58]) [⟨false, none, [], [], none⟩, ⟨false, some [0, 1, 2, 3, 4, 5, 6, 7, 8, 9, 10], [], [], none⟩] = some (c_impl_Pattern_remade_1, r_impl_Pattern_remade_1) := by kernel_rfl
def c_impl_Pattern_remade : AC := seq (reg [⟨(some 3), box 1 (t 0), none⟩, ⟨(some 4), box 1 (t 1), none⟩, ⟨(some 6), alloc [.int .i64 0, .int .u32 0, .int .u32 0, .sl [] true], none⟩]) (seq (reg [⟨(some 10), mv (t 2), none⟩, ⟨(some 11), bld [.int .i64 0, .int .u32 0, .int .u32 0, .sl [] true] [(3, 1, t 10)], none⟩, ⟨(some 7), alloc [.int .i64 0, .int .u32 0, .int .u32 0, .sl [] true], none⟩, ⟨none, st (t 7) 4 (t 11), none⟩]) (seq (reg [⟨(some 12), ld (t 4) 1 false, none⟩, ⟨(some 13), len (t 12), none⟩, ⟨(some 14), mkf 57 [t 3, t 4], none⟩, ⟨(some 15), calle (c (.fn 56 [])) [t 13, t 14] [], none⟩, ⟨(some 16), fad (t 7) 0, none⟩, ⟨none, st (t 16) 2 (t 15), none⟩]) (seq (seq (reg [⟨(some 17), ld (t 4) 1 false, none⟩, ⟨(some 18), len (t 17), none⟩, ⟨(some 19), mv (c (.int .i64 0)), none⟩]) (block 0 (loop (seq (reg [⟨(some 20), bin .lss (t 19) (t 18), none⟩]) (seq (cond (t 20) (skip) (exit 0)) (seq (block 1 (seq (reg [⟨(some 21), mv (t 19), none⟩, ⟨(some 22), iad 1 (t 17) (t 19), none⟩, ⟨(some 23), ld (t 22) 1 false, none⟩, ⟨(some 8), mv (t 21), none⟩, ⟨(some 9), mv (t 23), none⟩]) (seq (reg [⟨(some 24), ld (t 3) 1 false, none⟩, ⟨(some 25), mv (t 9), none⟩, ⟨(some 26), calle (c (.fn 59 [])) [t 24, t 25] [], none⟩]) (cond (t 26) (reg [⟨(some 27), fad (t 7) 2, none⟩, ⟨(some 28), ld (t 27) 1 false, none⟩, ⟨(some 29), mv (t 8), none⟩, ⟨(some 30), bin .shl (c (.int .u32 1)) (t 29), none⟩, ⟨(some 31), bin .or (t 28) (t 30), none⟩, ⟨(some 32), fad (t 7) 2, none⟩, ⟨none, st (t 32) 1 (t 31), none⟩]) (skip))))) (reg [⟨(some 33), bin .add (t 19) (c (.int .i64 1)), none⟩, ⟨(some 19), mv (t 33), none⟩]))))))) (seq (reg [⟨(some 34), ld (t 7) 4 true, none⟩, ⟨none, st (t 6) 4 (t 34), none⟩]) (ret)))))
def r_impl_Pattern_remade : List ARes := [.cell 6 4 true]
theorem k_impl_Pattern_remade : acLin Go.Proofs.Try.prog 31 3 (inQ [] [56, 59]) [⟨false, none, [], [], none⟩, ⟨false, none, [], [], none⟩, ⟨false, none, [], [], none⟩, ⟨false, none, [], [], none⟩, ⟨false, none, [], [], none⟩, ⟨false, none, [], [], none⟩, ⟨false, none, [], [], none⟩, ⟨false, none, [], [], none⟩, ⟨false, some [0, 1, 2, 3, 4, 5, 6], [], [], none⟩] = some (c_impl_Pattern_remade, r_impl_Pattern_remade) := by kernel_rfl
def c_impl_sums_toldPattern : AC := seq (reg [⟨(some 3), box 4 (t 1), none⟩, ⟨(some 4), alloc [.int .i64 0, .int .u32 0, .int .u32 0, .sl [] true], none⟩, ⟨(some 5), mv (c (.int .i64 0)), none⟩]) (seq (seq (reg [⟨(some 6), mv (t 0), none⟩, ⟨(some 7), nilc (t 6), none⟩, ⟨(some 8), fad (t 7) 0, none⟩, ⟨(some 9), ld (t 8) 1 false, none⟩, ⟨(some 10), mv (t 9), none⟩, ⟨(some 11), ld (t 3) 4 true, some (10, false)⟩, ⟨(some 12), calle (c (.fn 24 [])) [t 11] [], some (10, false)⟩, ⟨(some 13), un .not (t 12), some (10, false)⟩, ⟨(some 14), pick (t 10) (c (.bool true)) (t 13), none⟩]) (cond (t 14) (seq (reg [⟨(some 15), bld [.int .i64 0, .int .u32 0, .int .u32 0, .sl [] true] [], none⟩, ⟨none, st (t 4) 4 (t 15), none⟩, ⟨(some 5), mv (c (.int .i64 3)), none⟩]) (ret)) (skip))) (seq (reg [⟨(some 16), ld (t 3) 4 true, none⟩, ⟨none, st (t 4) 4 (t 16), none⟩, ⟨(some 5), mv (c (.int .i64 0)), none⟩]) (ret)))
def r_impl_sums_toldPattern : List ARes := [.cell 4 4 true, .tmp 5]
theorem k_impl_sums_toldPattern : acLin Go.Proofs.Try.prog 30 2 (inQ [] [24]) [] = some (c_impl_sums_toldPattern, r_impl_sums_toldPattern) := by kernel_rfl
def c_impl_SplitPart : AC := seq (reg [⟨(some 3), box 4 (t 0), none⟩, ⟨(some 5), box 2 (t 2), none⟩, ⟨(some 6), alloc [.int .i64 0, .int .u32 0, .int .u32 0, .sl [] true], none⟩, ⟨(some 7), mv (c (.int .i64 0)), none⟩]) (seq (seq (reg [⟨(some 11), ld (t 3) 4 true, none⟩, ⟨(some 12), calle (c (.fn 24 [])) [t 11] [], none⟩, ⟨(some 13), un .not (t 12), none⟩]) (cond (t 13) (seq (reg [⟨(some 14), bld [.int .i64 0, .int .u32 0, .int .u32 0, .sl [] true] [], none⟩, ⟨none, st (t 6) 4 (t 14), none⟩, ⟨(some 7), mv (c (.int .i64 1)), none⟩]) (ret)) (skip))) (seq (block 0 (seq (reg [⟨(some 16), mv (t 1), none⟩, ⟨(some 17), fad (t 3) 0, none⟩, ⟨(some 18), fad (t 17) 0, none⟩, ⟨(some 19), ld (t 18) 1 false, none⟩, ⟨(some 20), bin .sub (t 19) (c (.int .i64 1)), none⟩, ⟨(some 21), callq (c (.fn 25 [])) [t 16, c (.int .i64 0), t 20], none⟩, ⟨(some 22), un .not (t 21), none⟩, ⟨(some 23), mv (t 22), none⟩, ⟨(some 24), ld (t 5) 2 true, some (23, false)⟩, ⟨(some 25), callq (c (.fn 26 [])) [t 24], some (23, false)⟩, ⟨(some 26), pick (t 23) (c (.bool true)) (t 25), none⟩, ⟨(some 27), mv (t 26), none⟩, ⟨(some 28), fad (t 5) 0, some (27, false)⟩, ⟨(some 29), ld (t 28) 1 false, some (27, false)⟩, ⟨(some 30), bin .lss (t 29) (c (.int .i64 0)), some (27, false)⟩, ⟨(some 31), pick (t 27) (c (.bool true)) (t 30), none⟩, ⟨(some 32), mv (t 31), none⟩, ⟨(some 33), fad (t 5) 0, some (32, false)⟩, ⟨(some 34), ld (t 33) 1 false, some (32, false)⟩, ⟨(some 35), fad (t 5) 1, some (32, false)⟩, ⟨(some 36), ld (t 35) 1 false, some (32, false)⟩, ⟨(some 37), bin .gtr (t 34) (t 36), some (32, false)⟩, ⟨(some 38), pick (t 32) (c (.bool true)) (t 37), none⟩, ⟨(some 15), mv (t 38), none⟩]) (cond (t 15) (seq (reg [⟨(some 39), bld [.int .i64 0, .int .u32 0, .int .u32 0, .sl [] true] [], none⟩, ⟨none, st (t 6) 4 (t 39), none⟩, ⟨(some 7), mv (c (.int .i64 2)), none⟩]) (ret)) (seq (reg [⟨(some 41), fad (t 3) 0, none⟩, ⟨(some 42), fad (t 41) 0, none⟩, ⟨(some 43), ld (t 42) 1 false, none⟩, ⟨(some 44), bin .eql (t 43) (c (.int .i64 4)), none⟩, ⟨(some 40), mv (t 44), none⟩]) (cond (t 40) (seq (reg [⟨(some 45), bld [.int .i64 0, .int .u32 0, .int .u32 0, .sl [] true] [], none⟩, ⟨none, st (t 6) 4 (t 45), none⟩, ⟨(some 7), mv (c (.int .i64 3)), none⟩]) (ret)) (skip)))))) (seq (reg [⟨(some 46), bld [.bool false] [], none⟩, ⟨(some 47), fad (t 3) 3, none⟩, ⟨(some 48), ld (t 47) 1 false, none⟩, ⟨(some 49), calle (c (.fn 27 [])) [t 48] [], none⟩, ⟨(some 8), alloc [.bool false], none⟩, ⟨none, st (t 8) 1 (t 46), none⟩, ⟨(some 9), mv (t 49), none⟩]) (seq (reg [⟨(some 50), ld (t 5) 2 true, none⟩, ⟨(some 51), mv (t 9), none⟩, ⟨(some 52), mv (t 1), none⟩, ⟨(some 53), iad 2 (t 51) (t 52), none⟩, ⟨(some 54), ld (t 53) 2 true, none⟩, ⟨(some 55), calle (c (.fn 28 [])) [t 8, t 50, t 54] [], none⟩, ⟨(some 10), alloc [.int .i64 0, .int .i64 0], none⟩, ⟨none, st (t 10) 2 (t 55), none⟩]) (seq (reg [⟨(some 56), mv (t 9), none⟩, ⟨(some 57), mv (t 1), none⟩, ⟨(some 58), mv (t 9), none⟩, ⟨(some 59), mv (t 1), none⟩, ⟨(some 60), iad 2 (t 58) (t 59), none⟩, ⟨(some 61), ld (t 60) 2 true, none⟩, ⟨(some 62), ld (t 10) 2 true, none⟩, ⟨(some 63), calle (c (.fn 29 [])) [t 8, t 61, t 62] [], none⟩, ⟨(some 64), iad 2 (t 56) (t 57), none⟩, ⟨none, st (t 64) 2 (t 63), none⟩]) (seq (tree (.op ⟨(some 65), fad (t 3) 0, none⟩ (.op ⟨(some 66), fad (t 65) 0, none⟩ (.op ⟨(some 67), ld (t 66) 1 false, none⟩ (.op ⟨(some 69), mv (t 1), none⟩ (.op ⟨(some 72), mv (t 9), none⟩ (.both (.op ⟨(some 68), calle (c (.fn 32 [])) [t 67] [], none⟩ (.both (.op ⟨(some 70), bsl 1 1 [.int .i64 0] [(0, t 69)], none⟩ (.both (.op ⟨(some 71), app 1 8 (t 68) (t 70), none⟩ (.op ⟨(some 73), ld (t 10) 2 true, none⟩ (.op ⟨(some 74), bsl 2 1 [.int .i64 0, .int .i64 0] [(0, t 73)], none⟩ (.op ⟨(some 75), app 2 16 (t 72) (t 74), none⟩ (.op ⟨(some 76), calle (c (.fn 31 [])) [t 3, t 71, t 75] [], none⟩ (.op ⟨(some 77), calle (c (.fn 30 [])) [t 8, t 76] [], none⟩ (.op ⟨(some 78), ext (t 77) 0, none⟩ (.op ⟨(some 79), ext (t 77) 1, none⟩ (.op ⟨none, st (t 6) 4 (t 78), none⟩ (.op ⟨(some 7), mv (t 79), none⟩ .done)))))))))) (.op ⟨(some 73), ld (t 10) 2 true, none⟩ (.both (.op ⟨(some 71), app 1 8 (t 68) (t 70), none⟩ (.op ⟨(some 74), bsl 2 1 [.int .i64 0, .int .i64 0] [(0, t 73)], none⟩ (.op ⟨(some 75), app 2 16 (t 72) (t 74), none⟩ (.op ⟨(some 76), calle (c (.fn 31 [])) [t 3, t 71, t 75] [], none⟩ (.op ⟨(some 77), calle (c (.fn 30 [])) [t 8, t 76] [], none⟩ (.op ⟨(some 78), ext (t 77) 0, none⟩ (.op ⟨(some 79), ext (t 77) 1, none⟩ (.op ⟨none, st (t 6) 4 (t 78), none⟩ (.op ⟨(some 7), mv (t 79), none⟩ .done))))))))) (.op ⟨(some 74), bsl 2 1 [.int .i64 0, .int .i64 0] [(0, t 73)], none⟩ (.op ⟨(some 71), app 1 8 (t 68) (t 70), none⟩ (.op ⟨(some 75), app 2 16 (t 72) (t 74), none⟩ (.op ⟨(some 76), calle (c (.fn 31 [])) [t 3, t 71, t 75] [], none⟩ (.op ⟨(some 77), calle (c (.fn 30 [])) [t 8, t 76] [], none⟩ (.op ⟨(some 78), ext (t 77) 0, none⟩ (.op ⟨(some 79), ext (t 77) 1, none⟩ (.op ⟨none, st (t 6) 4 (t 78), none⟩ (.op ⟨(some 7), mv (t 79), none⟩ .done))))))))))))) (.op ⟨(some 73), ld (t 10) 2 true, none⟩ (.both (.op ⟨(some 70), bsl 1 1 [.int .i64 0] [(0, t 69)], none⟩ (.both (.op ⟨(some 71), app 1 8 (t 68) (t 70), none⟩ (.op ⟨(some 74), bsl 2 1 [.int .i64 0, .int .i64 0] [(0, t 73)], none⟩ (.op ⟨(some 75), app 2 16 (t 72) (t 74), none⟩ (.op ⟨(some 76), calle (c (.fn 31 [])) [t 3, t 71, t 75] [], none⟩ (.op ⟨(some 77), calle (c (.fn 30 [])) [t 8, t 76] [], none⟩ (.op ⟨(some 78), ext (t 77) 0, none⟩ (.op ⟨(some 79), ext (t 77) 1, none⟩ (.op ⟨none, st (t 6) 4 (t 78), none⟩ (.op ⟨(some 7), mv (t 79), none⟩ .done))))))))) (.op ⟨(some 74), bsl 2 1 [.int .i64 0, .int .i64 0] [(0, t 73)], none⟩ (.op ⟨(some 71), app 1 8 (t 68) (t 70), none⟩ (.op ⟨(some 75), app 2 16 (t 72) (t 74), none⟩ (.op ⟨(some 76), calle (c (.fn 31 [])) [t 3, t 71, t 75] [], none⟩ (.op ⟨(some 77), calle (c (.fn 30 [])) [t 8, t 76] [], none⟩ (.op ⟨(some 78), ext (t 77) 0, none⟩ (.op ⟨(some 79), ext (t 77) 1, none⟩ (.op ⟨none, st (t 6) 4 (t 78), none⟩ (.op ⟨(some 7), mv (t 79), none⟩ .done))))))))))) (.op ⟨(some 74), bsl 2 1 [.int .i64 0, .int .i64 0] [(0, t 73)], none⟩ (.op ⟨(some 70), bsl 1 1 [.int .i64 0] [(0, t 69)], none⟩ (.op ⟨(some 71), app 1 8 (t 68) (t 70), none⟩ (.op ⟨(some 75), app 2 16 (t 72) (t 74), none⟩ (.op ⟨(some 76), calle (c (.fn 31 [])) [t 3, t 71, t 75] [], none⟩ (.op ⟨(some 77), calle (c (.fn 30 [])) [t 8, t 76] [], none⟩ (.op ⟨(some 78), ext (t 77) 0, none⟩ (.op ⟨(some 79), ext (t 77) 1, none⟩ (.op ⟨none, st (t 6) 4 (t 78), none⟩ (.op ⟨(some 7), mv (t 79), none⟩ .done)))))))))))))) (.both (.op ⟨(some 70), bsl 1 1 [.int .i64 0] [(0, t 69)], none⟩ (.both (.op ⟨(some 68), calle (c (.fn 32 [])) [t 67] [], none⟩ (.both (.op ⟨(some 71), app 1 8 (t 68) (t 70), none⟩ (.op ⟨(some 73), ld (t 10) 2 true, none⟩ (.op ⟨(some 74), bsl 2 1 [.int .i64 0, .int .i64 0] [(0, t 73)], none⟩ (.op ⟨(some 75), app 2 16 (t 72) (t 74), none⟩ (.op ⟨(some 76), calle (c (.fn 31 [])) [t 3, t 71, t 75] [], none⟩ (.op ⟨(some 77), calle (c (.fn 30 [])) [t 8, t 76] [], none⟩ (.op ⟨(some 78), ext (t 77) 0, none⟩ (.op ⟨(some 79), ext (t 77) 1, none⟩ (.op ⟨none, st (t 6) 4 (t 78), none⟩ (.op ⟨(some 7), mv (t 79), none⟩ .done)))))))))) (.op ⟨(some 73), ld (t 10) 2 true, none⟩ (.both (.op ⟨(some 71), app 1 8 (t 68) (t 70), none⟩ (.op ⟨(some 74), bsl 2 1 [.int .i64 0, .int .i64 0] [(0, t 73)], none⟩ (.op ⟨(some 75), app 2 16 (t 72) (t 74), none⟩ (.op ⟨(some 76), calle (c (.fn 31 [])) [t 3, t 71, t 75] [], none⟩ (.op ⟨(some 77), calle (c (.fn 30 [])) [t 8, t 76] [], none⟩ (.op ⟨(some 78), ext (t 77) 0, none⟩ (.op ⟨(some 79), ext (t 77) 1, none⟩ (.op ⟨none, st (t 6) 4 (t 78), none⟩ (.op ⟨(some 7), mv (t 79), none⟩ .done))))))))) (.op ⟨(some 74), bsl 2 1 [.int .i64 0, .int .i64 0] [(0, t 73)], none⟩ (.op ⟨(some 71), app 1 8 (t 68) (t 70), none⟩ (.op ⟨(some 75), app 2 16 (t 72) (t 74), none⟩ (.op ⟨(some 76), calle (c (.fn 31 [])) [t 3, t 71, t 75] [], none⟩ (.op ⟨(some 77), calle (c (.fn 30 [])) [t 8, t 76] [], none⟩ (.op ⟨(some 78), ext (t 77) 0, none⟩ (.op ⟨(some 79), ext (t 77) 1, none⟩ (.op ⟨none, st (t 6) 4 (t 78), none⟩ (.op ⟨(some 7), mv (t 79), none⟩ .done))))))))))))) (.op ⟨(some 73), ld (t 10) 2 true, none⟩ (.both (.op ⟨(some 68), calle (c (.fn 32 [])) [t 67] [], none⟩ (.both (.op ⟨(some 71), app 1 8 (t 68) (t 70), none⟩ (.op ⟨(some 74), bsl 2 1 [.int .i64 0, .int .i64 0] [(0, t 73)], none⟩ (.op ⟨(some 75), app 2 16 (t 72) (t 74), none⟩ (.op ⟨(some 76), calle (c (.fn 31 [])) [t 3, t 71, t 75] [], none⟩ (.op ⟨(some 77), calle (c (.fn 30 [])) [t 8, t 76] [], none⟩ (.op ⟨(some 78), ext (t 77) 0, none⟩ (.op ⟨(some 79), ext (t 77) 1, none⟩ (.op ⟨none, st (t 6) 4 (t 78), none⟩ (.op ⟨(some 7), mv (t 79), none⟩ .done))))))))) (.op ⟨(some 74), bsl 2 1 [.int .i64 0, .int .i64 0] [(0, t 73)], none⟩ (.op ⟨(some 71), app 1 8 (t 68) (t 70), none⟩ (.op ⟨(some 75), app 2 16 (t 72) (t 74), none⟩ (.op ⟨(some 76), calle (c (.fn 31 [])) [t 3, t 71, t 75] [], none⟩ (.op ⟨(some 77), calle (c (.fn 30 [])) [t 8, t 76] [], none⟩ (.op ⟨(some 78), ext (t 77) 0, none⟩ (.op ⟨(some 79), ext (t 77) 1, none⟩ (.op ⟨none, st (t 6) 4 (t 78), none⟩ (.op ⟨(some 7), mv (t 79), none⟩ .done))))))))))) (.op ⟨(some 74), bsl 2 1 [.int .i64 0, .int .i64 0] [(0, t 73)], none⟩ (.op ⟨(some 68), calle (c (.fn 32 [])) [t 67] [], none⟩ (.op ⟨(some 71), app 1 8 (t 68) (t 70), none⟩ (.op ⟨(some 75), app 2 16 (t 72) (t 74), none⟩ (.op ⟨(some 76), calle (c (.fn 31 [])) [t 3, t 71, t 75] [], none⟩ (.op ⟨(some 77), calle (c (.fn 30 [])) [t 8, t 76] [], none⟩ (.op ⟨(some 78), ext (t 77) 0, none⟩ (.op ⟨(some 79), ext (t 77) 1, none⟩ (.op ⟨none, st (t 6) 4 (t 78), none⟩ (.op ⟨(some 7), mv (t 79), none⟩ .done)))))))))))))) (.op ⟨(some 73), ld (t 10) 2 true, none⟩ (.both (.op ⟨(some 68), calle (c (.fn 32 [])) [t 67] [], none⟩ (.both (.op ⟨(some 70), bsl 1 1 [.int .i64 0] [(0, t 69)], none⟩ (.both (.op ⟨(some 71), app 1 8 (t 68) (t 70), none⟩ (.op ⟨(some 74), bsl 2 1 [.int .i64 0, .int .i64 0] [(0, t 73)], none⟩ (.op ⟨(some 75), app 2 16 (t 72) (t 74), none⟩ (.op ⟨(some 76), calle (c (.fn 31 [])) [t 3, t 71, t 75] [], none⟩ (.op ⟨(some 77), calle (c (.fn 30 [])) [t 8, t 76] [], none⟩ (.op ⟨(some 78), ext (t 77) 0, none⟩ (.op ⟨(some 79), ext (t 77) 1, none⟩ (.op ⟨none, st (t 6) 4 (t 78), none⟩ (.op ⟨(some 7), mv (t 79), none⟩ .done))))))))) (.op ⟨(some 74), bsl 2 1 [.int .i64 0, .int .i64 0] [(0, t 73)], none⟩ (.op ⟨(some 71), app 1 8 (t 68) (t 70), none⟩ (.op ⟨(some 75), app 2 16 (t 72) (t 74), none⟩ (.op ⟨(some 76), calle (c (.fn 31 [])) [t 3, t 71, t 75] [], none⟩ (.op ⟨(some 77), calle (c (.fn 30 [])) [t 8, t 76] [], none⟩ (.op ⟨(some 78), ext (t 77) 0, none⟩ (.op ⟨(some 79), ext (t 77) 1, none⟩ (.op ⟨none, st (t 6) 4 (t 78), none⟩ (.op ⟨(some 7), mv (t 79), none⟩ .done))))))))))) (.op ⟨(some 74), bsl 2 1 [.int .i64 0, .int .i64 0] [(0, t 73)], none⟩ (.op ⟨(some 70), bsl 1 1 [.int .i64 0] [(0, t 69)], none⟩ (.op ⟨(some 71), app 1 8 (t 68) (t 70), none⟩ (.op ⟨(some 75), app 2 16 (t 72) (t 74), none⟩ (.op ⟨(some 76), calle (c (.fn 31 [])) [t 3, t 71, t 75] [], none⟩ (.op ⟨(some 77), calle (c (.fn 30 [])) [t 8, t 76] [], none⟩ (.op ⟨(some 78), ext (t 77) 0, none⟩ (.op ⟨(some 79), ext (t 77) 1, none⟩ (.op ⟨none, st (t 6) 4 (t 78), none⟩ (.op ⟨(some 7), mv (t 79), none⟩ .done)))))))))))) (.both (.op ⟨(some 70), bsl 1 1 [.int .i64 0] [(0, t 69)], none⟩ (.both (.op ⟨(some 68), calle (c (.fn 32 [])) [t 67] [], none⟩ (.both (.op ⟨(some 71), app 1 8 (t 68) (t 70), none⟩ (.op ⟨(some 74), bsl 2 1 [.int .i64 0, .int .i64 0] [(0, t 73)], none⟩ (.op ⟨(some 75), app 2 16 (t 72) (t 74), none⟩ (.op ⟨(some 76), calle (c (.fn 31 [])) [t 3, t 71, t 75] [], none⟩ (.op ⟨(some 77), calle (c (.fn 30 [])) [t 8, t 76] [], none⟩ (.op ⟨(some 78), ext (t 77) 0, none⟩ (.op ⟨(some 79), ext (t 77) 1, none⟩ (.op ⟨none, st (t 6) 4 (t 78), none⟩ (.op ⟨(some 7), mv (t 79), none⟩ .done))))))))) (.op ⟨(some 74), bsl 2 1 [.int .i64 0, .int .i64 0] [(0, t 73)], none⟩ (.op ⟨(some 71), app 1 8 (t 68) (t 70), none⟩ (.op ⟨(some 75), app 2 16 (t 72) (t 74), none⟩ (.op ⟨(some 76), calle (c (.fn 31 [])) [t 3, t 71, t 75] [], none⟩ (.op ⟨(some 77), calle (c (.fn 30 [])) [t 8, t 76] [], none⟩ (.op ⟨(some 78), ext (t 77) 0, none⟩ (.op ⟨(some 79), ext (t 77) 1, none⟩ (.op ⟨none, st (t 6) 4 (t 78), none⟩ (.op ⟨(some 7), mv (t 79), none⟩ .done))))))))))) (.op ⟨(some 74), bsl 2 1 [.int .i64 0, .int .i64 0] [(0, t 73)], none⟩ (.op ⟨(some 68), calle (c (.fn 32 [])) [t 67] [], none⟩ (.op ⟨(some 71), app 1 8 (t 68) (t 70), none⟩ (.op ⟨(some 75), app 2 16 (t 72) (t 74), none⟩ (.op ⟨(some 76), calle (c (.fn 31 [])) [t 3, t 71, t 75] [], none⟩ (.op ⟨(some 77), calle (c (.fn 30 [])) [t 8, t 76] [], none⟩ (.op ⟨(some 78), ext (t 77) 0, none⟩ (.op ⟨(some 79), ext (t 77) 1, none⟩ (.op ⟨none, st (t 6) 4 (t 78), none⟩ (.op ⟨(some 7), mv (t 79), none⟩ .done)))))))))))) (.op ⟨(some 74), bsl 2 1 [.int .i64 0, .int .i64 0] [(0, t 73)], none⟩ (.both (.op ⟨(some 68), calle (c (.fn 32 [])) [t 67] [], none⟩ (.op ⟨(some 70), bsl 1 1 [.int .i64 0] [(0, t 69)], none⟩ (.op ⟨(some 71), app 1 8 (t 68) (t 70), none⟩ (.op ⟨(some 75), app 2 16 (t 72) (t 74), none⟩ (.op ⟨(some 76), calle (c (.fn 31 [])) [t 3, t 71, t 75] [], none⟩ (.op ⟨(some 77), calle (c (.fn 30 [])) [t 8, t 76] [], none⟩ (.op ⟨(some 78), ext (t 77) 0, none⟩ (.op ⟨(some 79), ext (t 77) 1, none⟩ (.op ⟨none, st (t 6) 4 (t 78), none⟩ (.op ⟨(some 7), mv (t 79), none⟩ .done)))))))))) (.op ⟨(some 70), bsl 1 1 [.int .i64 0] [(0, t 69)], none⟩ (.op ⟨(some 68), calle (c (.fn 32 [])) [t 67] [], none⟩ (.op ⟨(some 71), app 1 8 (t 68) (t 70), none⟩ (.op ⟨(some 75), app 2 16 (t 72) (t 74), none⟩ (.op ⟨(some 76), calle (c (.fn 31 [])) [t 3, t 71, t 75] [], none⟩ (.op ⟨(some 77), calle (c (.fn 30 [])) [t 8, t 76] [], none⟩ (.op ⟨(some 78), ext (t 77) 0, none⟩ (.op ⟨(some 79), ext (t 77) 1, none⟩ (.op ⟨none, st (t 6) 4 (t 78), none⟩ (.op ⟨(some 7), mv (t 79), none⟩ .done))))))))))))))))))))))) (ret)))))))
def r_impl_SplitPart : List ARes := [.cell 6 4 true, .tmp 7]
theorem k_impl_SplitPart : acLin Go.Proofs.Try.prog 8 3 (inQ [25, 26] [24, 27, 28, 29, 30, 31, 32]) [⟨false, none, [], [], none⟩, ⟨false, none, [], [], none⟩, ⟨false, none, [], [], none⟩, ⟨false, none, [], [], none⟩, ⟨false, none, [], [], none⟩, ⟨false, none, [], [], none⟩, ⟨false, none, [], [], none⟩, ⟨false, none, [], [], none⟩, ⟨false, none, [], [], none⟩, ⟨false, none, [], [], none⟩, ⟨false, none, [], [], none⟩, ⟨false, some [0, 1, 2, 3, 4, 5, 6, 7], [], [(6, [5])], none⟩, ⟨false, some [0, 1, 2, 3, 4, 5, 6, 7, 8, 9], [], [], none⟩, ⟨false, none, [], [], some (.step 0 (.step 1 (.step 2 (.step 4 (.step 7 (.alt 3 (.alt 5 (.alt 6 (.step 8 (.step 9 (.step 10 (.step 11 (.step 12 (.step 13 (.step 14 (.step 15 (.step 16 .done))))))))) (.last 8 (.alt 6 (.step 9 (.step 10 (.step 11 (.step 12 (.step 13 (.step 14 (.step 15 (.step 16 .done)))))))) (.last 9 (.step 6 (.step 10 (.step 11 (.step 12 (.step 13 (.step 14 (.step 15 (.step 16 .done)))))))))))) (.last 8 (.alt 5 (.alt 6 (.step 9 (.step 10 (.step 11 (.step 12 (.step 13 (.step 14 (.step 15 (.step 16 .done)))))))) (.last 9 (.step 6 (.step 10 (.step 11 (.step 12 (.step 13 (.step 14 (.step 15 (.step 16 .done)))))))))) (.last 9 (.step 5 (.step 6 (.step 10 (.step 11 (.step 12 (.step 13 (.step 14 (.step 15 (.step 16 .done))))))))))))) (.alt 5 (.alt 3 (.alt 6 (.step 8 (.step 9 (.step 10 (.step 11 (.step 12 (.step 13 (.step 14 (.step 15 (.step 16 .done))))))))) (.last 8 (.alt 6 (.step 9 (.step 10 (.step 11 (.step 12 (.step 13 (.step 14 (.step 15 (.step 16 .done)))))))) (.last 9 (.step 6 (.step 10 (.step 11 (.step 12 (.step 13 (.step 14 (.step 15 (.step 16 .done)))))))))))) (.last 8 (.alt 3 (.alt 6 (.step 9 (.step 10 (.step 11 (.step 12 (.step 13 (.step 14 (.step 15 (.step 16 .done)))))))) (.last 9 (.step 6 (.step 10 (.step 11 (.step 12 (.step 13 (.step 14 (.step 15 (.step 16 .done)))))))))) (.last 9 (.step 3 (.step 6 (.step 10 (.step 11 (.step 12 (.step 13 (.step 14 (.step 15 (.step 16 .done))))))))))))) (.last 8 (.alt 3 (.alt 5 (.alt 6 (.step 9 (.step 10 (.step 11 (.step 12 (.step 13 (.step 14 (.step 15 (.step 16 .done)))))))) (.last 9 (.step 6 (.step 10 (.step 11 (.step 12 (.step 13 (.step 14 (.step 15 (.step 16 .done)))))))))) (.last 9 (.step 5 (.step 6 (.step 10 (.step 11 (.step 12 (.step 13 (.step 14 (.step 15 (.step 16 .done))))))))))) (.alt 5 (.alt 3 (.alt 6 (.step 9 (.step 10 (.step 11 (.step 12 (.step 13 (.step 14 (.step 15 (.step 16 .done)))))))) (.last 9 (.step 6 (.step 10 (.step 11 (.step 12 (.step 13 (.step 14 (.step 15 (.step 16 .done)))))))))) (.last 9 (.step 3 (.step 6 (.step 10 (.step 11 (.step 12 (.step 13 (.step 14 (.step 15 (.step 16 .done))))))))))) (.last 9 (.alt 3 (.step 5 (.step 6 (.step 10 (.step 11 (.step 12 (.step 13 (.step 14 (.step 15 (.step 16 .done))))))))) (.last 5 (.step 3 (.step 6 (.step 10 (.step 11 (.step 12 (.step 13 (.step 14 (.step 15 (.step 16 .done))))))))))))))))))))))⟩] = some (c_impl_SplitPart, r_impl_SplitPart) := by kernel_rfl
def c_spec_l07Made : AC := seq (reg [⟨(some 1), box 4 (t 0), none⟩, ⟨(some 2), alloc [.int .i64 0, .int .u32 0, .int .u32 0, .sl [] true], none⟩, ⟨(some 3), mv (c (.int .i64 0)), none⟩]) (seq (seq (seq shift (reg [⟨(some 4), calle (c (.fn 13 [])) [t 1] [], none⟩, ⟨(some 5), un .not (t 4), none⟩])) (cond (t 5) (seq (reg [⟨(some 6), bld [.int .i64 0, .int .u32 0, .int .u32 0, .sl [] true] [], none⟩, ⟨none, st (t 2) 4 (t 6), none⟩, ⟨(some 3), mv (c (.int .i64 3)), none⟩]) (ret)) (skip))) (seq (reg [⟨(some 7), ld (t 1) 4 true, none⟩, ⟨none, st (t 2) 4 (t 7), none⟩, ⟨(some 3), mv (c (.int .i64 0)), none⟩]) (ret)))
def r_spec_l07Made : List ARes := [.cell 2 4 true, .tmp 3]
theorem k_spec_l07Made : acLin Go.Proofs.Try.prog 21 1 (inQ [] [13]) [⟨false, none, [], [], none⟩, ⟨true, none, [], [], none⟩] = some (c_spec_l07Made, r_spec_l07Made) := by kernel_rfl
def c_spec_SplitPart : AC := seq (reg [⟨(some 3), box 4 (t 0), none⟩, ⟨(some 5), box 2 (t 2), none⟩, ⟨(some 6), alloc [.int .i64 0, .int .u32 0, .int .u32 0, .sl [] true], none⟩, ⟨(some 7), mv (c (.int .i64 0)), none⟩]) (seq (seq (reg [⟨(some 15), calle (c (.fn 13 [])) [t 3] [], none⟩, ⟨(some 16), un .not (t 15), none⟩]) (cond (t 16) (seq (reg [⟨(some 17), bld [.int .i64 0, .int .u32 0, .int .u32 0, .sl [] true] [], none⟩, ⟨none, st (t 6) 4 (t 17), none⟩, ⟨(some 7), mv (c (.int .i64 1)), none⟩]) (ret)) (skip))) (seq (seq (reg [⟨(some 18), mv (t 1), none⟩, ⟨(some 19), fad (t 3) 0, none⟩, ⟨(some 20), fad (t 19) 0, none⟩, ⟨(some 21), ld (t 20) 1 false, none⟩, ⟨(some 22), bin .sub (t 21) (c (.int .i64 1)), none⟩, ⟨(some 23), callq (c (.fn 14 [])) [t 18, c (.int .i64 0), t 22], none⟩, ⟨(some 24), un .not (t 23), none⟩, ⟨(some 25), mv (t 24), none⟩, ⟨(some 26), ld (t 5) 2 true, some (25, false)⟩, ⟨(some 27), callq (c (.fn 15 [])) [t 26], some (25, false)⟩, ⟨(some 28), un .not (t 27), some (25, false)⟩, ⟨(some 29), pick (t 25) (c (.bool true)) (t 28), none⟩, ⟨(some 30), mv (t 29), none⟩, ⟨(some 31), fad (t 5) 0, some (30, false)⟩, ⟨(some 32), ld (t 31) 1 false, some (30, false)⟩, ⟨(some 33), bin .lss (t 32) (c (.int .i64 0)), some (30, false)⟩, ⟨(some 34), pick (t 30) (c (.bool true)) (t 33), none⟩, ⟨(some 35), mv (t 34), none⟩, ⟨(some 36), fad (t 5) 0, some (35, false)⟩, ⟨(some 37), ld (t 36) 1 false, some (35, false)⟩, ⟨(some 38), fad (t 5) 1, some (35, false)⟩, ⟨(some 39), ld (t 38) 1 false, some (35, false)⟩, ⟨(some 40), bin .gtr (t 37) (t 39), some (35, false)⟩, ⟨(some 41), pick (t 35) (c (.bool true)) (t 40), none⟩]) (cond (t 41) (seq (reg [⟨(some 42), bld [.int .i64 0, .int .u32 0, .int .u32 0, .sl [] true] [], none⟩, ⟨none, st (t 6) 4 (t 42), none⟩, ⟨(some 7), mv (c (.int .i64 2)), none⟩]) (ret)) (skip))) (seq (seq (reg [⟨(some 43), fad (t 3) 0, none⟩, ⟨(some 44), fad (t 43) 0, none⟩, ⟨(some 45), ld (t 44) 1 false, none⟩, ⟨(some 46), bin .eql (t 45) (c (.int .i64 4)), none⟩]) (cond (t 46) (seq (reg [⟨(some 47), bld [.int .i64 0, .int .u32 0, .int .u32 0, .sl [] true] [], none⟩, ⟨none, st (t 6) 4 (t 47), none⟩, ⟨(some 7), mv (c (.int .i64 3)), none⟩]) (ret)) (skip))) (seq (reg [⟨(some 49), ld (t 5) 2 true, none⟩, ⟨(some 50), fad (t 3) 3, none⟩, ⟨(some 51), ld (t 50) 1 false, none⟩, ⟨(some 52), mv (t 1), none⟩, ⟨(some 53), iad 2 (t 51) (t 52), none⟩, ⟨(some 54), ld (t 53) 2 true, none⟩, ⟨(some 55), callq (c (.fn 16 [])) [t 49, t 54], none⟩, ⟨(some 48), mv (t 55), none⟩, ⟨(some 56), ext (t 48) 0, none⟩, ⟨(some 57), ext (t 48) 1, none⟩, ⟨(some 8), alloc [.int .i64 0, .int .i64 0], none⟩, ⟨none, st (t 8) 2 (t 56), none⟩, ⟨(some 9), mv (t 57), none⟩]) (seq (seq (reg [⟨(some 58), mv (t 9), none⟩, ⟨(some 59), bin .neq (t 58) (c (.int .i64 0)), none⟩]) (cond (t 59) (seq (reg [⟨(some 60), bld [.int .i64 0, .int .u32 0, .int .u32 0, .sl [] true] [], none⟩, ⟨(some 61), mv (t 9), none⟩, ⟨none, st (t 6) 4 (t 60), none⟩, ⟨(some 7), mv (t 61), none⟩]) (ret)) (skip))) (seq (reg [⟨(some 63), fad (t 3) 3, none⟩, ⟨(some 64), ld (t 63) 1 false, none⟩, ⟨(some 65), mv (t 1), none⟩, ⟨(some 66), iad 2 (t 64) (t 65), none⟩, ⟨(some 67), ld (t 66) 2 true, none⟩, ⟨(some 68), ld (t 8) 2 true, none⟩, ⟨(some 69), callq (c (.fn 17 [])) [t 67, t 68], none⟩, ⟨(some 62), mv (t 69), none⟩, ⟨(some 70), ext (t 62) 0, none⟩, ⟨(some 71), ext (t 62) 1, none⟩, ⟨(some 10), alloc [.int .i64 0, .int .i64 0], none⟩, ⟨none, st (t 10) 2 (t 70), none⟩, ⟨(some 11), mv (t 71), none⟩]) (seq (seq (reg [⟨(some 72), mv (t 11), none⟩, ⟨(some 73), bin .neq (t 72) (c (.int .i64 0)), none⟩]) (cond (t 73) (seq (reg [⟨(some 74), bld [.int .i64 0, .int .u32 0, .int .u32 0, .sl [] true] [], none⟩, ⟨(some 75), mv (t 11), none⟩, ⟨none, st (t 6) 4 (t 74), none⟩, ⟨(some 7), mv (t 75), none⟩]) (ret)) (skip))) (seq (reg [⟨(some 76), calle (c (.fn 18 [])) [t 3] [], none⟩, ⟨(some 12), alloc [.int .i64 0, .int .u32 0, .int .u32 0, .sl [] true], none⟩, ⟨none, st (t 12) 4 (t 76), none⟩]) (seq (reg [⟨(some 77), fad (t 3) 0, none⟩, ⟨(some 78), fad (t 77) 0, none⟩, ⟨(some 79), ld (t 78) 1 false, none⟩, ⟨(some 13), mv (t 79), none⟩]) (seq (reg [⟨(some 80), mv (t 13), none⟩, ⟨(some 81), bin .add (t 80) (c (.int .i64 1)), none⟩, ⟨(some 82), fad (t 12) 0, none⟩, ⟨(some 83), fad (t 82) 0, none⟩, ⟨none, st (t 83) 1 (t 81), none⟩]) (seq (seq (reg [⟨(some 14), mv (c (.int .i64 0)), none⟩]) (block 0 (loop (seq (seq (reg [⟨(some 84), mv (t 14), none⟩, ⟨(some 85), mv (t 13), none⟩, ⟨(some 86), bin .lss (t 84) (t 85), none⟩]) (cond (t 86) (skip) (exit 0))) (seq (block 1 (seq (reg [⟨(some 89), mv (t 14), none⟩, ⟨(some 90), mv (t 1), none⟩, ⟨(some 91), calle (c (.fn 19 [])) [t 3, t 89, t 90] [], none⟩]) (cond (t 91) (reg [⟨(some 92), fad (t 12) 0, none⟩, ⟨(some 93), fad (t 92) 1, none⟩, ⟨(some 94), ld (t 93) 1 false, none⟩, ⟨(some 95), mv (t 14), none⟩, ⟨(some 96), mv (t 13), none⟩, ⟨(some 97), callq (c (.fn 20 [])) [t 95, t 96], none⟩, ⟨(some 98), bin .or (t 94) (t 97), none⟩, ⟨(some 99), fad (t 12) 0, none⟩, ⟨(some 100), fad (t 99) 1, none⟩, ⟨none, st (t 100) 1 (t 98), none⟩]) (skip)))) (reg [⟨(some 87), mv (t 14), none⟩, ⟨(some 88), bin .add (t 87) (c (.int .i64 1)), none⟩, ⟨(some 14), mv (t 88), none⟩])))))) (seq (seq (reg [⟨(some 101), mv (t 1), none⟩, ⟨(some 102), mv (t 1), none⟩, ⟨(some 103), calle (c (.fn 19 [])) [t 3, t 101, t 102] [], none⟩]) (cond (t 103) (reg [⟨(some 104), fad (t 12) 2, none⟩, ⟨(some 105), ld (t 104) 1 false, none⟩, ⟨(some 106), mv (t 13), none⟩, ⟨(some 107), conv .u64 (t 106), none⟩, ⟨(some 108), bin .shl (c (.int .u32 1)) (t 107), none⟩, ⟨(some 109), bin .or (t 105) (t 108), none⟩, ⟨(some 110), fad (t 12) 2, none⟩, ⟨none, st (t 110) 1 (t 109), none⟩]) (skip))) (seq (reg [⟨(some 111), fad (t 12) 3, none⟩, ⟨(some 112), ld (t 111) 1 false, none⟩, ⟨(some 113), mv (t 1), none⟩, ⟨(some 114), ld (t 10) 2 true, none⟩, ⟨(some 115), iad 2 (t 112) (t 113), none⟩, ⟨none, st (t 115) 2 (t 114), none⟩]) (seq (reg [⟨(some 116), fad (t 12) 3, none⟩, ⟨(some 117), ld (t 116) 1 false, none⟩, ⟨(some 118), ld (t 8) 2 true, none⟩, ⟨(some 119), bsl 2 1 [.int .i64 0, .int .i64 0] [(0, t 118)], none⟩, ⟨(some 120), app 2 16 (t 117) (t 119), none⟩, ⟨(some 121), fad (t 12) 3, none⟩, ⟨none, st (t 121) 1 (t 120), none⟩]) (seq (reg [⟨(some 122), ld (t 12) 4 true, none⟩, ⟨(some 123), calle (c (.fn 21 [])) [t 122] [], none⟩, ⟨(some 124), ext (t 123) 0, none⟩, ⟨(some 125), ext (t 123) 1, none⟩, ⟨none, st (t 6) 4 (t 124), none⟩, ⟨(some 7), mv (t 125), none⟩]) (ret))))))))))))))))
def r_spec_SplitPart : List ARes := [.cell 6 4 true, .tmp 7]
theorem k_spec_SplitPart : acLin Go.Proofs.Try.prog 5 3 (inQ [14, 15, 16, 17, 20] [13, 18, 19, 21]) [⟨false, none, [], [], none⟩, ⟨false, none, [], [], none⟩, ⟨false, none, [], [], none⟩, ⟨false, none, [], [], none⟩, ⟨false, none, [], [], none⟩, ⟨false, none, [], [], none⟩, ⟨false, none, [], [], none⟩, ⟨false, none, [], [], none⟩, ⟨false, none, [], [], none⟩, ⟨false, none, [], [], none⟩, ⟨false, some [0, 1, 2, 3, 4, 5, 6, 7, 8, 9, 10, 11, 12], [], [], none⟩, ⟨false, none, [], [], none⟩, ⟨false, none, [], [], none⟩, ⟨false, none, [], [], none⟩, ⟨false, some [0, 1, 2, 3, 4, 5, 6, 7, 8, 9, 10, 11, 12], [], [], none⟩, ⟨false, none, [], [], none⟩, ⟨false, none, [], [], none⟩, ⟨false, none, [], [], none⟩, ⟨false, none, [], [], none⟩, ⟨false, none, [], [], none⟩, ⟨false, none, [], [], none⟩, ⟨false, none, [], [], none⟩, ⟨false, none, [], [], none⟩, ⟨false, none, [], [], none⟩, ⟨false, none, [], [], none⟩, ⟨false, some [0, 1, 2, 3, 4, 5, 6, 7, 8, 9], [], [], none⟩] = some (c_spec_SplitPart, r_spec_SplitPart) := by kernel_rfl
def c_laws_FnExactSplitPart : AC := seq (reg [⟨(some 3), box 4 (t 0), none⟩, ⟨(some 5), box 2 (t 2), none⟩, ⟨(some 6), mv (c (.bool false)), none⟩]) (seq (reg [⟨(some 7), mv (c (.int .i64 1048576)), none⟩]) (seq (reg [⟨(some 18), ld (t 3) 4 true, none⟩, ⟨(some 19), mv (t 7), none⟩, ⟨(some 20), callq (c (.fn 4 [])) [t 18, t 19], none⟩, ⟨(some 7), mv (t 20), none⟩]) (seq (seq (reg [⟨(some 21), mv (t 7), none⟩, ⟨(some 22), bin .lss (t 21) (c (.int .i64 0)), none⟩]) (cond (t 22) (seq (reg [⟨(some 6), mv (c (.bool true)), none⟩]) (ret)) (skip))) (seq (reg [⟨(some 24), ld (t 3) 4 true, none⟩, ⟨(some 26), mv (t 1), none⟩, ⟨(some 27), ld (t 5) 2 true, none⟩, ⟨(some 25), calle (c (.fn 6 [])) [t 24] [(t 5, 2, true)], none⟩, ⟨(some 28), callq (c (.fn 7 [])) [t 27], none⟩, ⟨(some 29), calle (c (.fn 5 [])) [t 25, t 26, t 28] [], none⟩, ⟨(some 23), mv (t 29), none⟩, ⟨(some 30), ext (t 23) 0, none⟩, ⟨(some 31), ext (t 23) 1, none⟩, ⟨(some 8), alloc [.int .i64 0, .int .u32 0, .int .u32 0, .sl [] true], none⟩, ⟨none, st (t 8) 4 (t 30), none⟩, ⟨(some 9), mv (t 31), none⟩]) (seq (reg [⟨(some 32), ld (t 3) 4 true, none⟩, ⟨(some 33), calle (c (.fn 6 [])) [t 32] [], none⟩, ⟨(some 10), alloc [.int .i64 0, .int .u32 0, .int .u32 0, .sl [] true], none⟩, ⟨none, st (t 10) 4 (t 33), none⟩]) (seq (reg [⟨(some 35), ld (t 10) 4 true, none⟩, ⟨(some 36), mv (t 1), none⟩, ⟨(some 37), ld (t 5) 2 true, none⟩, ⟨(some 38), callq (c (.fn 7 [])) [t 37], none⟩, ⟨(some 39), calle (c (.fn 8 [])) [t 35, t 36, t 38] [], none⟩, ⟨(some 34), mv (t 39), none⟩, ⟨(some 40), ext (t 34) 0, none⟩, ⟨(some 41), ext (t 34) 1, none⟩, ⟨(some 11), alloc [.int .i64 0, .int .u32 0, .int .u32 0, .sl [] true], none⟩, ⟨none, st (t 11) 4 (t 40), none⟩, ⟨(some 12), mv (t 41), none⟩]) (seq (seq (reg [⟨(some 42), ld (t 11) 4 true, none⟩, ⟨(some 43), ld (t 8) 4 true, none⟩, ⟨(some 44), calle (c (.fn 9 [])) [t 42, t 43] [], none⟩, ⟨(some 45), un .not (t 44), none⟩, ⟨(some 46), mv (t 45), none⟩, ⟨(some 47), mv (t 12), some (46, false)⟩, ⟨(some 48), mv (t 9), some (46, false)⟩, ⟨(some 49), bin .neq (t 47) (t 48), some (46, false)⟩, ⟨(some 50), pick (t 46) (c (.bool true)) (t 49), none⟩]) (cond (t 50) (seq (reg [⟨(some 6), mv (c (.bool false)), none⟩]) (ret)) (skip))) (seq (seq (reg [⟨(some 51), ld (t 10) 4 true, none⟩, ⟨(some 52), ld (t 3) 4 true, none⟩, ⟨(some 53), calle (c (.fn 6 [])) [t 52] [(t 10, 4, true)], none⟩, ⟨(some 54), calle (c (.fn 9 [])) [t 51, t 53] [], none⟩, ⟨(some 55), un .not (t 54), none⟩]) (cond (t 55) (seq (reg [⟨(some 6), mv (c (.bool false)), none⟩]) (ret)) (skip))) (seq (reg [⟨(some 13), mv (c (.int .i64 1)), none⟩]) (seq (reg [⟨(some 56), ld (t 10) 4 true, none⟩, ⟨(some 57), mv (t 13), none⟩, ⟨(some 58), calle (c (.fn 10 [])) [t 56, t 57] [], none⟩, ⟨(some 13), mv (t 58), none⟩]) (seq (seq (reg [⟨(some 59), mv (t 13), none⟩, ⟨(some 60), bin .lss (t 59) (c (.int .i64 0)), none⟩, ⟨(some 61), mv (t 60), none⟩, ⟨(some 62), ld (t 11) 4 true, some (61, false)⟩, ⟨(some 63), ld (t 8) 4 true, some (61, false)⟩, ⟨(some 64), calle (c (.fn 9 [])) [t 62, t 63] [], some (61, false)⟩, ⟨(some 65), un .not (t 64), some (61, false)⟩, ⟨(some 66), pick (t 61) (c (.bool true)) (t 65), none⟩, ⟨(some 67), mv (t 66), none⟩, ⟨(some 68), mv (t 12), some (67, false)⟩, ⟨(some 69), mv (t 9), some (67, false)⟩, ⟨(some 70), bin .neq (t 68) (t 69), some (67, false)⟩, ⟨(some 71), pick (t 67) (c (.bool true)) (t 70), none⟩]) (cond (t 71) (seq (reg [⟨(some 6), mv (c (.bool false)), none⟩]) (ret)) (skip))) (seq (reg [⟨(some 14), mv (c (.int .i64 1)), none⟩]) (seq (reg [⟨(some 72), ld (t 11) 4 true, none⟩, ⟨(some 73), mv (t 14), none⟩, ⟨(some 74), calle (c (.fn 10 [])) [t 72, t 73] [], none⟩, ⟨(some 14), mv (t 74), none⟩]) (seq (reg [⟨(some 15), mv (c (.int .i64 1)), none⟩]) (seq (reg [⟨(some 75), ld (t 11) 4 true, none⟩, ⟨(some 76), mv (t 15), none⟩, ⟨(some 77), calle (c (.fn 11 [])) [t 75, t 76] [], none⟩, ⟨(some 15), mv (t 77), none⟩]) (seq (seq (reg [⟨(some 78), mv (t 15), none⟩, ⟨(some 79), bin .lss (t 78) (c (.int .i64 0)), none⟩]) (cond (t 79) (seq (reg [⟨(some 6), mv (c (.bool false)), none⟩]) (ret)) (skip))) (seq (seq (reg [⟨(some 80), mv (t 15), none⟩, ⟨(some 81), mv (t 14), none⟩, ⟨(some 82), bin .neq (t 80) (t 81), none⟩]) (cond (t 82) (seq (reg [⟨(some 6), mv (c (.bool false)), none⟩]) (ret)) (skip))) (seq (reg [⟨(some 84), ld (t 3) 4 true, none⟩, ⟨(some 86), mv (t 1), none⟩, ⟨(some 87), ld (t 5) 2 true, none⟩, ⟨(some 85), calle (c (.fn 6 [])) [t 84] [(t 5, 2, true)], none⟩, ⟨(some 88), callq (c (.fn 7 [])) [t 87], none⟩, ⟨(some 89), calle (c (.fn 8 [])) [t 85, t 86, t 88] [], none⟩, ⟨(some 83), mv (t 89), none⟩, ⟨(some 90), ext (t 83) 0, none⟩, ⟨(some 91), ext (t 83) 1, none⟩, ⟨(some 16), alloc [.int .i64 0, .int .u32 0, .int .u32 0, .sl [] true], none⟩, ⟨none, st (t 16) 4 (t 90), none⟩, ⟨(some 17), mv (t 91), none⟩]) (seq (seq (reg [⟨(some 92), ld (t 16) 4 true, none⟩, ⟨(some 93), ld (t 8) 4 true, none⟩, ⟨(some 94), calle (c (.fn 9 [])) [t 92, t 93] [], none⟩, ⟨(some 95), un .not (t 94), none⟩, ⟨(some 96), mv (t 95), none⟩, ⟨(some 97), mv (t 17), some (96, false)⟩, ⟨(some 98), mv (t 9), some (96, false)⟩, ⟨(some 99), bin .neq (t 97) (t 98), some (96, false)⟩, ⟨(some 100), pick (t 96) (c (.bool true)) (t 99), none⟩]) (cond (t 100) (seq (reg [⟨(some 6), mv (c (.bool false)), none⟩]) (ret)) (skip))) (seq (reg [⟨(some 15), mv (c (.int .i64 1)), none⟩]) (seq (reg [⟨(some 101), ld (t 11) 4 true, none⟩, ⟨(some 102), mv (t 15), none⟩, ⟨(some 103), calle (c (.fn 11 [])) [t 101, t 102] [], none⟩, ⟨(some 15), mv (t 103), none⟩]) (seq (seq (reg [⟨(some 104), mv (t 15), none⟩, ⟨(some 105), bin .lss (t 104) (c (.int .i64 0)), none⟩]) (cond (t 105) (seq (reg [⟨(some 6), mv (c (.bool false)), none⟩]) (ret)) (skip))) (seq (seq (reg [⟨(some 106), mv (t 15), none⟩, ⟨(some 107), mv (t 14), none⟩, ⟨(some 108), bin .neq (t 106) (t 107), none⟩]) (cond (t 108) (seq (reg [⟨(some 6), mv (c (.bool false)), none⟩]) (ret)) (skip))) (seq (reg [⟨(some 6), mv (c (.bool true)), none⟩]) (ret)))))))))))))))))))))))))
def r_laws_FnExactSplitPart : List ARes := [.tmp 6]
theorem k_laws_FnExactSplitPart : acLin Go.Proofs.Try.prog 3 3 (inQ [4, 7] [5, 6, 8, 9, 10, 11]) [⟨false, none, [], [], none⟩, ⟨false, none, [], [], none⟩, ⟨false, none, [], [], none⟩, ⟨false, none, [], [], none⟩, ⟨false, none, [], [], none⟩, ⟨false, none, [], [], none⟩, ⟨false, some [0, 2, 3, 1, 4, 5, 6, 7, 8, 9, 10, 11], [(1, [(t 5, 2, true)])], [(9, [1, 5])], none⟩, ⟨false, none, [], [], none⟩, ⟨false, some [0, 1, 2, 3, 4, 5, 6, 7, 8, 9, 10], [], [(8, [4])], none⟩, ⟨false, none, [], [], none⟩, ⟨false, none, [], [], none⟩, ⟨false, none, [], [], none⟩, ⟨false, some [0, 1, 2, 3, 4], [(2, [(t 10, 4, true)])], [], none⟩, ⟨false, none, [], [], none⟩, ⟨false, none, [], [], none⟩, ⟨false, none, [], [], none⟩, ⟨false, none, [], [], none⟩, ⟨false, none, [], [], none⟩, ⟨false, none, [], [], none⟩, ⟨false, none, [], [], none⟩, ⟨false, none, [], [], none⟩, ⟨false, none, [], [], none⟩, ⟨false, none, [], [], none⟩, ⟨false, none, [], [], none⟩, ⟨false, none, [], [], none⟩, ⟨false, none, [], [], none⟩, ⟨false, none, [], [], none⟩, ⟨false, none, [], [], none⟩, ⟨false, none, [], [], none⟩, ⟨false, none, [], [], none⟩, ⟨false, some [0, 2, 3, 1, 4, 5, 6, 7, 8, 9, 10, 11], [(1, [(t 5, 2, true)])], [(9, [1, 5])], none⟩] = some (c_laws_FnExactSplitPart, r_laws_FnExactSplitPart) := by kernel_rfl
end Go.Proofs.YtgiakpeneckgfaaAi
end
