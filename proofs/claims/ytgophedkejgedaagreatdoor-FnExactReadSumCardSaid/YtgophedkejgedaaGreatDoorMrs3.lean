/- Contracts, joined. -/
import Derived.Test.YtgophedkejgedaaGreatDoorMrs2
import Derived.Test.YtgophedkejgedaaGreatDoorAiX
import Derived.Test.YtgophedkejgedaaGreatDoorProg
import Derived.Test.YtgophedkejgedaaGreatDoorShelfB
section
/- Contracts and law: FlagText. -/
namespace Go.Proofs.YtgophedkejgedaaGreatDoorAi
open Go Go.RowKit
set_option linter.unusedVariables false
set_option linter.unusedSimpArgs false
set_option maxRecDepth 20000

def flagOk (k n e : Int) : Bool := graphOk n e && (decide (0 ≤ k) && decide (k ≤ 3)) && decide (k ≤ n)
noncomputable def sp_flagOk : List AV → Option (AV) := pf (ι := (Int) × (Int) × (Int)) (α := AV) (fun ⟨k, n, e⟩ => 0 ≤ e ∧ e ≤ 4294967295) (fun ⟨k, n, e⟩ => [.agg [.int .i64 k, .int .i64 n, .int .u32 e]]) (fun ⟨k, n, e⟩ => .bool (flagOk k n e))
theorem sp_flagOk_eq (k n e : Int) (h : 0 ≤ e ∧ e ≤ 4294967295) : sp_flagOk [.agg [.int .i64 k, .int .i64 n, .int .u32 e]] = some (.bool (flagOk k n e)) := by
  unfold sp_flagOk
  exact pf_eq (ι := (Int) × (Int) × (Int)) (α := AV) (k, n, e) h (by rintro ⟨k', n', e'⟩ _ e; simp_all [Int.natCast_inj])
theorem q_spec_l03Ok : QP PP 93 sp_flagOk := by
  refine QP_pf (fun i h => ?_) fun i h => ?_
  · obtain ⟨k, n, e⟩ := i; exact ⟨by first | rfl | simp, by first | rfl | simp⟩
  obtain ⟨k, n, e⟩ := i
  replace h : 0 ≤ e ∧ e ≤ 4294967295 := h
  refine P_code (Quiet.q1 q_spec_l01Ok (Quiet.q1 q_spec_l00In Quiet.nil)) hmix k_spec_l03Ok rfl ?_ ?_
  · first | rfl | simp
  show wpc 0 PP _ c_spec_l03Ok (initSt [.agg [.int .i64 k, .int .i64 n, .int .u32 e]] .nil) (endP r_spec_l03Ok (.bool (flagOk k n e)))
  have ho := sp_graphOk_eq n e h
  unfold flagOk
  cases hf : graphOk n e <;> cases h1 : decide (0 ≤ k) <;> cases h2 : decide (k ≤ 3) <;> rw [hf] at ho <;> simp -dsimp -implicitDefEqProofs [c_spec_l03Ok, r_spec_l03Ok, ho, h1, h2]
theorem q_impl_ValidFlag : QP PP 107 sp_flagOk := by
  refine QP_pf (fun i h => ?_) fun i h => ?_
  · obtain ⟨k, n, e⟩ := i; exact ⟨by first | rfl | simp, by first | rfl | simp⟩
  obtain ⟨k, n, e⟩ := i
  replace h : 0 ≤ e ∧ e ≤ 4294967295 := h
  refine P_code (Quiet.q1 q_impl_ValidGraph (Quiet.q1 q_impl_in Quiet.nil)) hmix k_impl_ValidFlag rfl ?_ ?_
  · first | rfl | simp
  show wpc 0 PP _ c_impl_ValidFlag (initSt [.agg [.int .i64 k, .int .i64 n, .int .u32 e]] .nil) (endP r_impl_ValidFlag (.bool (flagOk k n e)))
  have ho := sp_graphOk_eq n e h
  unfold flagOk
  cases hf : graphOk n e <;> cases h1 : decide (0 ≤ k) <;> cases h2 : decide (k ≤ 3) <;> rw [hf] at ho <;> simp -dsimp -implicitDefEqProofs [c_impl_ValidFlag, r_impl_ValidFlag, ho, h1, h2]
def flagB : ByteArray := ⟨#[102, 108, 97, 103, 32]⟩
def flagX (k n e : Int) : ByteArray := flagB ++ decB k ++ sepB ++ grT e n.toNat
theorem grT_size {e : Int} {n : Nat} (h : n ≤ 5) : (grT e n).size ≤ 1200 := by
  have := edT_take (e := e) h (pairsE e n).length
  rw [List.take_length] at this
  exact this
noncomputable def sp_flagX : List AV → Option (AV) := pf (ι := (Int) × (Int) × (Int)) (α := AV) (fun ⟨k, n, e⟩ => (0 ≤ k ∧ k ≤ 3) ∧ (0 ≤ n ∧ n ≤ 5) ∧ (0 ≤ e ∧ e ≤ 4294967295)) (fun ⟨k, n, e⟩ => [.agg [.int .i64 k, .int .i64 n, .int .u32 e]]) (fun ⟨k, n, e⟩ => .str (flagX k n e))
theorem sp_flagX_eq (k n e : Int) (h : (0 ≤ k ∧ k ≤ 3) ∧ (0 ≤ n ∧ n ≤ 5) ∧ (0 ≤ e ∧ e ≤ 4294967295)) : sp_flagX [.agg [.int .i64 k, .int .i64 n, .int .u32 e]] = some (.str (flagX k n e)) := by
  unfold sp_flagX
  exact pf_eq (ι := (Int) × (Int) × (Int)) (α := AV) (k, n, e) h (by rintro ⟨k', n', e'⟩ _ e; simp_all [Int.natCast_inj])
theorem q_impl_Flag_text : QP PP 39 sp_flagX := by
  refine QP_pf (fun i h => ?_) fun i h => ?_
  · obtain ⟨k, n, e⟩ := i; exact ⟨by first | rfl | simp, by first | rfl | simp⟩
  obtain ⟨k, n, e⟩ := i
  replace h : (0 ≤ k ∧ k ≤ 3) ∧ (0 ≤ n ∧ n ≤ 5) ∧ (0 ≤ e ∧ e ≤ 4294967295) := h
  refine P_code (Quiet.q1 q_impl_decimal (Quiet.q1 q_impl_Graph_text Quiet.nil)) hmix k_impl_Flag_text rfl ?_ ?_
  · first | rfl | simp
  show wpc 0 PP _ c_impl_Flag_text (initSt [.agg [.int .i64 k, .int .i64 n, .int .u32 e]] .nil) (endP r_impl_Flag_text (.str (flagX k n e)))
  obtain ⟨hk, hn, he⟩ := h
  obtain ⟨m, rfl⟩ := Int.eq_ofNat_of_zero_le hn.1
  have hd := sp_decimal_eq k (by omega)
  have ht := sp_graphTx_eq m e ⟨by omega, he⟩
  have s1 := decB_size k (by omega) (by omega)
  have s2 := grT_size (e := e) (n := m) (by omega)
  have z1 : 5 + (decB k).size ≤ 9223372036854775807 := by omega
  have z2 : 5 + (decB k).size + 1 ≤ 9223372036854775807 := by omega
  have z3 : 5 + (decB k).size + 1 + (grT e m).size ≤ 9223372036854775807 := by omega
  unfold flagX
  simp -dsimp -implicitDefEqProofs [c_impl_Flag_text, r_impl_Flag_text, hd, ht, z1, z2, z3, flagB, sepB]
def flagT (k n e : Int) : ByteArray := if flagOk k n e = true then flagX k n e else noB
theorem flagOk_in {k n e : Int} (h : flagOk k n e = true) : graphOk n e = true ∧ (0 ≤ k ∧ k ≤ 3) ∧ (0 ≤ n ∧ n ≤ 5) := by
  unfold flagOk at h
  simp only [Bool.and_eq_true, decide_eq_true_eq] at h
  exact ⟨h.1.1, h.1.2, graphOk_in h.1.1⟩
noncomputable def sp_flagText : List AV → Option (AV) := pf (ι := (Int) × (Int) × (Int)) (α := AV) (fun ⟨k, n, e⟩ => 0 ≤ e ∧ e ≤ 4294967295) (fun ⟨k, n, e⟩ => [.agg [.int .i64 k, .int .i64 n, .int .u32 e]]) (fun ⟨k, n, e⟩ => .str (flagT k n e))
theorem sp_flagText_eq (k n e : Int) (h : 0 ≤ e ∧ e ≤ 4294967295) : sp_flagText [.agg [.int .i64 k, .int .i64 n, .int .u32 e]] = some (.str (flagT k n e)) := by
  unfold sp_flagText
  exact pf_eq (ι := (Int) × (Int) × (Int)) (α := AV) (k, n, e) h (by rintro ⟨k', n', e'⟩ _ e; simp_all [Int.natCast_inj])
theorem q_spec_FlagText : QP PP 78 sp_flagText := by
  refine QP_pf (fun i h => ?_) fun i h => ?_
  · obtain ⟨k, n, e⟩ := i; exact ⟨by first | rfl | simp, by first | rfl | simp⟩
  obtain ⟨k, n, e⟩ := i
  replace h : 0 ≤ e ∧ e ≤ 4294967295 := h
  refine P_code (Quiet.q1 q_spec_l03Ok (Quiet.q1 q_spec_Decimal (Quiet.q1 q_spec_GraphText Quiet.nil))) hmix k_spec_FlagText rfl ?_ ?_
  · first | rfl | simp
  show wpc 0 PP _ c_spec_FlagText (initSt [.agg [.int .i64 k, .int .i64 n, .int .u32 e]] .nil) (endP r_spec_FlagText (.str (flagT k n e)))
  have ho := sp_flagOk_eq k n e h
  cases hf : flagOk k n e with
  | false =>
    rw [hf] at ho
    simp -dsimp -implicitDefEqProofs [c_spec_FlagText, r_spec_FlagText, ho, hf, flagT, noB]
  | true =>
    rw [hf] at ho
    obtain ⟨hg, hk, hn⟩ := flagOk_in hf
    obtain ⟨m, rfl⟩ := Int.eq_ofNat_of_zero_le hn.1
    have hd := sp_decS_eq k (by omega)
    have ht := sp_graphText_eq m e h
    have hgt : graphT m e = grT e m := by unfold graphT; rw [if_pos hg, Int.toNat_natCast]
    rw [hgt] at ht
    have s1 := decB_size k (by omega) (by omega)
    have s2 := grT_size (e := e) (n := m) (by omega)
    have z1 : 5 + (decB k).size ≤ 9223372036854775807 := by omega
    have z2 : 5 + (decB k).size + 1 ≤ 9223372036854775807 := by omega
    have z3 : 5 + (decB k).size + 1 + (grT e m).size ≤ 9223372036854775807 := by omega
    unfold flagT
    rw [if_pos hf]
    unfold flagX
    rw [Int.toNat_natCast]
    simp -dsimp -implicitDefEqProofs [c_spec_FlagText, r_spec_FlagText, ho, hd, ht, z1, z2, z3, flagB, sepB]
noncomputable def sp_toFlag : List AV → Option (AV) := pf (ι := (Int) × (Int) × (Int)) (α := AV) (fun ⟨k, n, e⟩ => True) (fun ⟨k, n, e⟩ => [.agg [.int .i64 k, .int .i64 n, .int .u32 e]]) (fun ⟨k, n, e⟩ => .agg [.int .i64 k, .int .i64 n, .int .u32 e])
theorem sp_toFlag_eq (k n e : Int) : sp_toFlag [.agg [.int .i64 k, .int .i64 n, .int .u32 e]] = some (.agg [.int .i64 k, .int .i64 n, .int .u32 e]) := by
  unfold sp_toFlag
  exact pf_eq (ι := (Int) × (Int) × (Int)) (α := AV) (k, n, e) trivial (by rintro ⟨k', n', e'⟩ _ e; simp_all [Int.natCast_inj])
attribute [simp] sp_toFlag_eq
theorem q_laws_toFlag : QP PP 154 sp_toFlag := by
  refine QP_pf (fun i h => ?_) fun i h => ?_
  · obtain ⟨k, n, e⟩ := i; exact ⟨by first | rfl | simp, by first | rfl | simp⟩
  obtain ⟨k, n, e⟩ := i
  replace h : True := h
  refine P_code (Quiet.q1 q_laws_toGraph Quiet.nil) hmix k_laws_toFlag rfl ?_ ?_
  · first | rfl | simp
  show wpc 0 PP _ c_laws_toFlag (initSt [.agg [.int .i64 k, .int .i64 n, .int .u32 e]] .nil) (endP r_laws_toFlag (.agg [.int .i64 k, .int .i64 n, .int .u32 e]))
  simp -dsimp -implicitDefEqProofs [c_laws_toFlag, r_laws_toFlag]
abbrev tyFlagT : Ty := .st [.int .i64, .st [.int .i64, .int .u32]]
end Go.Proofs.YtgophedkejgedaaGreatDoorAi
end

section
/- MADE BY PROGRAM (wip/tools/gen.py): the abstract code of functions. -/
namespace Go.Proofs.YtgophedkejgedaaGreatDoorAi
open Go AC AOp Opd
set_option linter.unusedVariables false
set_option maxRecDepth 100000
def c_impl_spanOk : AC := seq (reg [⟨(some 2), box 2 (t 0), none⟩, ⟨(some 4), mv (c (.bool false)), none⟩]) (seq (reg [⟨(some 5), fad (t 2) 0, none⟩, ⟨(some 6), ld (t 5) 1 false, none⟩, ⟨(some 7), bin .leq (t 6) (c (.int .i64 3)), none⟩, ⟨(some 8), mv (t 7), none⟩, ⟨(some 9), mv (t 1), some (8, true)⟩, ⟨(some 10), fad (t 2) 0, some (8, true)⟩, ⟨(some 11), ld (t 10) 1 false, some (8, true)⟩, ⟨(some 12), callq (c (.fn 81 [])) [t 9, t 11, c (.int .i64 5)], some (8, true)⟩, ⟨(some 13), pick (t 8) (t 12) (c (.bool false)), none⟩, ⟨(some 4), mv (t 13), none⟩]) (ret))
def r_impl_spanOk : List ARes := [.tmp 4]
theorem k_impl_spanOk : acLin Go.Proofs.Tryz.prog 106 2 (inQ [81] []) [] = some (c_impl_spanOk, r_impl_spanOk) := by kernel_rfl
def c_spec_l05Frame : AC := seq (reg [⟨(some 2), box 2 (t 0), none⟩, ⟨(some 4), mv (c (.bool false)), none⟩]) (seq (reg [⟨(some 5), fad (t 2) 0, none⟩, ⟨(some 6), ld (t 5) 1 false, none⟩, ⟨(some 7), bin .leq (t 6) (c (.int .i64 3)), none⟩, ⟨(some 8), mv (t 7), none⟩, ⟨(some 9), mv (t 1), some (8, true)⟩, ⟨(some 10), fad (t 2) 0, some (8, true)⟩, ⟨(some 11), ld (t 10) 1 false, some (8, true)⟩, ⟨(some 12), callq (c (.fn 76 [])) [t 9, t 11, c (.int .i64 5)], some (8, true)⟩, ⟨(some 13), pick (t 8) (t 12) (c (.bool false)), none⟩, ⟨(some 4), mv (t 13), none⟩]) (ret))
def r_spec_l05Frame : List ARes := [.tmp 4]
theorem k_spec_l05Frame : acLin Go.Proofs.Tryz.prog 92 2 (inQ [76] []) [] = some (c_spec_l05Frame, r_spec_l05Frame) := by kernel_rfl
def c_cmp_isNaN_uint32 : AC := seq (reg [⟨(some 2), mv (c (.bool false)), none⟩]) (seq (reg [⟨(some 3), mv (t 0), none⟩, ⟨(some 4), mv (t 0), none⟩, ⟨(some 5), bin .neq (t 3) (t 4), none⟩, ⟨(some 2), mv (t 5), none⟩]) (ret))
def r_cmp_isNaN_uint32 : List ARes := [.tmp 2]
theorem k_cmp_isNaN_uint32 : acLin Go.Proofs.Tryz.prog 187 1 (inQ [] []) [] = some (c_cmp_isNaN_uint32, r_cmp_isNaN_uint32) := by kernel_rfl
def c_cmp_Compare_uint32 : AC := seq (reg [⟨(some 4), mv (c (.int .i64 0)), none⟩]) (seq (reg [⟨(some 7), mv (t 0), none⟩, ⟨(some 8), callq (c (.fn 187 [])) [t 7], none⟩, ⟨(some 5), mv (t 8), none⟩]) (seq (reg [⟨(some 9), mv (t 1), none⟩, ⟨(some 10), callq (c (.fn 187 [])) [t 9], none⟩, ⟨(some 6), mv (t 10), none⟩]) (seq (seq (reg [⟨(some 11), mv (t 5), none⟩]) (cond (t 11) (seq (seq (reg [⟨(some 12), mv (t 6), none⟩]) (cond (t 12) (seq (reg [⟨(some 4), mv (c (.int .i64 0)), none⟩]) (ret)) (skip))) (seq (reg [⟨(some 4), mv (c (.int .i64 (-1))), none⟩]) (ret))) (skip))) (seq (seq (reg [⟨(some 13), mv (t 6), none⟩]) (cond (t 13) (seq (reg [⟨(some 4), mv (c (.int .i64 1)), none⟩]) (ret)) (skip))) (seq (seq (reg [⟨(some 14), mv (t 0), none⟩, ⟨(some 15), mv (t 1), none⟩, ⟨(some 16), bin .lss (t 14) (t 15), none⟩]) (cond (t 16) (seq (reg [⟨(some 4), mv (c (.int .i64 (-1))), none⟩]) (ret)) (skip))) (seq (seq (reg [⟨(some 17), mv (t 0), none⟩, ⟨(some 18), mv (t 1), none⟩, ⟨(some 19), bin .gtr (t 17) (t 18), none⟩]) (cond (t 19) (seq (reg [⟨(some 4), mv (c (.int .i64 1)), none⟩]) (ret)) (skip))) (seq (reg [⟨(some 4), mv (c (.int .i64 0)), none⟩]) (ret))))))))
def r_cmp_Compare_uint32 : List ARes := [.tmp 4]
theorem k_cmp_Compare_uint32 : acLin Go.Proofs.Tryz.prog 151 2 (inQ [187] []) [] = some (c_cmp_Compare_uint32, r_cmp_Compare_uint32) := by kernel_rfl
def c_impl_flagOrder : AC := seq (reg [⟨(some 2), box 3 (t 0), none⟩, ⟨(some 3), box 3 (t 1), none⟩, ⟨(some 4), mv (c (.int .i64 0)), none⟩]) (seq (reg [⟨(some 5), fad (t 2) 1, none⟩, ⟨(some 6), fad (t 5) 1, none⟩, ⟨(some 7), ld (t 6) 1 false, none⟩, ⟨(some 8), fad (t 3) 1, none⟩, ⟨(some 9), fad (t 8) 1, none⟩, ⟨(some 10), ld (t 9) 1 false, none⟩, ⟨(some 11), callq (c (.fn 151 [])) [t 7, t 10], none⟩, ⟨(some 4), mv (t 11), none⟩]) (ret))
def r_impl_flagOrder : List ARes := [.tmp 4]
theorem k_impl_flagOrder : acLin Go.Proofs.Tryz.prog 110 2 (inQ [151] []) [] = some (c_impl_flagOrder, r_impl_flagOrder) := by kernel_rfl
def c_impl_Graph_least_1 : AC := seq (reg [⟨(some 4), mv (c (.bool false)), none⟩]) (seq (reg [⟨(some 5), fad (t 1) 1, none⟩, ⟨(some 6), ld (t 5) 1 false, none⟩, ⟨(some 7), ld (t 2) 2 true, none⟩, ⟨(some 8), mv (t 0), none⟩, ⟨(some 9), calle (c (.fn 183 [])) [t 7, t 8] [(c .nilf, 0, false)], none⟩, ⟨(some 10), fld (t 9) 1 1 false, none⟩, ⟨(some 11), min (t 6) (t 10), none⟩, ⟨(some 12), fad (t 1) 1, none⟩, ⟨none, st (t 12) 1 (t 11), none⟩]) (seq (reg [⟨(some 4), mv (c (.bool false)), none⟩]) (ret)))
def r_impl_Graph_least_1 : List ARes := [.tmp 4]
theorem k_impl_Graph_least_1 : acLin Go.Proofs.Tryz.prog 186 3 (inQ [] [183]) [⟨false, none, [], [], none⟩, ⟨false, some [0, 1, 2, 3, 4, 5, 6, 7, 8], [(4, [(c .nilf, 0, false)])], [], none⟩] = some (c_impl_Graph_least_1, r_impl_Graph_least_1) := by kernel_rfl
def c_impl_Graph_least : AC := seq (reg [⟨(some 2), box 2 (t 0), none⟩, ⟨(some 4), alloc [.int .i64 0, .int .u32 0], none⟩]) (seq (reg [⟨(some 6), ld (t 2) 2 true, none⟩, ⟨(some 5), alloc [.int .i64 0, .int .u32 0], none⟩, ⟨none, st (t 5) 2 (t 6), none⟩]) (seq (reg [⟨(some 7), ld (t 2) 2 true, none⟩, ⟨(some 8), mv (t 1), none⟩, ⟨(some 9), mkf 186 [t 5, t 2], none⟩, ⟨(some 10), call (c (.fn 185 [])) [t 7, t 8, t 9], none⟩]) (seq (reg [⟨(some 11), ld (t 5) 2 true, none⟩, ⟨none, st (t 4) 2 (t 11), none⟩]) (ret))))
def r_impl_Graph_least : List ARes := [.cell 4 2 true]
theorem k_impl_Graph_least : acLin Go.Proofs.Tryz.prog 150 2 (inQ [] []) [] = some (c_impl_Graph_least, r_impl_Graph_least) := by kernel_rfl
def c_impl_Flag_least : AC := seq (reg [⟨(some 1), box 3 (t 0), none⟩, ⟨(some 2), alloc [.int .i64 0, .int .i64 0, .int .u32 0], none⟩]) (seq (reg [⟨(some 3), fad (t 1) 0, none⟩, ⟨(some 4), ld (t 3) 1 false, none⟩, ⟨(some 5), fad (t 1) 1, none⟩, ⟨(some 6), ld (t 5) 2 true, none⟩, ⟨(some 7), fad (t 1) 0, none⟩, ⟨(some 8), ld (t 7) 1 false, none⟩, ⟨(some 9), callq (c (.fn 150 [])) [t 6, t 8], none⟩, ⟨(some 10), bld [.int .i64 0, .int .i64 0, .int .u32 0] [(0, 1, t 4), (1, 2, t 9)], none⟩, ⟨none, st (t 2) 3 (t 10), none⟩]) (ret))
def r_impl_Flag_least : List ARes := [.cell 2 3 true]
theorem k_impl_Flag_least : acLin Go.Proofs.Tryz.prog 109 1 (inQ [150] []) [⟨false, none, [], [], none⟩, ⟨false, some [0, 1, 2, 3, 4, 5, 6, 7, 8], [], [], none⟩] = some (c_impl_Flag_least, r_impl_Flag_least) := by kernel_rfl
def c_impl_Flag_typeOf : AC := seq (reg [⟨(some 1), box 3 (t 0), none⟩, ⟨(some 2), alloc [.int .i64 0, .int .u32 0], none⟩]) (seq (reg [⟨(some 3), fad (t 1) 1, none⟩, ⟨(some 4), ld (t 3) 2 true, none⟩, ⟨(some 5), fad (t 1) 0, none⟩, ⟨(some 6), ld (t 5) 1 false, none⟩, ⟨(some 7), calle (c (.fn 184 [])) [t 6] [(c .nilf, 0, false)], none⟩, ⟨(some 8), calle (c (.fn 183 [])) [t 4, t 7] [(c .nilf, 0, false)], none⟩, ⟨none, st (t 2) 2 (t 8), none⟩]) (ret))
def r_impl_Flag_typeOf : List ARes := [.cell 2 2 true]
theorem k_impl_Flag_typeOf : acLin Go.Proofs.Tryz.prog 149 1 (inQ [] [183, 184]) [⟨false, none, [], [], none⟩, ⟨false, some [0, 1, 2, 3, 4, 5, 6], [(4, [(c .nilf, 0, false)]), (5, [(c .nilf, 0, false)])], [], none⟩] = some (c_impl_Flag_typeOf, r_impl_Flag_typeOf) := by kernel_rfl
def c_impl_Flag_fits : AC := seq (reg [⟨(some 3), box 3 (t 0), none⟩, ⟨(some 4), box 2 (t 1), none⟩, ⟨(some 6), mv (c (.bool false)), none⟩]) (seq (reg [⟨(some 7), fad (t 3) 1, none⟩, ⟨(some 8), fad (t 7) 0, none⟩, ⟨(some 9), ld (t 8) 1 false, none⟩, ⟨(some 10), mv (t 2), none⟩, ⟨(some 11), bin .eql (t 9) (t 10), none⟩, ⟨(some 12), mv (t 11), none⟩, ⟨(some 13), ld (t 3) 3 true, some (12, true)⟩, ⟨(some 14), callq (c (.fn 149 [])) [t 13], some (12, true)⟩, ⟨(some 15), ld (t 4) 2 true, some (12, true)⟩, ⟨(some 16), eqs false [.i .i64, .i .u32] (t 14) (t 15), some (12, true)⟩, ⟨(some 17), pick (t 12) (t 16) (c (.bool false)), none⟩, ⟨(some 6), mv (t 17), none⟩]) (ret))
def r_impl_Flag_fits : List ARes := [.tmp 6]
theorem k_impl_Flag_fits : acLin Go.Proofs.Tryz.prog 108 3 (inQ [149] []) [⟨false, none, [], [], none⟩, ⟨false, some [0, 1, 2, 3, 4, 5, 6, 7, 8, 9, 10, 11], [], [], none⟩] = some (c_impl_Flag_fits, r_impl_Flag_fits) := by kernel_rfl
def c_spec_l03Type : AC := seq (reg [⟨(some 1), box 3 (t 0), none⟩, ⟨(some 2), alloc [.int .i64 0, .int .u32 0], none⟩]) (seq (reg [⟨(some 3), fad (t 1) 1, none⟩, ⟨(some 4), ld (t 3) 2 true, none⟩, ⟨(some 5), fad (t 1) 0, none⟩, ⟨(some 6), ld (t 5) 1 false, none⟩, ⟨(some 7), calle (c (.fn 135 [])) [t 6] [(c .nilf, 0, false)], none⟩, ⟨(some 8), calle (c (.fn 137 [])) [t 4, t 7] [(c .nilf, 0, false)], none⟩, ⟨none, st (t 2) 2 (t 8), none⟩]) (ret))
def r_spec_l03Type : List ARes := [.cell 2 2 true]
theorem k_spec_l03Type : acLin Go.Proofs.Tryz.prog 134 1 (inQ [] [135, 137]) [⟨false, none, [], [], none⟩, ⟨false, some [0, 1, 2, 3, 4, 5, 6], [(4, [(c .nilf, 0, false)]), (5, [(c .nilf, 0, false)])], [], none⟩] = some (c_spec_l03Type, r_spec_l03Type) := by kernel_rfl
def c_spec_l03Order : AC := seq (reg [⟨(some 4), mv (c (.sl [] true)), none⟩]) (seq (reg [⟨(some 7), mv (t 0), none⟩, ⟨(some 8), calle (c (.fn 135 [])) [t 7] [], none⟩, ⟨(some 5), mv (t 8), none⟩]) (seq (seq (reg [⟨(some 6), mv (c (.int .i64 0)), none⟩]) (block 0 (loop (seq (seq (reg [⟨(some 9), mv (t 6), none⟩, ⟨(some 10), mv (t 1), none⟩, ⟨(some 11), len (t 10), none⟩, ⟨(some 12), bin .lss (t 9) (t 11), none⟩]) (cond (t 12) (skip) (exit 0))) (seq (block 1 (reg [⟨(some 15), mv (t 5), none⟩, ⟨(some 16), mv (t 0), none⟩, ⟨(some 17), mv (t 1), none⟩, ⟨(some 18), mv (t 6), none⟩, ⟨(some 19), iad 1 (t 17) (t 18), none⟩, ⟨(some 20), ld (t 19) 1 false, none⟩, ⟨(some 21), bin .add (t 16) (t 20), none⟩, ⟨(some 22), bsl 1 1 [.int .i64 0] [(0, t 21)], none⟩, ⟨(some 23), app 1 8 (t 15) (t 22), none⟩, ⟨(some 5), mv (t 23), none⟩])) (reg [⟨(some 13), mv (t 6), none⟩, ⟨(some 14), bin .add (t 13) (c (.int .i64 1)), none⟩, ⟨(some 6), mv (t 14), none⟩])))))) (seq (reg [⟨(some 24), mv (t 5), none⟩, ⟨(some 4), mv (t 24), none⟩]) (ret))))
def r_spec_l03Order : List ARes := [.tmp 4]
theorem k_spec_l03Order : acLin Go.Proofs.Tryz.prog 138 2 (inQ [] [135]) [] = some (c_spec_l03Order, r_spec_l03Order) := by kernel_rfl
def c_spec_l03Least : AC := seq (reg [⟨(some 1), box 3 (t 0), none⟩, ⟨(some 2), alloc [.int .i64 0, .int .i64 0, .int .u32 0], none⟩]) (seq (reg [⟨(some 7), ld (t 1) 3 true, none⟩, ⟨(some 3), alloc [.int .i64 0, .int .i64 0, .int .u32 0], none⟩, ⟨none, st (t 3) 3 (t 7), none⟩]) (seq (reg [⟨(some 8), fad (t 1) 1, none⟩, ⟨(some 9), fad (t 8) 0, none⟩, ⟨(some 10), ld (t 9) 1 false, none⟩, ⟨(some 11), fad (t 1) 0, none⟩, ⟨(some 12), ld (t 11) 1 false, none⟩, ⟨(some 13), bin .sub (t 10) (t 12), none⟩, ⟨(some 14), calle (c (.fn 135 [])) [t 13] [], none⟩, ⟨(some 4), mv (t 14), none⟩]) (seq (seq (reg [⟨(some 5), mv (c (.bool true)), none⟩]) (block 0 (loop (seq (seq (reg [⟨(some 15), mv (t 5), none⟩]) (cond (t 15) (skip) (exit 0))) (seq (block 1 (seq (reg [⟨(some 24), fad (t 1) 1, none⟩, ⟨(some 25), ld (t 24) 2 true, none⟩, ⟨(some 26), fad (t 1) 0, none⟩, ⟨(some 27), ld (t 26) 1 false, none⟩, ⟨(some 28), mv (t 4), none⟩, ⟨(some 29), calle (c (.fn 138 [])) [t 27, t 28] [(c .nilf, 0, false)], none⟩, ⟨(some 30), calle (c (.fn 137 [])) [t 25, t 29] [(c .nilf, 0, false)], none⟩, ⟨(some 6), alloc [.int .i64 0, .int .u32 0], none⟩, ⟨none, st (t 6) 2 (t 30), none⟩]) (seq (reg [⟨(some 31), fad (t 6) 1, none⟩, ⟨(some 32), ld (t 31) 1 false, none⟩, ⟨(some 33), fad (t 3) 1, none⟩, ⟨(some 34), fad (t 33) 1, none⟩, ⟨(some 35), ld (t 34) 1 false, none⟩, ⟨(some 36), bin .lss (t 32) (t 35), none⟩]) (cond (t 36) (reg [⟨(some 37), ld (t 6) 2 true, none⟩, ⟨(some 38), fad (t 3) 1, none⟩, ⟨none, st (t 38) 2 (t 37), none⟩]) (skip))))) (reg [⟨(some 16), mv (t 4), none⟩, ⟨(some 17), fad (t 1) 1, none⟩, ⟨(some 18), fad (t 17) 0, none⟩, ⟨(some 19), ld (t 18) 1 false, none⟩, ⟨(some 20), fad (t 1) 0, none⟩, ⟨(some 21), ld (t 20) 1 false, none⟩, ⟨(some 22), bin .sub (t 19) (t 21), none⟩, ⟨(some 23), calle (c (.fn 136 [])) [t 16, t 22] [], none⟩, ⟨(some 5), mv (t 23), none⟩])))))) (seq (reg [⟨(some 39), ld (t 3) 3 true, none⟩, ⟨none, st (t 2) 3 (t 39), none⟩]) (ret)))))
def r_spec_l03Least : List ARes := [.cell 2 3 true]
theorem k_spec_l03Least : acLin Go.Proofs.Tryz.prog 95 1 (inQ [] [135, 136, 137, 138]) [⟨false, none, [], [], none⟩, ⟨false, none, [], [], none⟩, ⟨false, none, [], [], none⟩, ⟨false, none, [], [], none⟩, ⟨false, none, [], [], none⟩, ⟨false, none, [], [], none⟩, ⟨false, some [0, 1, 2, 3, 4, 5, 6, 7, 8], [(5, [(c .nilf, 0, false)]), (6, [(c .nilf, 0, false)])], [(7, [5, 6])], none⟩] = some (c_spec_l03Least, r_spec_l03Least) := by kernel_rfl
def c_spec_l05Fits : AC := seq (reg [⟨(some 3), box 3 (t 0), none⟩, ⟨(some 4), box 2 (t 1), none⟩, ⟨(some 6), mv (c (.bool false)), none⟩]) (seq (reg [⟨(some 7), ld (t 3) 3 true, none⟩, ⟨(some 8), callq (c (.fn 134 [])) [t 7], none⟩, ⟨(some 9), ld (t 4) 2 true, none⟩, ⟨(some 10), eqs false [.i .i64, .i .u32] (t 8) (t 9), none⟩, ⟨(some 11), mv (t 10), none⟩, ⟨(some 12), fad (t 3) 1, some (11, true)⟩, ⟨(some 13), fad (t 12) 0, some (11, true)⟩, ⟨(some 14), ld (t 13) 1 false, some (11, true)⟩, ⟨(some 15), mv (t 2), some (11, true)⟩, ⟨(some 16), bin .eql (t 14) (t 15), some (11, true)⟩, ⟨(some 17), pick (t 11) (t 16) (c (.bool false)), none⟩, ⟨(some 6), mv (t 17), none⟩]) (ret))
def r_spec_l05Fits : List ARes := [.tmp 6]
theorem k_spec_l05Fits : acLin Go.Proofs.Tryz.prog 94 3 (inQ [134] []) [⟨false, none, [], [], none⟩, ⟨false, some [0, 1, 2, 3, 4, 5, 6, 7, 8, 9, 10, 11], [], [], none⟩] = some (c_spec_l05Fits, r_spec_l05Fits) := by kernel_rfl
def c_spec_l05Ok : AC := seq (reg [⟨(some 2), mv (c (.bool false)), none⟩]) (seq (seq (reg [⟨(some 5), mv (t 0), none⟩, ⟨(some 6), nilc (t 5), none⟩, ⟨(some 7), fad (t 6) 0, none⟩, ⟨(some 8), ld (t 7) 2 true, none⟩, ⟨(some 9), callq (c (.fn 91 [])) [t 8], none⟩, ⟨(some 10), un .not (t 9), none⟩, ⟨(some 11), mv (t 10), none⟩, ⟨(some 12), mv (t 0), some (11, false)⟩, ⟨(some 13), nilc (t 12), some (11, false)⟩, ⟨(some 14), fad (t 13) 0, some (11, false)⟩, ⟨(some 15), ld (t 14) 2 true, some (11, false)⟩, ⟨(some 16), mv (t 0), some (11, false)⟩, ⟨(some 17), nilc (t 16), some (11, false)⟩, ⟨(some 18), fad (t 17) 2, some (11, false)⟩, ⟨(some 19), ld (t 18) 1 false, some (11, false)⟩, ⟨(some 20), callq (c (.fn 92 [])) [t 15, t 19], some (11, false)⟩, ⟨(some 21), un .not (t 20), some (11, false)⟩, ⟨(some 22), pick (t 11) (c (.bool true)) (t 21), none⟩, ⟨(some 23), mv (t 22), none⟩, ⟨(some 24), mv (t 0), some (23, false)⟩, ⟨(some 25), nilc (t 24), some (23, false)⟩, ⟨(some 26), fad (t 25) 3, some (23, false)⟩, ⟨(some 27), ld (t 26) 1 false, some (23, false)⟩, ⟨(some 28), len (t 27), some (23, false)⟩, ⟨(some 29), bin .gtr (t 28) (c (.int .i64 64)), some (23, false)⟩, ⟨(some 30), pick (t 23) (c (.bool true)) (t 29), none⟩]) (cond (t 30) (seq (reg [⟨(some 2), mv (c (.bool false)), none⟩]) (ret)) (skip))) (seq (seq (reg [⟨(some 3), mv (c (.int .i64 0)), none⟩]) (block 0 (loop (seq (seq (reg [⟨(some 31), mv (t 3), none⟩, ⟨(some 32), mv (t 0), none⟩, ⟨(some 33), nilc (t 32), none⟩, ⟨(some 34), fad (t 33) 3, none⟩, ⟨(some 35), ld (t 34) 1 false, none⟩, ⟨(some 36), len (t 35), none⟩, ⟨(some 37), bin .lss (t 31) (t 36), none⟩]) (cond (t 37) (skip) (exit 0))) (seq (block 1 (seq (reg [⟨(some 40), mv (t 0), none⟩, ⟨(some 41), nilc (t 40), none⟩, ⟨(some 42), fad (t 41) 3, none⟩, ⟨(some 43), ld (t 42) 1 false, none⟩, ⟨(some 44), mv (t 3), none⟩, ⟨(some 45), iad 5 (t 43) (t 44), none⟩, ⟨(some 46), fad (t 45) 0, none⟩, ⟨(some 47), ld (t 46) 3 true, none⟩, ⟨(some 4), alloc [.int .i64 0, .int .i64 0, .int .u32 0], none⟩, ⟨none, st (t 4) 3 (t 47), none⟩]) (seq (seq (reg [⟨(some 48), ld (t 4) 3 true, none⟩, ⟨(some 49), callq (c (.fn 93 [])) [t 48], none⟩, ⟨(some 50), un .not (t 49), none⟩, ⟨(some 51), mv (t 50), none⟩, ⟨(some 52), ld (t 4) 3 true, some (51, false)⟩, ⟨(some 53), mv (t 0), some (51, false)⟩, ⟨(some 54), nilc (t 53), some (51, false)⟩, ⟨(some 55), fad (t 54) 0, some (51, false)⟩, ⟨(some 56), ld (t 55) 2 true, some (51, false)⟩, ⟨(some 57), mv (t 0), some (51, false)⟩, ⟨(some 58), nilc (t 57), some (51, false)⟩, ⟨(some 59), fad (t 58) 2, some (51, false)⟩, ⟨(some 60), ld (t 59) 1 false, some (51, false)⟩, ⟨(some 61), callq (c (.fn 94 [])) [t 52, t 56, t 60], some (51, false)⟩, ⟨(some 62), un .not (t 61), some (51, false)⟩, ⟨(some 63), pick (t 51) (c (.bool true)) (t 62), none⟩, ⟨(some 64), mv (t 63), none⟩, ⟨(some 65), ld (t 4) 3 true, some (64, false)⟩, ⟨(some 66), callq (c (.fn 95 [])) [t 65], some (64, false)⟩, ⟨(some 67), ld (t 4) 3 true, some (64, false)⟩, ⟨(some 68), eqs true [.i .i64, .i .i64, .i .u32] (t 66) (t 67), some (64, false)⟩, ⟨(some 69), pick (t 64) (c (.bool true)) (t 68), none⟩, ⟨(some 70), mv (t 69), none⟩, ⟨(some 71), mv (t 3), some (70, false)⟩, ⟨(some 72), bin .gtr (t 71) (c (.int .i64 0)), some (70, false)⟩, ⟨(some 73), mv (t 72), some (70, false)⟩, ⟨(some 74), mv (t 0), some (73, true)⟩, ⟨(some 75), nilc (t 74), some (73, true)⟩, ⟨(some 76), fad (t 75) 3, some (73, true)⟩, ⟨(some 77), ld (t 76) 1 false, some (73, true)⟩, ⟨(some 78), mv (t 3), some (73, true)⟩, ⟨(some 79), bin .sub (t 78) (c (.int .i64 1)), some (73, true)⟩, ⟨(some 80), iad 5 (t 77) (t 79), some (73, true)⟩, ⟨(some 81), fad (t 80) 0, some (73, true)⟩, ⟨(some 82), fad (t 81) 1, some (73, true)⟩, ⟨(some 83), fad (t 82) 1, some (73, true)⟩, ⟨(some 84), ld (t 83) 1 false, some (73, true)⟩, ⟨(some 85), fad (t 4) 1, some (73, true)⟩, ⟨(some 86), fad (t 85) 1, some (73, true)⟩, ⟨(some 87), ld (t 86) 1 false, some (73, true)⟩, ⟨(some 88), bin .geq (t 84) (t 87), some (73, true)⟩, ⟨(some 89), pick (t 73) (t 88) (c (.bool false)), some (70, false)⟩, ⟨(some 90), pick (t 70) (c (.bool true)) (t 89), none⟩]) (cond (t 90) (seq (reg [⟨(some 2), mv (c (.bool false)), none⟩]) (ret)) (skip))) (seq (reg [⟨(some 91), mv (t 0), none⟩, ⟨(some 92), nilc (t 91), none⟩, ⟨(some 93), fad (t 92) 3, none⟩, ⟨(some 94), ld (t 93) 1 false, none⟩, ⟨(some 95), mv (t 3), none⟩, ⟨(some 96), iad 5 (t 94) (t 95), none⟩, ⟨(some 97), fad (t 96) 3, none⟩, ⟨(some 98), ld (t 97) 2 true, none⟩, ⟨(some 99), callq (c (.fn 65 [])) [t 98], none⟩, ⟨(some 100), un .not (t 99), none⟩, ⟨(some 101), mv (t 100), none⟩, ⟨(some 102), mv (t 0), some (101, false)⟩, ⟨(some 103), nilc (t 102), some (101, false)⟩, ⟨(some 104), fad (t 103) 3, some (101, false)⟩, ⟨(some 105), ld (t 104) 1 false, some (101, false)⟩, ⟨(some 106), mv (t 3), some (101, false)⟩, ⟨(some 107), iad 5 (t 105) (t 106), some (101, false)⟩, ⟨(some 108), fad (t 107) 3, some (101, false)⟩, ⟨(some 109), fad (t 108) 0, some (101, false)⟩, ⟨(some 110), ld (t 109) 1 false, some (101, false)⟩, ⟨(some 111), bin .eql (t 110) (c (.int .i64 0)), some (101, false)⟩, ⟨(some 112), pick (t 101) (c (.bool true)) (t 111), none⟩]) (cond (t 112) (seq (reg [⟨(some 2), mv (c (.bool false)), none⟩]) (ret)) (skip)))))) (reg [⟨(some 38), mv (t 3), none⟩, ⟨(some 39), bin .add (t 38) (c (.int .i64 1)), none⟩, ⟨(some 3), mv (t 39), none⟩])))))) (seq (reg [⟨(some 2), mv (c (.bool true)), none⟩]) (ret))))
def r_spec_l05Ok : List ARes := [.tmp 2]
theorem k_spec_l05Ok : acLin Go.Proofs.Tryz.prog 48 1 (inQ [65, 91, 92, 93, 94, 95] []) [⟨false, none, [], [], none⟩, ⟨false, some [0, 1, 2, 3, 4, 5, 6, 7, 8, 9, 10, 11, 12, 13, 14, 15, 16, 17, 18, 19, 20, 21, 22, 23, 24, 25], [], [], none⟩, ⟨false, none, [], [], none⟩, ⟨false, none, [], [], none⟩, ⟨false, none, [], [], none⟩, ⟨false, none, [], [], none⟩, ⟨false, none, [], [], none⟩, ⟨false, none, [], [], none⟩, ⟨false, some [0, 1, 2, 3, 4, 5, 6, 7, 8, 9, 10, 11, 12, 13, 14, 15, 16, 17, 18, 19, 20, 21, 22, 23, 24, 25, 26, 27, 28, 29, 30, 31, 32, 33, 34, 35, 36, 37, 38, 39, 40, 41, 42], [], [], none⟩] = some (c_spec_l05Ok, r_spec_l05Ok) := by kernel_rfl
def c_impl_ValidSum : AC := seq (reg [⟨(some 1), box 4 (t 0), none⟩, ⟨(some 2), mv (c (.bool false)), none⟩]) (seq (seq (reg [⟨(some 5), fad (t 1) 0, none⟩, ⟨(some 6), ld (t 5) 2 true, none⟩, ⟨(some 7), callq (c (.fn 105 [])) [t 6], none⟩, ⟨(some 8), un .not (t 7), none⟩, ⟨(some 9), mv (t 8), none⟩, ⟨(some 10), fad (t 1) 0, some (9, false)⟩, ⟨(some 11), ld (t 10) 2 true, some (9, false)⟩, ⟨(some 12), fad (t 1) 2, some (9, false)⟩, ⟨(some 13), ld (t 12) 1 false, some (9, false)⟩, ⟨(some 14), callq (c (.fn 106 [])) [t 11, t 13], some (9, false)⟩, ⟨(some 15), un .not (t 14), some (9, false)⟩, ⟨(some 16), pick (t 9) (c (.bool true)) (t 15), none⟩, ⟨(some 17), mv (t 16), none⟩, ⟨(some 18), fad (t 1) 3, some (17, false)⟩, ⟨(some 19), ld (t 18) 1 false, some (17, false)⟩, ⟨(some 20), len (t 19), some (17, false)⟩, ⟨(some 21), bin .gtr (t 20) (c (.int .i64 64)), some (17, false)⟩, ⟨(some 22), pick (t 17) (c (.bool true)) (t 21), none⟩]) (cond (t 22) (seq (reg [⟨(some 2), mv (c (.bool false)), none⟩]) (ret)) (skip))) (seq (seq (reg [⟨(some 23), fad (t 1) 3, none⟩, ⟨(some 24), ld (t 23) 1 false, none⟩, ⟨(some 25), len (t 24), none⟩, ⟨(some 26), mv (c (.int .i64 0)), none⟩]) (block 0 (loop (seq (reg [⟨(some 27), bin .lss (t 26) (t 25), none⟩]) (seq (cond (t 27) (skip) (exit 0)) (seq (block 1 (seq (reg [⟨(some 28), mv (t 26), none⟩, ⟨(some 29), iad 5 (t 24) (t 26), none⟩, ⟨(some 30), ld (t 29) 5 true, none⟩, ⟨(some 4), alloc [.int .i64 0, .int .i64 0, .int .u32 0, .int .i64 0, .int .i64 0], none⟩, ⟨(some 3), mv (t 28), none⟩, ⟨none, st (t 4) 5 (t 30), none⟩]) (seq (seq (reg [⟨(some 31), fad (t 4) 0, none⟩, ⟨(some 32), ld (t 31) 3 true, none⟩, ⟨(some 33), callq (c (.fn 107 [])) [t 32], none⟩, ⟨(some 34), un .not (t 33), none⟩, ⟨(some 35), mv (t 34), none⟩, ⟨(some 36), fad (t 4) 0, some (35, false)⟩, ⟨(some 37), ld (t 36) 3 true, some (35, false)⟩, ⟨(some 38), fad (t 1) 0, some (35, false)⟩, ⟨(some 39), ld (t 38) 2 true, some (35, false)⟩, ⟨(some 40), fad (t 1) 2, some (35, false)⟩, ⟨(some 41), ld (t 40) 1 false, some (35, false)⟩, ⟨(some 42), callq (c (.fn 108 [])) [t 37, t 39, t 41], some (35, false)⟩, ⟨(some 43), un .not (t 42), some (35, false)⟩, ⟨(some 44), pick (t 35) (c (.bool true)) (t 43), none⟩, ⟨(some 45), mv (t 44), none⟩, ⟨(some 46), fad (t 4) 0, some (45, false)⟩, ⟨(some 47), ld (t 46) 3 true, some (45, false)⟩, ⟨(some 48), callq (c (.fn 109 [])) [t 47], some (45, false)⟩, ⟨(some 49), fad (t 4) 0, some (45, false)⟩, ⟨(some 50), ld (t 49) 3 true, some (45, false)⟩, ⟨(some 51), eqs true [.i .i64, .i .i64, .i .u32] (t 48) (t 50), some (45, false)⟩, ⟨(some 52), pick (t 45) (c (.bool true)) (t 51), none⟩, ⟨(some 53), mv (t 52), none⟩, ⟨(some 54), fad (t 4) 3, some (53, false)⟩, ⟨(some 55), ld (t 54) 2 true, some (53, false)⟩, ⟨(some 56), callq (c (.fn 71 [])) [t 55], some (53, false)⟩, ⟨(some 57), un .not (t 56), some (53, false)⟩, ⟨(some 58), pick (t 53) (c (.bool true)) (t 57), none⟩, ⟨(some 59), mv (t 58), none⟩, ⟨(some 60), fad (t 4) 3, some (59, false)⟩, ⟨(some 61), fad (t 60) 0, some (59, false)⟩, ⟨(some 62), ld (t 61) 1 false, some (59, false)⟩, ⟨(some 63), bin .eql (t 62) (c (.int .i64 0)), some (59, false)⟩, ⟨(some 64), pick (t 59) (c (.bool true)) (t 63), none⟩]) (cond (t 64) (seq (reg [⟨(some 2), mv (c (.bool false)), none⟩]) (ret)) (skip))) (seq (reg [⟨(some 65), mv (t 3), none⟩, ⟨(some 66), bin .gtr (t 65) (c (.int .i64 0)), none⟩, ⟨(some 67), mv (t 66), none⟩, ⟨(some 68), fad (t 1) 3, some (67, true)⟩, ⟨(some 69), ld (t 68) 1 false, some (67, true)⟩, ⟨(some 70), mv (t 3), some (67, true)⟩, ⟨(some 71), bin .sub (t 70) (c (.int .i64 1)), some (67, true)⟩, ⟨(some 72), iad 5 (t 69) (t 71), some (67, true)⟩, ⟨(some 73), fad (t 72) 0, some (67, true)⟩, ⟨(some 74), ld (t 73) 3 true, some (67, true)⟩, ⟨(some 75), fad (t 4) 0, some (67, true)⟩, ⟨(some 76), ld (t 75) 3 true, some (67, true)⟩, ⟨(some 77), callq (c (.fn 110 [])) [t 74, t 76], some (67, true)⟩, ⟨(some 78), bin .geq (t 77) (c (.int .i64 0)), some (67, true)⟩, ⟨(some 79), pick (t 67) (t 78) (c (.bool false)), none⟩]) (cond (t 79) (seq (reg [⟨(some 2), mv (c (.bool false)), none⟩]) (ret)) (skip)))))) (reg [⟨(some 80), bin .add (t 26) (c (.int .i64 1)), none⟩, ⟨(some 26), mv (t 80), none⟩]))))))) (seq (reg [⟨(some 2), mv (c (.bool true)), none⟩]) (ret))))
def r_impl_ValidSum : List ARes := [.tmp 2]
theorem k_impl_ValidSum : acLin Go.Proofs.Tryz.prog 57 1 (inQ [71, 105, 106, 107, 108, 109, 110] []) [⟨false, none, [], [], none⟩, ⟨false, none, [], [], none⟩, ⟨false, none, [], [], none⟩, ⟨false, none, [], [], none⟩, ⟨false, none, [], [], none⟩, ⟨false, none, [], [], none⟩, ⟨false, none, [], [], none⟩, ⟨false, none, [], [], none⟩, ⟨false, some [0, 1, 2, 3, 4, 5, 6, 7, 8, 9, 10, 11, 12, 13, 14, 15, 16, 17, 18, 19, 20, 21, 22, 23, 24, 25, 26, 27, 28, 29, 30, 31, 32, 33], [], [], none⟩, ⟨false, none, [], [], none⟩, ⟨false, none, [], [], none⟩, ⟨false, some [0, 1, 2, 3, 4, 5, 6, 7, 8, 9, 10, 11, 12, 13, 14], [], [], none⟩] = some (c_impl_ValidSum, r_impl_ValidSum) := by kernel_rfl
def c_spec_l05Text : AC := seq (reg [⟨(some 2), mv (c (.str ⟨#[]⟩)), none⟩]) (seq (reg [⟨(some 5), mv (t 0), none⟩, ⟨(some 6), nilc (t 5), none⟩, ⟨(some 7), fad (t 6) 2, none⟩, ⟨(some 8), ld (t 7) 1 false, none⟩, ⟨(some 9), callq (c (.fn 77 [])) [t 8], none⟩, ⟨(some 10), bin .add (c (.str ⟨#[115, 117, 109, 32]⟩)) (t 9), none⟩, ⟨(some 11), bin .add (t 10) (c (.str ⟨#[32]⟩)), none⟩, ⟨(some 12), mv (t 0), none⟩, ⟨(some 13), nilc (t 12), none⟩, ⟨(some 14), fad (t 13) 0, none⟩, ⟨(some 15), ld (t 14) 2 true, none⟩, ⟨(some 16), callq (c (.fn 67 [])) [t 15], none⟩, ⟨(some 17), bin .add (t 11) (t 16), none⟩, ⟨(some 18), bin .add (t 17) (c (.str ⟨#[10]⟩)), none⟩, ⟨(some 3), mv (t 18), none⟩]) (seq (seq (reg [⟨(some 4), mv (c (.int .i64 0)), none⟩]) (block 0 (loop (seq (seq (reg [⟨(some 19), mv (t 4), none⟩, ⟨(some 20), mv (t 0), none⟩, ⟨(some 21), nilc (t 20), none⟩, ⟨(some 22), fad (t 21) 3, none⟩, ⟨(some 23), ld (t 22) 1 false, none⟩, ⟨(some 24), len (t 23), none⟩, ⟨(some 25), bin .lss (t 19) (t 24), none⟩]) (cond (t 25) (skip) (exit 0))) (seq (block 1 (reg [⟨(some 28), mv (t 3), none⟩, ⟨(some 29), mv (t 0), none⟩, ⟨(some 30), nilc (t 29), none⟩, ⟨(some 31), fad (t 30) 3, none⟩, ⟨(some 32), ld (t 31) 1 false, none⟩, ⟨(some 33), mv (t 4), none⟩, ⟨(some 34), iad 5 (t 32) (t 33), none⟩, ⟨(some 35), fad (t 34) 3, none⟩, ⟨(some 36), ld (t 35) 2 true, none⟩, ⟨(some 37), callq (c (.fn 66 [])) [t 36], none⟩, ⟨(some 38), bin .add (t 37) (c (.str ⟨#[32]⟩)), none⟩, ⟨(some 39), mv (t 0), none⟩, ⟨(some 40), nilc (t 39), none⟩, ⟨(some 41), fad (t 40) 3, none⟩, ⟨(some 42), ld (t 41) 1 false, none⟩, ⟨(some 43), mv (t 4), none⟩, ⟨(some 44), iad 5 (t 42) (t 43), none⟩, ⟨(some 45), fad (t 44) 0, none⟩, ⟨(some 46), fad (t 45) 1, none⟩, ⟨(some 47), ld (t 46) 2 true, none⟩, ⟨(some 48), callq (c (.fn 67 [])) [t 47], none⟩, ⟨(some 49), bin .add (t 38) (t 48), none⟩, ⟨(some 50), bin .add (t 49) (c (.str ⟨#[10]⟩)), none⟩, ⟨(some 51), bin .add (t 28) (t 50), none⟩, ⟨(some 3), mv (t 51), none⟩])) (reg [⟨(some 26), mv (t 4), none⟩, ⟨(some 27), bin .add (t 26) (c (.int .i64 1)), none⟩, ⟨(some 4), mv (t 27), none⟩])))))) (seq (reg [⟨(some 52), mv (t 3), none⟩, ⟨(some 2), mv (t 52), none⟩]) (ret))))
def r_spec_l05Text : List ARes := [.tmp 2]
theorem k_spec_l05Text : acLin Go.Proofs.Tryz.prog 49 1 (inQ [66, 67, 77] []) [⟨false, none, [], [], none⟩, ⟨false, some [0, 1, 2, 3, 4, 5, 6, 7, 8, 9, 10, 11, 12, 13, 14], [], [], none⟩, ⟨false, none, [], [], none⟩, ⟨false, none, [], [], none⟩, ⟨false, none, [], [], none⟩, ⟨false, some [0, 1, 2, 3, 4, 5, 6, 7, 8, 9, 10, 11, 12, 13, 14, 15, 16, 17, 18, 19, 20, 21, 22, 23, 24], [], [], none⟩] = some (c_spec_l05Text, r_spec_l05Text) := by kernel_rfl
def c_impl_FlagSum_text : AC := seq (reg [⟨(some 1), box 4 (t 0), none⟩, ⟨(some 2), mv (c (.str ⟨#[]⟩)), none⟩]) (seq (reg [⟨(some 6), fad (t 1) 2, none⟩, ⟨(some 7), ld (t 6) 1 false, none⟩, ⟨(some 8), callq (c (.fn 38 [])) [t 7], none⟩, ⟨(some 9), bin .add (c (.str ⟨#[115, 117, 109, 32]⟩)) (t 8), none⟩, ⟨(some 10), bin .add (t 9) (c (.str ⟨#[32]⟩)), none⟩, ⟨(some 11), fad (t 1) 0, none⟩, ⟨(some 12), ld (t 11) 2 true, none⟩, ⟨(some 13), callq (c (.fn 73 [])) [t 12], none⟩, ⟨(some 14), bin .add (t 10) (t 13), none⟩, ⟨(some 15), bin .add (t 14) (c (.str ⟨#[10]⟩)), none⟩, ⟨(some 3), mv (t 15), none⟩]) (seq (seq (reg [⟨(some 16), fad (t 1) 3, none⟩, ⟨(some 17), ld (t 16) 1 false, none⟩, ⟨(some 18), len (t 17), none⟩, ⟨(some 19), mv (c (.int .i64 0)), none⟩]) (block 0 (loop (seq (reg [⟨(some 20), bin .lss (t 19) (t 18), none⟩]) (seq (cond (t 20) (skip) (exit 0)) (seq (block 1 (seq (reg [⟨(some 21), iad 5 (t 17) (t 19), none⟩, ⟨(some 22), ld (t 21) 5 true, none⟩, ⟨(some 5), alloc [.int .i64 0, .int .i64 0, .int .u32 0, .int .i64 0, .int .i64 0], none⟩, ⟨none, st (t 5) 5 (t 22), none⟩]) (reg [⟨(some 23), mv (t 3), none⟩, ⟨(some 24), fad (t 5) 3, none⟩, ⟨(some 25), ld (t 24) 2 true, none⟩, ⟨(some 26), callq (c (.fn 72 [])) [t 25], none⟩, ⟨(some 27), bin .add (t 26) (c (.str ⟨#[32]⟩)), none⟩, ⟨(some 28), fad (t 5) 0, none⟩, ⟨(some 29), fad (t 28) 1, none⟩, ⟨(some 30), ld (t 29) 2 true, none⟩, ⟨(some 31), callq (c (.fn 73 [])) [t 30], none⟩, ⟨(some 32), bin .add (t 27) (t 31), none⟩, ⟨(some 33), bin .add (t 32) (c (.str ⟨#[10]⟩)), none⟩, ⟨(some 34), bin .add (t 23) (t 33), none⟩, ⟨(some 3), mv (t 34), none⟩]))) (reg [⟨(some 35), bin .add (t 19) (c (.int .i64 1)), none⟩, ⟨(some 19), mv (t 35), none⟩]))))))) (seq (reg [⟨(some 36), mv (t 3), none⟩, ⟨(some 2), mv (t 36), none⟩]) (ret))))
def r_impl_FlagSum_text : List ARes := [.tmp 2]
theorem k_impl_FlagSum_text : acLin Go.Proofs.Tryz.prog 58 1 (inQ [38, 72, 73] []) [⟨false, none, [], [], none⟩, ⟨false, some [0, 1, 2, 3, 4, 5, 6, 7, 8, 9, 10], [], [], none⟩, ⟨false, none, [], [], none⟩, ⟨false, none, [], [], none⟩, ⟨false, none, [], [], none⟩, ⟨false, none, [], [], none⟩, ⟨false, some [0, 1, 2, 3, 4, 5, 6, 7, 8, 9, 10, 11, 12], [], [], none⟩] = some (c_impl_FlagSum_text, r_impl_FlagSum_text) := by kernel_rfl
def c_laws_toTerm : AC := seq (reg [⟨(some 1), box 5 (t 0), none⟩, ⟨(some 2), alloc [.int .i64 0, .int .i64 0, .int .u32 0, .int .i64 0, .int .i64 0], none⟩]) (seq (reg [⟨(some 3), alloc [.int .i64 0, .int .i64 0, .int .u32 0, .int .i64 0, .int .i64 0], none⟩]) (seq (reg [⟨(some 4), fad (t 1) 0, none⟩, ⟨(some 5), ld (t 4) 3 true, none⟩, ⟨(some 6), callq (c (.fn 154 [])) [t 5], none⟩, ⟨(some 7), fad (t 3) 0, none⟩, ⟨none, st (t 7) 3 (t 6), none⟩]) (seq (reg [⟨(some 8), fad (t 1) 3, none⟩, ⟨(some 9), ld (t 8) 2 true, none⟩, ⟨(some 10), callq (c (.fn 27 [])) [t 9], none⟩, ⟨(some 11), fad (t 3) 3, none⟩, ⟨none, st (t 11) 2 (t 10), none⟩]) (seq (reg [⟨(some 12), ld (t 3) 5 true, none⟩, ⟨none, st (t 2) 5 (t 12), none⟩]) (ret)))))
def r_laws_toTerm : List ARes := [.cell 2 5 true]
theorem k_laws_toTerm : acLin Go.Proofs.Tryz.prog 115 1 (inQ [27, 154] []) [] = some (c_laws_toTerm, r_laws_toTerm) := by kernel_rfl
def c_laws_toTermS : AC := seq (reg [⟨(some 2), mv (c (.sl [] true)), none⟩]) (seq (reg [⟨(some 5), mv (t 0), none⟩, ⟨(some 6), len (t 5), none⟩, ⟨(some 7), mks 5 40 [.int .i64 0, .int .i64 0, .int .u32 0, .int .i64 0, .int .i64 0] (t 6) (t 6), none⟩, ⟨(some 3), mv (t 7), none⟩]) (seq (seq (reg [⟨(some 4), mv (c (.int .i64 0)), none⟩]) (block 0 (loop (seq (seq (reg [⟨(some 8), mv (t 4), none⟩, ⟨(some 9), mv (t 0), none⟩, ⟨(some 10), len (t 9), none⟩, ⟨(some 11), bin .lss (t 8) (t 10), none⟩]) (cond (t 11) (skip) (exit 0))) (seq (block 1 (reg [⟨(some 14), mv (t 3), none⟩, ⟨(some 15), mv (t 4), none⟩, ⟨(some 16), mv (t 0), none⟩, ⟨(some 17), mv (t 4), none⟩, ⟨(some 18), iad 5 (t 16) (t 17), none⟩, ⟨(some 19), ld (t 18) 5 true, none⟩, ⟨(some 20), callq (c (.fn 115 [])) [t 19], none⟩, ⟨(some 21), iad 5 (t 14) (t 15), none⟩, ⟨none, st (t 21) 5 (t 20), none⟩])) (reg [⟨(some 12), mv (t 4), none⟩, ⟨(some 13), bin .add (t 12) (c (.int .i64 1)), none⟩, ⟨(some 4), mv (t 13), none⟩])))))) (seq (reg [⟨(some 22), mv (t 3), none⟩, ⟨(some 2), mv (t 22), none⟩]) (seq shift (ret)))))
def r_laws_toTermS : List ARes := [.tmp 2]
theorem k_laws_toTermS : acLin Go.Proofs.Tryz.prog 69 1 (inQ [115] []) [⟨false, none, [], [], none⟩, ⟨false, none, [], [], none⟩, ⟨false, none, [], [], none⟩, ⟨false, none, [], [], none⟩, ⟨false, none, [], [], none⟩, ⟨false, none, [], [], none⟩, ⟨false, none, [], [], none⟩, ⟨false, none, [], [], none⟩, ⟨true, none, [], [], none⟩] = some (c_laws_toTermS, r_laws_toTermS) := by kernel_rfl
def c_laws_toFlagSum : AC := seq (reg [⟨(some 1), box 4 (t 0), none⟩, ⟨(some 2), alloc [.int .i64 0, .int .u32 0, .int .i64 0, .sl [] true], none⟩]) (seq (reg [⟨(some 3), alloc [.int .i64 0, .int .u32 0, .int .i64 0, .sl [] true], none⟩]) (seq (reg [⟨(some 4), fad (t 1) 0, none⟩, ⟨(some 5), ld (t 4) 2 true, none⟩, ⟨(some 6), callq (c (.fn 68 [])) [t 5], none⟩, ⟨(some 7), fad (t 3) 0, none⟩, ⟨none, st (t 7) 2 (t 6), none⟩]) (seq (reg [⟨(some 8), fad (t 1) 2, none⟩, ⟨(some 9), ld (t 8) 1 false, none⟩, ⟨(some 10), fad (t 3) 2, none⟩, ⟨none, st (t 10) 1 (t 9), none⟩]) (seq (reg [⟨(some 11), fad (t 1) 3, none⟩, ⟨(some 12), ld (t 11) 1 false, none⟩, ⟨(some 13), callq (c (.fn 69 [])) [t 12], none⟩, ⟨(some 14), fad (t 3) 3, none⟩, ⟨none, st (t 14) 1 (t 13), none⟩]) (seq (reg [⟨(some 15), ld (t 3) 4 true, none⟩, ⟨none, st (t 2) 4 (t 15), none⟩]) (ret))))))
def r_laws_toFlagSum : List ARes := [.cell 2 4 true]
theorem k_laws_toFlagSum : acLin Go.Proofs.Tryz.prog 26 1 (inQ [68, 69] []) [] = some (c_laws_toFlagSum, r_laws_toFlagSum) := by kernel_rfl
def c_laws_szTermS : AC := seq (reg [⟨(some 4), mv (c (.int .i64 0)), none⟩]) (seq (reg [⟨(some 5), mv (t 1), none⟩, ⟨(some 6), mv (t 0), none⟩, ⟨(some 7), len (t 6), none⟩, ⟨(some 8), bin .sub (t 5) (t 7), none⟩, ⟨(some 1), mv (t 8), none⟩]) (seq (seq (reg [⟨(some 9), mv (t 1), none⟩, ⟨(some 10), bin .lss (t 9) (c (.int .i64 0)), none⟩]) (cond (t 10) (seq (reg [⟨(some 4), mv (c (.int .i64 (-1))), none⟩]) (ret)) (skip))) (seq (reg [⟨(some 11), mv (t 1), none⟩, ⟨(some 4), mv (t 11), none⟩]) (ret))))
def r_laws_szTermS : List ARes := [.tmp 4]
theorem k_laws_szTermS : acLin Go.Proofs.Tryz.prog 63 2 (inQ [] []) [] = some (c_laws_szTermS, r_laws_szTermS) := by kernel_rfl
def c_laws_szFlagSum : AC := seq (reg [⟨(some 2), box 4 (t 0), none⟩, ⟨(some 4), mv (c (.int .i64 0)), none⟩]) (seq (reg [⟨(some 5), fad (t 2) 3, none⟩, ⟨(some 6), ld (t 5) 1 false, none⟩, ⟨(some 7), mv (t 1), none⟩, ⟨(some 8), callq (c (.fn 63 [])) [t 6, t 7], none⟩, ⟨(some 1), mv (t 8), none⟩]) (seq (seq (reg [⟨(some 9), mv (t 1), none⟩, ⟨(some 10), bin .lss (t 9) (c (.int .i64 0)), none⟩]) (cond (t 10) (seq (reg [⟨(some 4), mv (c (.int .i64 (-1))), none⟩]) (ret)) (skip))) (seq (reg [⟨(some 11), mv (t 1), none⟩, ⟨(some 4), mv (t 11), none⟩]) (ret))))
def r_laws_szFlagSum : List ARes := [.tmp 4]
theorem k_laws_szFlagSum : acLin Go.Proofs.Tryz.prog 22 2 (inQ [63] []) [] = some (c_laws_szFlagSum, r_laws_szFlagSum) := by kernel_rfl
def c_laws_eqTerm : AC := seq (reg [⟨(some 2), box 5 (t 0), none⟩, ⟨(some 3), box 5 (t 1), none⟩, ⟨(some 4), mv (c (.bool false)), none⟩]) (seq (seq (reg [⟨(some 5), fad (t 2) 0, none⟩, ⟨(some 6), ld (t 5) 3 true, none⟩, ⟨(some 7), fad (t 3) 0, none⟩, ⟨(some 8), ld (t 7) 3 true, none⟩, ⟨(some 9), callq (c (.fn 152 [])) [t 6, t 8], none⟩, ⟨(some 10), un .not (t 9), none⟩]) (cond (t 10) (seq (reg [⟨(some 4), mv (c (.bool false)), none⟩]) (ret)) (skip))) (seq (seq (reg [⟨(some 11), fad (t 2) 3, none⟩, ⟨(some 12), ld (t 11) 2 true, none⟩, ⟨(some 13), fad (t 3) 3, none⟩, ⟨(some 14), ld (t 13) 2 true, none⟩, ⟨(some 15), callq (c (.fn 31 [])) [t 12, t 14], none⟩, ⟨(some 16), un .not (t 15), none⟩]) (cond (t 16) (seq (reg [⟨(some 4), mv (c (.bool false)), none⟩]) (ret)) (skip))) (seq (reg [⟨(some 4), mv (c (.bool true)), none⟩]) (ret))))
def r_laws_eqTerm : List ARes := [.tmp 4]
theorem k_laws_eqTerm : acLin Go.Proofs.Tryz.prog 111 2 (inQ [31, 152] []) [] = some (c_laws_eqTerm, r_laws_eqTerm) := by kernel_rfl
def c_laws_eqTermS : AC := seq (reg [⟨(some 4), mv (c (.bool false)), none⟩]) (seq (seq (reg [⟨(some 6), mv (t 0), none⟩, ⟨(some 7), len (t 6), none⟩, ⟨(some 8), mv (t 1), none⟩, ⟨(some 9), len (t 8), none⟩, ⟨(some 10), bin .neq (t 7) (t 9), none⟩]) (cond (t 10) (seq (reg [⟨(some 4), mv (c (.bool false)), none⟩]) (ret)) (skip))) (seq (seq (reg [⟨(some 5), mv (c (.int .i64 0)), none⟩]) (block 0 (loop (seq (seq (reg [⟨(some 11), mv (t 5), none⟩, ⟨(some 12), mv (t 0), none⟩, ⟨(some 13), len (t 12), none⟩, ⟨(some 14), bin .lss (t 11) (t 13), none⟩]) (cond (t 14) (skip) (exit 0))) (seq (block 1 (seq (reg [⟨(some 17), mv (t 0), none⟩, ⟨(some 18), mv (t 5), none⟩, ⟨(some 19), iad 5 (t 17) (t 18), none⟩, ⟨(some 20), ld (t 19) 5 true, none⟩, ⟨(some 21), mv (t 1), none⟩, ⟨(some 22), mv (t 5), none⟩, ⟨(some 23), iad 5 (t 21) (t 22), none⟩, ⟨(some 24), ld (t 23) 5 true, none⟩, ⟨(some 25), callq (c (.fn 111 [])) [t 20, t 24], none⟩, ⟨(some 26), un .not (t 25), none⟩]) (cond (t 26) (seq (reg [⟨(some 4), mv (c (.bool false)), none⟩]) (ret)) (skip)))) (reg [⟨(some 15), mv (t 5), none⟩, ⟨(some 16), bin .add (t 15) (c (.int .i64 1)), none⟩, ⟨(some 5), mv (t 16), none⟩])))))) (seq (reg [⟨(some 4), mv (c (.bool true)), none⟩]) (ret))))
def r_laws_eqTermS : List ARes := [.tmp 4]
theorem k_laws_eqTermS : acLin Go.Proofs.Tryz.prog 60 2 (inQ [111] []) [⟨false, none, [], [], none⟩, ⟨false, none, [], [], none⟩, ⟨false, none, [], [], none⟩, ⟨false, none, [], [], none⟩, ⟨false, none, [], [], none⟩, ⟨false, none, [], [], none⟩, ⟨false, none, [], [], none⟩, ⟨false, some [0, 1, 2, 3, 4, 5, 6, 7, 8, 9], [], [], none⟩] = some (c_laws_eqTermS, r_laws_eqTermS) := by kernel_rfl
def c_laws_eqFlagSum : AC := seq (reg [⟨(some 2), box 4 (t 0), none⟩, ⟨(some 3), box 4 (t 1), none⟩, ⟨(some 4), mv (c (.bool false)), none⟩]) (seq (seq (reg [⟨(some 5), fad (t 2) 0, none⟩, ⟨(some 6), ld (t 5) 2 true, none⟩, ⟨(some 7), fad (t 3) 0, none⟩, ⟨(some 8), ld (t 7) 2 true, none⟩, ⟨(some 9), callq (c (.fn 59 [])) [t 6, t 8], none⟩, ⟨(some 10), un .not (t 9), none⟩]) (cond (t 10) (seq (reg [⟨(some 4), mv (c (.bool false)), none⟩]) (ret)) (skip))) (seq (seq (reg [⟨(some 11), fad (t 2) 2, none⟩, ⟨(some 12), ld (t 11) 1 false, none⟩, ⟨(some 13), fad (t 3) 2, none⟩, ⟨(some 14), ld (t 13) 1 false, none⟩, ⟨(some 15), bin .neq (t 12) (t 14), none⟩]) (cond (t 15) (seq (reg [⟨(some 4), mv (c (.bool false)), none⟩]) (ret)) (skip))) (seq (seq (reg [⟨(some 16), fad (t 2) 3, none⟩, ⟨(some 17), ld (t 16) 1 false, none⟩, ⟨(some 18), fad (t 3) 3, none⟩, ⟨(some 19), ld (t 18) 1 false, none⟩, ⟨(some 20), callq (c (.fn 60 [])) [t 17, t 19], none⟩, ⟨(some 21), un .not (t 20), none⟩]) (cond (t 21) (seq (reg [⟨(some 4), mv (c (.bool false)), none⟩]) (ret)) (skip))) (seq (reg [⟨(some 4), mv (c (.bool true)), none⟩]) (ret)))))
def r_laws_eqFlagSum : List ARes := [.tmp 4]
theorem k_laws_eqFlagSum : acLin Go.Proofs.Tryz.prog 18 2 (inQ [59, 60] []) [] = some (c_laws_eqFlagSum, r_laws_eqFlagSum) := by kernel_rfl
end Go.Proofs.YtgophedkejgedaaGreatDoorAi
end

section
/- Contracts: types and least forms of flags. -/
namespace Go.Proofs.YtgophedkejgedaaGreatDoorAi
open Go Go.RowKit
set_option linter.unusedVariables false
set_option linter.unusedSimpArgs false
set_option maxRecDepth 20000

def spanB (n k : Int) : Bool := decide (n ≤ 3) && (decide (n ≤ k) && decide (k ≤ 5))
noncomputable def sp_span : List AV → Option (AV) := pf (ι := (Int) × (Int) × (Int)) (α := AV) (fun ⟨n, e, k⟩ => 0 ≤ e ∧ e ≤ 4294967295) (fun ⟨n, e, k⟩ => [.agg [.int .i64 n, .int .u32 e], .int .i64 k]) (fun ⟨n, e, k⟩ => .bool (spanB n k))
theorem sp_span_eq (n e k : Int) (h : 0 ≤ e ∧ e ≤ 4294967295) : sp_span [.agg [.int .i64 n, .int .u32 e], .int .i64 k] = some (.bool (spanB n k)) := by
  unfold sp_span
  exact pf_eq (ι := (Int) × (Int) × (Int)) (α := AV) (n, e, k) h (by rintro ⟨n', e', k'⟩ _ e; simp_all [Int.natCast_inj])
theorem q_impl_spanOk : QP PP 106 sp_span := by
  refine QP_pf (fun i h => ?_) fun i h => ?_
  · obtain ⟨n, e, k⟩ := i; exact ⟨by first | rfl | simp, by first | rfl | simp⟩
  obtain ⟨n, e, k⟩ := i
  replace h : 0 ≤ e ∧ e ≤ 4294967295 := h
  refine P_code (Quiet.q1 q_impl_in Quiet.nil) hmix k_impl_spanOk rfl ?_ ?_
  · first | rfl | simp
  show wpc 0 PP _ c_impl_spanOk (initSt [.agg [.int .i64 n, .int .u32 e], .int .i64 k] .nil) (endP r_impl_spanOk (.bool (spanB n k)))
  unfold spanB
  by_cases h1 : n ≤ 3 <;> simp -dsimp -implicitDefEqProofs [c_impl_spanOk, r_impl_spanOk, h1]
theorem q_spec_l05Frame : QP PP 92 sp_span := by
  refine QP_pf (fun i h => ?_) fun i h => ?_
  · obtain ⟨n, e, k⟩ := i; exact ⟨by first | rfl | simp, by first | rfl | simp⟩
  obtain ⟨n, e, k⟩ := i
  replace h : 0 ≤ e ∧ e ≤ 4294967295 := h
  refine P_code (Quiet.q1 q_spec_l00In Quiet.nil) hmix k_spec_l05Frame rfl ?_ ?_
  · first | rfl | simp
  show wpc 0 PP _ c_spec_l05Frame (initSt [.agg [.int .i64 n, .int .u32 e], .int .i64 k] .nil) (endP r_spec_l05Frame (.bool (spanB n k)))
  unfold spanB
  by_cases h1 : n ≤ 3 <;> simp -dsimp -implicitDefEqProofs [c_spec_l05Frame, r_spec_l05Frame, h1]
noncomputable def sp_nan32 : List AV → Option (AV) := pf (ι := (Int)) (α := AV) (fun a => True) (fun a => [.int .u32 a]) (fun a => .bool false)
theorem sp_nan32_eq (a : Int) : sp_nan32 [.int .u32 a] = some (.bool false) := by
  unfold sp_nan32
  exact pf_eq (ι := (Int)) (α := AV) a trivial (by rintro a' _ e; simp_all [Int.natCast_inj])
attribute [simp] sp_nan32_eq
theorem q_cmp_isNaN_uint32 : QP PP 187 sp_nan32 := by
  refine QP_pf (fun a h => ?_) fun a h => ?_
  · exact ⟨by first | rfl | simp, by first | rfl | simp⟩
  replace h : True := h
  refine P_code Quiet.nil hmix k_cmp_isNaN_uint32 rfl ?_ ?_
  · first | rfl | simp
  show wpc 0 PP _ c_cmp_isNaN_uint32 (initSt [.int .u32 a] .nil) (endP r_cmp_isNaN_uint32 (.bool false))
  have h1 : (a != a) = false := by simp
  simp -dsimp -implicitDefEqProofs [c_cmp_isNaN_uint32, r_cmp_isNaN_uint32, h1]
def ordI (a b : Int) : Int := if a < b then -1 else if b < a then 1 else 0
noncomputable def sp_cmp32 : List AV → Option (AV) := pf (ι := (Int) × (Int)) (α := AV) (fun ⟨a, b⟩ => True) (fun ⟨a, b⟩ => [.int .u32 a, .int .u32 b]) (fun ⟨a, b⟩ => .int .i64 (ordI a b))
theorem sp_cmp32_eq (a b : Int) : sp_cmp32 [.int .u32 a, .int .u32 b] = some (.int .i64 (ordI a b)) := by
  unfold sp_cmp32
  exact pf_eq (ι := (Int) × (Int)) (α := AV) (a, b) trivial (by rintro ⟨a', b'⟩ _ e; simp_all [Int.natCast_inj])
attribute [simp] sp_cmp32_eq
theorem q_cmp_Compare_uint32 : QP PP 151 sp_cmp32 := by
  refine QP_pf (fun i h => ?_) fun i h => ?_
  · obtain ⟨a, b⟩ := i; exact ⟨by first | rfl | simp, by first | rfl | simp⟩
  obtain ⟨a, b⟩ := i
  replace h : True := h
  refine P_code (Quiet.q1 q_cmp_isNaN_uint32 Quiet.nil) hmix k_cmp_Compare_uint32 rfl ?_ ?_
  · first | rfl | simp
  show wpc 0 PP _ c_cmp_Compare_uint32 (initSt [.int .u32 a, .int .u32 b] .nil) (endP r_cmp_Compare_uint32 (.int .i64 (ordI a b)))
  unfold ordI
  by_cases h1 : a < b
  · simp -dsimp -implicitDefEqProofs [c_cmp_Compare_uint32, r_cmp_Compare_uint32, h1]
  · by_cases h2 : b < a <;> simp -dsimp -implicitDefEqProofs [c_cmp_Compare_uint32, r_cmp_Compare_uint32, h1, h2]
noncomputable def sp_flagOrd : List AV → Option (AV) := pf (ι := (Int) × (Int) × (Int) × (Int) × (Int) × (Int)) (α := AV) (fun ⟨k, n, a, k', n', b⟩ => True) (fun ⟨k, n, a, k', n', b⟩ => [.agg [.int .i64 k, .int .i64 n, .int .u32 a], .agg [.int .i64 k', .int .i64 n', .int .u32 b]]) (fun ⟨k, n, a, k', n', b⟩ => .int .i64 (ordI a b))
theorem sp_flagOrd_eq (k n a k' n' b : Int) : sp_flagOrd [.agg [.int .i64 k, .int .i64 n, .int .u32 a], .agg [.int .i64 k', .int .i64 n', .int .u32 b]] = some (.int .i64 (ordI a b)) := by
  unfold sp_flagOrd
  exact pf_eq (ι := (Int) × (Int) × (Int) × (Int) × (Int) × (Int)) (α := AV) (k, n, a, k', n', b) trivial (by rintro ⟨k', n', a', k'', n'', b'⟩ _ e; simp_all [Int.natCast_inj])
attribute [simp] sp_flagOrd_eq
theorem q_impl_flagOrder : QP PP 110 sp_flagOrd := by
  refine QP_pf (fun i h => ?_) fun i h => ?_
  · obtain ⟨k, n, a, k', n', b⟩ := i; exact ⟨by first | rfl | simp, by first | rfl | simp⟩
  obtain ⟨k, n, a, k', n', b⟩ := i
  replace h : True := h
  refine P_code (Quiet.q1 q_cmp_Compare_uint32 Quiet.nil) hmix k_impl_flagOrder rfl ?_ ?_
  · first | rfl | simp
  show wpc 0 PP _ c_impl_flagOrder (initSt [.agg [.int .i64 k, .int .i64 n, .int .u32 a], .agg [.int .i64 k', .int .i64 n', .int .u32 b]] .nil) (endP r_impl_flagOrder (.int .i64 (ordI a b)))
  simp -dsimp -implicitDefEqProofs [c_impl_flagOrder, r_impl_flagOrder]
theorem ordI_ge (a b : Int) : decide (0 ≤ ordI a b) = decide (b ≤ a) := by
  unfold ordI
  by_cases h1 : a < b
  · rw [if_pos h1, decide_eq_false (by omega), decide_eq_false (by omega)]
  · rw [if_neg h1, decide_eq_true (show b ≤ a by omega)]
    split <;> rfl
/-! ### least graphs -/
noncomputable def sp_least2 : List (Option (List AV)) → List AV → Option (AV × List (Option (List AV))) := pv (pf (ι := (Nat) × (Int) × (Nat) × (List Int)) (α := AV × List (Option (List AV))) (fun ⟨n, e, c, K⟩ => (0 ≤ e ∧ e ≤ 4294967295) ∧ distL K ∧ K.length = n) (fun i => .agg (((fun ⟨n, e, c, K⟩ => [some [.int .i64 n, .int .u32 c], some [.int .i64 n, .int .u32 e]] : (Nat) × (Int) × (Nat) × (List Int) → List (Option (List AV))) i).map enO) :: (fun ⟨n, e, c, K⟩ => [.sl (insA K) false, .ptr 0 0, .ptr 1 0] : (Nat) × (Int) × (Nat) × (List Int) → List AV) i) (fun ⟨n, e, c, K⟩ => (.bool false, [some [.int .i64 n, .int .u32 (min c (onE e K) : Nat)], some [.int .i64 n, .int .u32 e]])))
theorem sp_least2_eq (n : Nat) (e : Int) (c : Nat) (K : List Int) (h : (0 ≤ e ∧ e ≤ 4294967295) ∧ distL K ∧ K.length = n) : sp_least2 [some [.int .i64 n, .int .u32 c], some [.int .i64 n, .int .u32 e]] [.sl (insA K) false, .ptr 0 0, .ptr 1 0] = some (.bool false, [some [.int .i64 n, .int .u32 (min c (onE e K) : Nat)], some [.int .i64 n, .int .u32 e]]) := by
  unfold sp_least2 pv
  exact pf_eq (ι := (Nat) × (Int) × (Nat) × (List Int)) (α := AV × List (Option (List AV))) (n, e, c, K) h (by rintro ⟨n', e', c', K'⟩ _ e; simp_all [enO, Int.natCast_inj])
theorem v_impl_Graph_least_1 : QV PP 186 sp_least2 := by
  refine QV_pf fun i h => ?_
  obtain ⟨n, e, c, K⟩ := i
  replace h : (0 ≤ e ∧ e ≤ 4294967295) ∧ distL K ∧ K.length = n := h
  refine H_code (Quiet.e1 q_impl_Graph_on.toR Quiet.nil) hmix k_impl_Graph_least_1 rfl (fun b => b) (by simp [AHeap.n]) (fun _ _ => rfl) (by rfl) (by first | rfl | simp) ?_
  show wpc _ PP _ c_impl_Graph_least_1 (initSt [.sl (insA K) false, .ptr 0 0, .ptr 1 0] ⟨[some [.int .i64 n, .int .u32 c], some [.int .i64 n, .int .u32 e]]⟩) (endH (fun b => b) r_impl_Graph_least_1 (.bool false) [some [.int .i64 n, .int .u32 (min c (onE e K) : Nat)], some [.int .i64 n, .int .u32 e]])
  obtain ⟨he, hK, hl⟩ := h
  have ho := sp_on_eq n e K ⟨he, hK⟩
  rw [hl] at ho
  simp -dsimp -implicitDefEqProofs [c_impl_Graph_least_1, r_impl_Graph_least_1, ho, hsub]
  split <;> omega
def lstF (e : Int) (AL : List (List Int)) (c : Nat) : Nat := AL.foldl (fun c K => min c (onE e K)) c
def lstEn (e : Int) : List Int → Nat → Bool × Nat := fun K c => (false, min c (onE e K))
theorem goL_lst (e : Int) : ∀ (AL : List (List Int)) (c : Nat), goL (lstEn e) AL c = (false, lstF e AL c)
  | [], c => rfl
  | L :: r, c => by
    rw [goL]
    show (if (lstEn e L c).1 = true then _ else goL (lstEn e) r (lstEn e L c).2) = _
    simp only [lstEn, Bool.false_eq_true, if_false]
    exact goL_lst e r _
def leastE (n stay : Nat) (e : Nat) : Nat := lstF e (ordersL n stay) e
theorem lstF_le (e : Int) : ∀ (AL : List (List Int)) (c : Nat), lstF e AL c ≤ c
  | [], c => Nat.le_refl _
  | L :: r, c => Nat.le_trans (lstF_le e r _) (Nat.min_le_left _ _)
theorem hget3 {a b d : Option (List AV)} {i : Nat} {cs : List AV} (h : hget [a, b, d] i = some cs) : (i = 0 ∧ a = some cs) ∨ (i = 1 ∧ b = some cs) ∨ (i = 2 ∧ d = some cs) := by
  have := hget_lt h
  simp at this
  have h2 : i = 0 ∨ i = 1 ∨ i = 2 := by omega
  rcases h2 with rfl | rfl | rfl
  · exact .inl ⟨rfl, by simpa [hget] using h⟩
  · exact .inr (.inl ⟨rfl, by simpa [hget] using h⟩)
  · exact .inr (.inr ⟨rfl, by simpa [hget] using h⟩)
noncomputable def sp_leastG2 : List AV → Option (AV) := pf (ι := (Nat) × (Nat) × (Nat)) (α := AV) (fun ⟨n, stay, e⟩ => (n ≤ 5 ∧ stay ≤ n) ∧ e ≤ 4294967295) (fun ⟨n, stay, e⟩ => [.agg [.int .i64 n, .int .u32 e], .int .i64 stay]) (fun ⟨n, stay, e⟩ => .agg [.int .i64 n, .int .u32 (leastE n stay e)])
theorem sp_leastG2_eq (n stay e : Nat) (h : (n ≤ 5 ∧ stay ≤ n) ∧ e ≤ 4294967295) : sp_leastG2 [.agg [.int .i64 n, .int .u32 e], .int .i64 stay] = some (.agg [.int .i64 n, .int .u32 (leastE n stay e)]) := by
  unfold sp_leastG2
  exact pf_eq (ι := (Nat) × (Nat) × (Nat)) (α := AV) (n, stay, e) h (by rintro ⟨n', stay', e'⟩ _ e; simp_all [Int.natCast_inj])
theorem q_impl_Graph_least : QP PP 150 sp_leastG2 := by
  refine QP_pf (fun i h => ?_) fun i h => ?_
  · obtain ⟨n, stay, e⟩ := i; exact ⟨by first | rfl | simp, by first | rfl | simp⟩
  obtain ⟨n, stay, e⟩ := i
  replace h : (n ≤ 5 ∧ stay ≤ n) ∧ e ≤ 4294967295 := h
  refine P_code Quiet.nil hmix k_impl_Graph_least rfl ?_ ?_
  · first | rfl | simp
  show wpc 0 PP _ c_impl_Graph_least (initSt [.agg [.int .i64 n, .int .u32 e], .int .i64 stay] .nil) (endP r_impl_Graph_least (.agg [.int .i64 n, .int .u32 (leastE n stay e)]))
  obtain ⟨⟨hn, hst⟩, he⟩ := h
  let H : Nat → List (Option (List AV)) := fun c => [some [.int .i64 n, .int .u32 e], some [.int .i64 0, .int .u32 0], some [.int .i64 n, .int .u32 c]]
  have hT := T_orders (ι := Nat) (H := H) (N := 3) (g2 := 186) (caps2 := [.ptr 2 0, .ptr 0 0]) (en := lstEn e) (e := e) (fun s => rfl)
    (fun s b hb => by
      have h2 : b = 0 ∨ b = 1 ∨ b = 2 := by omega
      rcases h2 with rfl | rfl | rfl <;> rfl)
    (fun s b cs hb => by
      rcases hget3 hb with ⟨_, h⟩ | ⟨_, h⟩ | ⟨_, h⟩ <;> (obtain rfl := Option.some.inj h; simp [H]))
    (by simp) rfl hn hst
    (fun s K hK hr hnd => by
      refine v_impl_Graph_least_1.toE _ _ _ _ ?_
      have := sp_least2_eq n e s K ⟨⟨by omega, by omega⟩, ⟨hnd, by omega, fun x hx => by have := hr x hx; omega⟩, hK⟩
      simp [H, this, lstEn]) e
  have hG : goL (lstEn e) (ordersL n stay) e = (false, leastE n stay e) := goL_lst e _ _
  rw [hG] at hT
  simp -dsimp -implicitDefEqProofs [c_impl_Graph_least, r_impl_Graph_least]
  refine T.mono hT ?_
  rintro r A' ⟨rfl, rfl⟩
  simp only [H]
  simp -dsimp -implicitDefEqProofs
noncomputable def sp_flagLst : List AV → Option (AV) := pf (ι := (Nat) × (Nat) × (Nat)) (α := AV) (fun ⟨k, n, e⟩ => (n ≤ 5 ∧ k ≤ n) ∧ e ≤ 4294967295) (fun ⟨k, n, e⟩ => [.agg [.int .i64 k, .int .i64 n, .int .u32 e]]) (fun ⟨k, n, e⟩ => .agg [.int .i64 k, .int .i64 n, .int .u32 (leastE n k e)])
theorem sp_flagLst_eq (k n e : Nat) (h : (n ≤ 5 ∧ k ≤ n) ∧ e ≤ 4294967295) : sp_flagLst [.agg [.int .i64 k, .int .i64 n, .int .u32 e]] = some (.agg [.int .i64 k, .int .i64 n, .int .u32 (leastE n k e)]) := by
  unfold sp_flagLst
  exact pf_eq (ι := (Nat) × (Nat) × (Nat)) (α := AV) (k, n, e) h (by rintro ⟨k', n', e'⟩ _ e; simp_all [Int.natCast_inj])
theorem q_impl_Flag_least : QP PP 109 sp_flagLst := by
  refine QP_pf (fun i h => ?_) fun i h => ?_
  · obtain ⟨k, n, e⟩ := i; exact ⟨by first | rfl | simp, by first | rfl | simp⟩
  obtain ⟨k, n, e⟩ := i
  replace h : (n ≤ 5 ∧ k ≤ n) ∧ e ≤ 4294967295 := h
  refine P_code (Quiet.q1 q_impl_Graph_least Quiet.nil) hmix k_impl_Flag_least rfl ?_ ?_
  · first | rfl | simp
  show wpc 0 PP _ c_impl_Flag_least (initSt [.agg [.int .i64 k, .int .i64 n, .int .u32 e]] .nil) (endP r_impl_Flag_least (.agg [.int .i64 k, .int .i64 n, .int .u32 (leastE n k e)]))
  simp -dsimp -implicitDefEqProofs [c_impl_Flag_least, r_impl_Flag_least, sp_leastG2_eq n k e h]
end Go.Proofs.YtgophedkejgedaaGreatDoorAi
end

section
/- Contracts: types of flags, orders of flags. -/
namespace Go.Proofs.YtgophedkejgedaaGreatDoorAi
open Go Go.RowKit
set_option linter.unusedVariables false
set_option linter.unusedSimpArgs false
set_option maxRecDepth 20000

theorem upTo_dist {k : Nat} (h : k ≤ 5) : distL (upTo k) := ⟨upTo_nodup k, by simp; omega, fun x hx => by have := upTo_mem hx; omega⟩
def typeE (k e : Nat) : Nat := onE e (upTo k)
noncomputable def sp_typeF : List AV → Option (AV) := pf (ι := (Nat) × (Nat) × (Nat)) (α := AV) (fun ⟨k, n, e⟩ => k ≤ 3 ∧ e ≤ 4294967295) (fun ⟨k, n, e⟩ => [.agg [.int .i64 k, .int .i64 n, .int .u32 e]]) (fun ⟨k, n, e⟩ => .agg [.int .i64 k, .int .u32 (typeE k e)])
theorem sp_typeF_eq (k n e : Nat) (h : k ≤ 3 ∧ e ≤ 4294967295) : sp_typeF [.agg [.int .i64 k, .int .i64 n, .int .u32 e]] = some (.agg [.int .i64 k, .int .u32 (typeE k e)]) := by
  unfold sp_typeF
  exact pf_eq (ι := (Nat) × (Nat) × (Nat)) (α := AV) (k, n, e) h (by rintro ⟨k', n', e'⟩ _ e; simp_all [Int.natCast_inj])
theorem q_impl_Flag_typeOf : QP PP 149 sp_typeF := by
  refine QP_pf (fun i h => ?_) fun i h => ?_
  · obtain ⟨k, n, e⟩ := i; exact ⟨by first | rfl | simp, by first | rfl | simp⟩
  obtain ⟨k, n, e⟩ := i
  replace h : k ≤ 3 ∧ e ≤ 4294967295 := h
  refine P_code (Quiet.e1 n_impl_first.toE (Quiet.e1 q_impl_Graph_on.toR Quiet.nil)) hmix k_impl_Flag_typeOf rfl ?_ ?_
  · first | rfl | simp
  show wpc 0 PP _ c_impl_Flag_typeOf (initSt [.agg [.int .i64 k, .int .i64 n, .int .u32 e]] .nil) (endP r_impl_Flag_typeOf (.agg [.int .i64 k, .int .u32 (typeE k e)]))
  have hf := sp_firstP_eq k (by omega)
  have ho := sp_on_eq n e (upTo k) ⟨⟨by omega, by omega⟩, upTo_dist (by omega)⟩
  rw [upTo_len] at ho
  unfold firstR at hf
  unfold typeE
  rcases Nat.eq_zero_or_pos k with rfl | hk
  · rw [if_pos rfl] at hf
    have ho' : sp_on [.agg [.int .i64 n, .int .u32 e], .sl [] false] = some (.agg [.int .i64 0, .int .u32 (onE e (upTo 0))]) := ho
    have hf' : sp_firstP [.int .i64 0] = some (.sl [] true, []) := hf
    simp -dsimp -implicitDefEqProofs [c_impl_Flag_typeOf, r_impl_Flag_typeOf, hf', ho']
  · rw [if_neg (by omega)] at hf
    simp -dsimp -implicitDefEqProofs [c_impl_Flag_typeOf, r_impl_Flag_typeOf, hf, ho]
theorem q_spec_l03Type : QP PP 134 sp_typeF := by
  refine QP_pf (fun i h => ?_) fun i h => ?_
  · obtain ⟨k, n, e⟩ := i; exact ⟨by first | rfl | simp, by first | rfl | simp⟩
  obtain ⟨k, n, e⟩ := i
  replace h : k ≤ 3 ∧ e ≤ 4294967295 := h
  refine P_code (Quiet.e1 n_spec_l01First.toE (Quiet.e1 q_spec_l01On.toR Quiet.nil)) hmix k_spec_l03Type rfl ?_ ?_
  · first | rfl | simp
  show wpc 0 PP _ c_spec_l03Type (initSt [.agg [.int .i64 k, .int .i64 n, .int .u32 e]] .nil) (endP r_spec_l03Type (.agg [.int .i64 k, .int .u32 (typeE k e)]))
  have hf := sp_firstP_eq k (by omega)
  have ho := sp_on_eq n e (upTo k) ⟨⟨by omega, by omega⟩, upTo_dist (by omega)⟩
  rw [upTo_len] at ho
  unfold firstR at hf
  unfold typeE
  rcases Nat.eq_zero_or_pos k with rfl | hk
  · rw [if_pos rfl] at hf
    have ho' : sp_on [.agg [.int .i64 n, .int .u32 e], .sl [] false] = some (.agg [.int .i64 0, .int .u32 (onE e (upTo 0))]) := ho
    have hf' : sp_firstP [.int .i64 0] = some (.sl [] true, []) := hf
    simp -dsimp -implicitDefEqProofs [c_spec_l03Type, r_spec_l03Type, hf', ho']
  · rw [if_neg (by omega)] at hf
    simp -dsimp -implicitDefEqProofs [c_spec_l03Type, r_spec_l03Type, hf, ho]
/-- The orders in which some first vertices stay: those of the others behind them. -/
def behind (k : Nat) (L : List Int) : List Int := upTo k ++ L.map (· + (k : Int))
theorem orders_behind : ∀ n : Nat, n ≤ 5 → ∀ k : Nat, k ≤ n → ordersL n k = (permL (n - k) (n - k)).map (behind k) := by
  have : ∀ n : Nat, n < 6 → ∀ k : Nat, k < n + 1 → ordersL n k = (permL (n - k) (n - k)).map (behind k) := by decide +kernel
  exact fun n hn k hk => this n (by omega) k (by omega)
def fitTB (k n e tn te s : Int) : Bool := (n == s) && (((k : Int) == tn) && ((typeE k.toNat e.toNat : Int) == te))
noncomputable def sp_fitsF : List AV → Option (AV) := pf (ι := (Nat) × (Nat) × (Nat) × (Int) × (Int) × (Int)) (α := AV) (fun ⟨k, n, e, tn, te, s⟩ => k ≤ 3 ∧ e ≤ 4294967295) (fun ⟨k, n, e, tn, te, s⟩ => [.agg [.int .i64 k, .int .i64 n, .int .u32 e], .agg [.int .i64 tn, .int .u32 te], .int .i64 s]) (fun ⟨k, n, e, tn, te, s⟩ => .bool (fitTB k n e tn te s))
theorem sp_fitsF_eq (k n e : Nat) (tn te s : Int) (h : k ≤ 3 ∧ e ≤ 4294967295) : sp_fitsF [.agg [.int .i64 k, .int .i64 n, .int .u32 e], .agg [.int .i64 tn, .int .u32 te], .int .i64 s] = some (.bool (fitTB k n e tn te s)) := by
  unfold sp_fitsF
  exact pf_eq (ι := (Nat) × (Nat) × (Nat) × (Int) × (Int) × (Int)) (α := AV) (k, n, e, tn, te, s) h (by rintro ⟨k', n', e', tn', te', s'⟩ _ e; simp_all [Int.natCast_inj])
theorem q_impl_Flag_fits : QP PP 108 sp_fitsF := by
  refine QP_pf (fun i h => ?_) fun i h => ?_
  · obtain ⟨k, n, e, tn, te, s⟩ := i; exact ⟨by first | rfl | simp, by first | rfl | simp⟩
  obtain ⟨k, n, e, tn, te, s⟩ := i
  replace h : k ≤ 3 ∧ e ≤ 4294967295 := h
  refine P_code (Quiet.q1 q_impl_Flag_typeOf Quiet.nil) hmix k_impl_Flag_fits rfl ?_ ?_
  · first | rfl | simp
  show wpc 0 PP _ c_impl_Flag_fits (initSt [.agg [.int .i64 k, .int .i64 n, .int .u32 e], .agg [.int .i64 tn, .int .u32 te], .int .i64 s] .nil) (endP r_impl_Flag_fits (.bool (fitTB k n e tn te s)))
  have ht := sp_typeF_eq k n e h
  unfold fitTB
  cases h1 : ((n : Int) == s) <;> simp -dsimp -implicitDefEqProofs [c_impl_Flag_fits, r_impl_Flag_fits, ht, h1]
theorem q_spec_l05Fits : QP PP 94 sp_fitsF := by
  refine QP_pf (fun i h => ?_) fun i h => ?_
  · obtain ⟨k, n, e, tn, te, s⟩ := i; exact ⟨by first | rfl | simp, by first | rfl | simp⟩
  obtain ⟨k, n, e, tn, te, s⟩ := i
  replace h : k ≤ 3 ∧ e ≤ 4294967295 := h
  refine P_code (Quiet.q1 q_spec_l03Type Quiet.nil) hmix k_spec_l05Fits rfl ?_ ?_
  · first | rfl | simp
  show wpc 0 PP _ c_spec_l05Fits (initSt [.agg [.int .i64 k, .int .i64 n, .int .u32 e], .agg [.int .i64 tn, .int .u32 te], .int .i64 s] .nil) (endP r_spec_l05Fits (.bool (fitTB k n e tn te s)))
  have ht := sp_typeF_eq k n e h
  unfold fitTB
  cases h1 : ((n : Int) == s) <;> cases h2 : ((k : Int) == tn) <;> cases h3 : ((typeE k e : Int) == te) <;> simp -dsimp -implicitDefEqProofs [c_spec_l05Fits, r_spec_l05Fits, ht, h1, h2, h3]
end Go.Proofs.YtgophedkejgedaaGreatDoorAi
end

section
/- Contracts: orders in which labels stay. -/
namespace Go.Proofs.YtgophedkejgedaaGreatDoorAi
open Go Go.RowKit
set_option linter.unusedVariables false
set_option linter.unusedSimpArgs false
set_option maxRecDepth 20000

def curO (k : Nat) (L : List Int) (i : Nat) : List Int := upTo k ++ (L.take i).map (· + (k : Int))
theorem curO_zero (k : Nat) (L : List Int) : curO k L 0 = upTo k := by simp [curO]
theorem curO_all (k : Nat) (L : List Int) : curO k L L.length = behind k L := by simp [curO, behind]
theorem curO_snoc (k : Nat) (L : List Int) (i : Nat) (h : i < L.length) : curO k L (i + 1) = curO k L i ++ [L[i] + (k : Int)] := by
  unfold curO; rw [take_snoc L i h, List.map_append, List.append_assoc]; rfl
theorem curO_len (k : Nat) (L : List Int) (i : Nat) (h : i ≤ L.length) : (curO k L i).length = k + i := by
  simp [curO]; omega
def listR (M : List Int) : AV × List (Option (List AV)) := (cellL 0 M, objL M)
def l3St (k : Nat) (L : List Int) (i : Nat) : St := ⟨tl [(0, .int .i64 k), (1, .sl (insA L) false), (5, cellL 0 (curO k L i)), (6, .int .i64 i)], ⟨objL (curO k L i)⟩⟩
theorem objL_inj (f : Nat → Nat) (L : List Int) : injB f (objL L).length = true := by
  by_cases hL : L = []
  · rw [hL, objL_nil]; rfl
  · rw [objL_cons hL]; rfl
theorem cellL_lt0 (L : List Int) : AV.lt (objL L).length (cellL 0 L) = true := by
  by_cases hL : L = []
  · rw [hL, objL_nil, cellL_nil]; rfl
  · rw [objL_cons hL, cellL_cons hL]; simp
noncomputable def sp_orderP : List AV → Option (AV × List (Option (List AV))) := pf (ι := (Nat) × (List Int)) (α := AV × List (Option (List AV))) (fun ⟨k, L⟩ => k ≤ 5 ∧ L.length ≤ 5 ∧ ∀ x ∈ L, 0 ≤ x ∧ x ≤ 5) (fun ⟨k, L⟩ => [.int .i64 k, .sl (insA L) false]) (fun ⟨k, L⟩ => listR (behind k L))
theorem sp_orderP_eq (k : Nat) (L : List Int) (h : k ≤ 5 ∧ L.length ≤ 5 ∧ ∀ x ∈ L, 0 ≤ x ∧ x ≤ 5) : sp_orderP [.int .i64 k, .sl (insA L) false] = some (listR (behind k L)) := by
  unfold sp_orderP
  exact pf_eq (ι := (Nat) × (List Int)) (α := AV × List (Option (List AV))) (k, L) h (by rintro ⟨k', L'⟩ _ e; simp_all [Int.natCast_inj])
theorem n_spec_l03Order : QN PP 138 sp_orderP := by
  refine QN_pf (fun i h => ?_) fun i h => ?_
  · obtain ⟨k, L⟩ := i; first | rfl | simp
  obtain ⟨k, L⟩ := i
  replace h : k ≤ 5 ∧ L.length ≤ 5 ∧ ∀ x ∈ L, 0 ≤ x ∧ x ≤ 5 := h
  show T PP 138 [.int .i64 k, .sl (insA L) false] .nil fun r' A' => r' = ((listR (behind k L) : AV × List (Option (List AV)))).1 ∧ A' = ⟨((listR (behind k L) : AV × List (Option (List AV)))).2⟩
  obtain ⟨hk, hl, hx⟩ := h
  unfold listR
  refine H_code (Quiet.e1 n_spec_l01First.toE Quiet.nil) hmix k_spec_l03Order rfl (fun _ => 0) (by simp [AHeap.n, AHeap.nil]) (by intro b hb; simp [AHeap.n, AHeap.nil] at hb <;> subst hb <;> rfl) (objL_inj _ _) (cellL_lt0 _) ?_
  have hf := sp_firstP_eq k (by omega)
  unfold firstR at hf
  rcases Nat.eq_zero_or_pos k with rfl | hk0
  · rw [if_pos rfl] at hf
    have hf' : sp_firstP [.int .i64 0] = some (.sl [] true, []) := hf
    simp -dsimp -implicitDefEqProofs [c_spec_l03Order, r_spec_l03Order, hf']
    refine wpLoop_st (l3St 0 L) (fun i => i ≤ L.length) (fun i => L.length - i) 0 (by omega) (Sub.keep (by simp [l3St]) (by simp [hsub, l3St, curO_zero, upTo, objL_nil]) (by simp [l3St, curO_zero, upTo, cellL_nil, objL_nil])) ?_
    intro i hi
    have hcl := curO_len 0 L i hi
    rcases Nat.eq_zero_or_pos i with rfl | hi0
    · have hc0 : curO 0 L 0 = [] := rfl
      simp -dsimp -implicitDefEqProofs [l3St, hc0, cellL_nil, objL_nil]
      refine brW_of (fun h => ?_) (fun h => ?_) <;> simp only [decide_eq_true_eq, decide_eq_false_iff_not] at h
      · have hi' : 0 < L.length := by omega
        have hxi := hx L[0] (List.getElem_mem hi')
        have hwk : IntKind.wrap .i64 L[0] = L[0] := wrapI64 (by omega) (by omega)
        have hsn : curO 0 L 1 = [L[0]] := by
          have := curO_snoc 0 L 0 hi'
          rw [hc0] at this
          simpa using this
        have hw1 : IntKind.wrap .i64 1 = 1 := rfl
        have hm : 1 * 9 ≤ mostBytes := by decide
        have hne1 : [L[0]] ≠ [] := by simp
        simp -dsimp -implicitDefEqProofs [hi', hwk, hw1, hm]
        exact .mk 1 (by omega) (by omega) (Sub.mk' (fun b => if b = 0 then 1 else b) (by simp [l3St]) (by intro b hb; omega) (by show injB _ (objL (curO 0 L 1)).length = true; rw [hsn, objL_cons hne1]; rfl) (by simp [hsub, l3St, hsn, objL_cons hne1, flat_in]) (by simp [l3St, hsn, cellL_cons hne1, objL_cons hne1, hw1]))
      · have hL : L = [] := List.eq_nil_of_length_eq_zero (by omega)
        subst hL
        have hbh : behind 0 [] = [] := rfl
        simp -dsimp -implicitDefEqProofs [hsub, hbh, cellL_nil, objL_nil]
    have hne : curO 0 L i ≠ [] := by intro e; have := congrArg List.length e; rw [hcl] at this; simp only [List.length_nil] at this; omega
    simp -dsimp -implicitDefEqProofs [l3St]
    refine brW_of (fun h => ?_) (fun h => ?_) <;> simp only [decide_eq_true_eq, decide_eq_false_iff_not] at h
    · have hi' : i < L.length := by omega
      have hw := wrapNat (i := i) (by omega)
      have hxi := hx L[i] (List.getElem_mem hi')
      have hwk : IntKind.wrap .i64 (((0 : Nat) : Int) + L[i]) = L[i] + ((0 : Nat) : Int) := by rw [wrapI64 (by omega) (by omega)]; omega
      have hsn := curO_snoc 0 L i hi'
      have hcl2 := curO_len 0 L (i + 1) (by omega)
      have hne2 : curO 0 L (i + 1) ≠ [] := by intro e; have := congrArg List.length e; rw [hcl2] at this; simp only [List.length_nil] at this; omega
      have hcat : flatA (insA (curO 0 L i)) ++ [.int .i64 (L[i] + ((0 : Nat) : Int))] = flatA (insA (curO 0 L (i + 1))) := by rw [hsn, flatA_append, flatA_one]; rfl
      have hwk' : IntKind.wrap .i64 L[i] = L[i] := wrapI64 (by omega) (by omega)
      have hcat' : flatA (insA (curO 0 L i)) ++ [.int .i64 L[i]] = flatA (insA (curO 0 L (i + 1))) := by simpa using hcat
      generalize hC2 : curO 0 L (i + 1) = C2 at *
      generalize curO 0 L i = C at *
      have hm : (C.length + 1) * 9 ≤ mostBytes := by simp only [mostBytes]; omega
      have hfit : ¬ (C.length + 1 ≤ C.length) := by omega
      have htl : (flatA (insA C)).take C.length = flatA (insA C) := List.take_of_length_le (by simp)
      have hC2l : C2.length = C.length + 1 := by omega
      simp -dsimp -implicitDefEqProofs [hi', hw, hwk', hm, hfit, htl, hcat', cellL_cons hne, objL_cons hne]
      exact .mk (i + 1) (by omega) (by omega) (Sub.mk' (fun b => if b = 0 then 2 else b) (by simp [l3St]) (by intro b hb; omega) (by show injB _ (objL (curO 0 L (i + 1))).length = true; rw [hC2, objL_cons hne2]; rfl) (by simp [hsub, l3St, hC2, objL_cons hne2]) (by simp [l3St, hC2, cellL_cons hne2, objL_cons hne2, hC2l, hw]))
    · have : i = L.length := by omega
      subst this
      rw [curO_all] at hne ⊢
      simp -dsimp -implicitDefEqProofs [hsub, cellL_cons hne, objL_cons hne]
  · rw [if_neg (by omega)] at hf
    simp -dsimp -implicitDefEqProofs [c_spec_l03Order, r_spec_l03Order, hf]
    refine wpLoop_st (l3St k L) (fun i => i ≤ L.length) (fun i => L.length - i) 0 (by omega) (Sub.keep (by simp [l3St]) (by simp [hsub, l3St, curO_zero, objL_cons (upTo_ne hk0)]) (by simp [l3St, curO_zero, cellL_cons (upTo_ne hk0), objL_cons (upTo_ne hk0)])) ?_
    intro i hi
    have hcl := curO_len k L i hi
    have hne : curO k L i ≠ [] := by intro e; have := congrArg List.length e; rw [hcl] at this; simp only [List.length_nil] at this; omega
    simp -dsimp -implicitDefEqProofs [l3St]
    refine brW_of (fun h => ?_) (fun h => ?_) <;> simp only [decide_eq_true_eq, decide_eq_false_iff_not] at h
    · have hi' : i < L.length := by omega
      have hw := wrapNat (i := i) (by omega)
      have hxi := hx L[i] (List.getElem_mem hi')
      have hwk : IntKind.wrap .i64 ((k : Int) + L[i]) = L[i] + k := by rw [wrapI64 (by omega) (by omega)]; omega
      have hsn := curO_snoc k L i hi'
      have hcl2 := curO_len k L (i + 1) (by omega)
      have hne2 : curO k L (i + 1) ≠ [] := by intro e; have := congrArg List.length e; rw [hcl2] at this; simp only [List.length_nil] at this; omega
      have hcat : flatA (insA (curO k L i)) ++ [.int .i64 (L[i] + (k : Int))] = flatA (insA (curO k L (i + 1))) := by rw [hsn, flatA_append, flatA_one]; rfl
      generalize hC2 : curO k L (i + 1) = C2 at *
      generalize curO k L i = C at *
      have hm : (C.length + 1) * 9 ≤ mostBytes := by simp only [mostBytes]; omega
      have hfit : ¬ (C.length + 1 ≤ C.length) := by omega
      have htl : (flatA (insA C)).take C.length = flatA (insA C) := List.take_of_length_le (by simp)
      have hC2l : C2.length = C.length + 1 := by omega
      simp -dsimp -implicitDefEqProofs [hi', hw, hwk, hm, hfit, htl, hcat, cellL_cons hne, objL_cons hne]
      exact .mk (i + 1) (by omega) (by omega) (Sub.mk' (fun b => if b = 0 then 2 else b) (by simp [l3St]) (by intro b hb; omega) (by show injB _ (objL (curO k L (i + 1))).length = true; rw [hC2, objL_cons hne2]; rfl) (by simp [hsub, l3St, hC2, objL_cons hne2]) (by simp [l3St, hC2, cellL_cons hne2, objL_cons hne2, hC2l, hw]))
    · have : i = L.length := by omega
      subst this
      rw [curO_all] at hne ⊢
      simp -dsimp -implicitDefEqProofs [hsub, cellL_cons hne, objL_cons hne]
end Go.Proofs.YtgophedkejgedaaGreatDoorAi
end

section
/- Contracts: the least flag of the reference. -/
namespace Go.Proofs.YtgophedkejgedaaGreatDoorAi
open Go Go.RowKit
set_option linter.unusedVariables false
set_option linter.unusedSimpArgs false
set_option maxRecDepth 20000

noncomputable def sp_nextNil : List AV → Option (AV) := pf (ι := (Int)) (α := AV) (fun n => True) (fun n => [.sl [] false, .int .i64 n]) (fun n => .bool false)
theorem sp_nextNil_eq (n : Int) : sp_nextNil [.sl [] false, .int .i64 n] = some (.bool false) := by
  unfold sp_nextNil
  exact pf_eq (ι := (Int)) (α := AV) n trivial (by rintro n' _ e; simp_all [Int.natCast_inj])
attribute [simp] sp_nextNil_eq
theorem q_nextNil : QP PP 136 sp_nextNil := by
  refine QP_pf (fun n h => ?_) fun n h => ?_
  · exact ⟨by first | rfl | simp, by first | rfl | simp⟩
  refine P_code Quiet.nil hmix k_spec_l01Next rfl ?_ ?_
  · first | rfl | simp
  show wpc 0 PP _ c_spec_l01Next (initSt [.sl [] false, .int .i64 n] .nil) (endP r_spec_l01Next (.bool false))
  have w0 : IntKind.i64.wrap (0 - 1) = -1 := rfl
  have w0' : IntKind.i64.wrap (-1) = -1 := rfl
  simp -dsimp -implicitDefEqProofs [c_spec_l01Next, r_spec_l01Next, w0, w0']
  refine wpLoop_st (fun (_ : Unit) => ⟨tl [(0, .sl [] false), (1, .int .i64 n), (5, .int .i64 0), (6, .int .i64 (-1))], ⟨[]⟩⟩) (fun _ => True) (fun _ => 0) () trivial (Sub.keep (by simp) (by simp [hsub]) (by simp)) ?_
  intro _ _
  simp -dsimp -implicitDefEqProofs
theorem e_nextF : QE PP 136 (refE (spV sp_nextP) (spR sp_nextNil)) := QE.ref v_spec_l01Next.toE q_nextNil.toR
theorem behind_dist {k d : Nat} (h : k + d ≤ 5) {L : List Int} (hL : L.length = d) (hr : ∀ x ∈ L, 0 ≤ x ∧ x < (d : Int)) (hn : L.Nodup) : distL (behind k L) := by
  refine ⟨?_, by simp [behind]; omega, fun x hx => ?_⟩
  · unfold behind
    refine List.nodup_append.2 ⟨upTo_nodup k, ?_, ?_⟩
    · exact List.pairwise_map.2 (hn.imp fun {a b} hab e => hab (by simpa using e))
    · intro a ha b hb e
      obtain ⟨y, hy, rfl⟩ := List.mem_map.1 hb
      have h1 := upTo_mem ha
      have h2 := hr y hy
      omega
  · unfold behind at hx
    rcases List.mem_append.1 hx with hx | hx
    · have := upTo_mem hx; omega
    · obtain ⟨y, hy, rfl⟩ := List.mem_map.1 hx
      have := hr y hy
      omega
theorem behind_len (k : Nat) (L : List Int) : (behind k L).length = k + L.length := by simp [behind]
theorem leastE_behind {n k e : Nat} (hn : n ≤ 5) (hk : k ≤ n) : leastE n k e = (permL (n - k) (n - k)).foldl (fun c L => min c (onE e (behind k L))) e := by
  unfold leastE lstF
  rw [orders_behind n hn k hk, List.foldl_map]
set_option maxHeartbeats 4000000 in
theorem q_spec_l03Least : QP PP 95 sp_flagLst := by
  refine QP_pf (fun i h => ?_) fun i h => ?_
  · obtain ⟨k, n, e⟩ := i; exact ⟨by first | rfl | simp, by first | rfl | simp⟩
  obtain ⟨k, n, e⟩ := i
  replace h : (n ≤ 5 ∧ k ≤ n) ∧ e ≤ 4294967295 := h
  refine P_code (Quiet.e1 n_spec_l01First.toE (Quiet.e1 n_spec_l03Order.toR (Quiet.e1 q_spec_l01On.toR (Quiet.e1 e_nextF Quiet.nil)))) hmix k_spec_l03Least rfl ?_ ?_
  · first | rfl | simp
  show wpc 0 PP _ c_spec_l03Least (initSt [.agg [.int .i64 k, .int .i64 n, .int .u32 e]] .nil) (endP r_spec_l03Least (.agg [.int .i64 k, .int .i64 n, .int .u32 (leastE n k e)]))
  obtain ⟨⟨hn5, hk⟩, he⟩ := h
  rw [leastE_behind hn5 hk]
  have hf := sp_firstP_eq (n - k) (by omega)
  unfold firstR at hf
  have hw : IntKind.wrap .i64 ((n : Int) - k) = ((n - k : Nat) : Int) := by rw [wrapI64 (by omega) (by omega)]; omega
  generalize hd : n - k = d at *
  have hnk : n = k + d := by omega
  rcases Nat.eq_zero_or_pos d with rfl | hdp
  · have hp : permL 0 0 = [[]] := rfl
    rw [hp, List.foldl_cons, List.foldl_nil]
    have hf0 : sp_firstP [.int .i64 0] = some (.sl [] true, []) := hf
    have hw0 : IntKind.wrap .i64 ((n : Int) - k) = 0 := hw
    have hbd := behind_dist (k := k) (d := 0) (L := []) (by omega) rfl (fun x hx => by cases hx) List.nodup_nil
    have hbl := behind_len k []
    have hon := sp_on_eq n e (behind k []) ⟨⟨by omega, by omega⟩, hbd⟩
    have hor := sp_orderP_eq k [] ⟨by omega, by simp, fun x hx => by cases hx⟩
    have hor' : sp_orderP [.int .i64 k, .sl [] false] = some (listR (behind k [])) := hor
    unfold listR at hor'
    have hbl2 : (behind k []).length = n := by rw [hbl]; simp; omega
    rw [hbl2] at hon
    generalize hX : onE e (behind k []) = X at *
    simp -dsimp -implicitDefEqProofs [c_spec_l03Least, r_spec_l03Least, hf0, hw0]
    refine wpLoop_st (fun (q : Bool × Nat) => ⟨tl [(1, .ptr 0 0), (2, .ptr 1 0), (3, .ptr 2 0), (4, .sl [] true), (5, .bool q.1)], ⟨[some [.int .i64 k, .int .i64 n, .int .u32 e], some [.int .i64 0, .int .i64 0, .int .u32 0], some [.int .i64 k, .int .i64 n, .int .u32 q.2]]⟩⟩)
      (fun q => (q.1 = true → q.2 = e) ∧ (q.1 = false → q.2 = min e X)) (fun q => if q.1 = true then 1 else 0) (true, e) ⟨fun _ => rfl, fun h => (by cases h)⟩ (Sub.keep (by simp) (by simp [hsub]) (by simp)) ?_
    rintro ⟨m, c⟩ ⟨m1, m2⟩
    simp only at m1 m2
    cases m with
    | false =>
      have hc := m2 rfl
      simp -dsimp -implicitDefEqProofs [hc]
    | true =>
      have hc := m1 rfl
      subst hc
      by_cases hbn : behind k [] = []
      · rw [hbn, cellL_nil, objL_nil] at hor'
        rw [hbn] at hon
        have hon' : sp_on [.agg [.int .i64 n, .int .u32 c], .sl [] false] = some (.agg [.int .i64 n, .int .u32 X]) := hon
        by_cases hb : X < c
        · have hbi : (X : Int) < c := by omega
          simp -dsimp -implicitDefEqProofs [hor', hon', hw0, hb, hbi]
          exact .mk (false, X) ⟨fun h => (by cases h), fun _ => (by simp only; omega)⟩ (by simp) (Sub.keep (by simp) (by simp [hsub]) (by simp))
        · have hbi : ¬ (X : Int) < c := by omega
          simp -dsimp -implicitDefEqProofs [hor', hon', hw0, hb, hbi]
          exact .mk (false, c) ⟨fun h => (by cases h), fun _ => (by simp only; omega)⟩ (by simp) (Sub.keep (by simp) (by simp [hsub]) (by simp))
      · rw [cellL_cons hbn, objL_cons hbn, hbl2] at hor'
        generalize behind k [] = BL at *
        by_cases hb : X < c
        · have hbi : (X : Int) < c := by omega
          simp -dsimp -implicitDefEqProofs [hor', hon, hbl2, hw0, hb, hbi]
          exact .mk (false, X) ⟨fun h => (by cases h), fun _ => (by simp only; omega)⟩ (by simp) (Sub.keep (by simp) (by simp [hsub]) (by simp))
        · have hbi : ¬ (X : Int) < c := by omega
          simp -dsimp -implicitDefEqProofs [hor', hon, hbl2, hw0, hb, hbi]
          exact .mk (false, c) ⟨fun h => (by cases h), fun _ => (by simp only; omega)⟩ (by simp) (Sub.keep (by simp) (by simp [hsub]) (by simp))
  · rw [if_neg (by omega)] at hf
    have hch := permL_chain d (by omega) d (Nat.le_refl _)
    have hfi := permL_first d (by omega) d (Nat.le_refl _)
    have hmem : ∀ (i : Nat) (L : List Int), (permL d d)[i]? = some L → distL L ∧ L.length = d ∧ ∀ x ∈ L, 0 ≤ x ∧ x < (d : Int) := fun i L h => permL_dist (by omega) (Nat.le_refl _) (List.mem_of_getElem? h)
    generalize permL d d = AL at hch hfi hmem ⊢
    have hAL : 0 < AL.length := by
      rcases Nat.eq_zero_or_pos AL.length with h0 | h0
      · rw [List.getElem?_eq_none (by omega)] at hfi; cases hfi
      · exact h0
    generalize hA : AL.foldl (fun c L => min c (onE e (behind k L))) e = A
    simp -dsimp -implicitDefEqProofs [c_spec_l03Least, r_spec_l03Least, hf, hw]
    refine wpLoop_st (fun (q : Nat × List Int × Nat) => ⟨tl [(1, .ptr 0 0), (2, .ptr 1 0), (3, .ptr 2 0), (4, .ref 3 1 0 d .full), (5, .bool (decide (q.1 < AL.length)))], ⟨[some [.int .i64 k, .int .i64 n, .int .u32 e], some [.int .i64 0, .int .i64 0, .int .u32 0], some [.int .i64 k, .int .i64 n, .int .u32 q.2.2], some (flatA (insA q.2.1))]⟩⟩)
      (fun q => q.1 ≤ AL.length ∧ q.2.1.length = d ∧ (q.1 < AL.length → AL[q.1]? = some q.2.1) ∧ (AL.drop q.1).foldl (fun c L => min c (onE e (behind k L))) q.2.2 = A)
      (fun q => AL.length - q.1) (0, upTo d, e) ⟨by omega, by simp, fun _ => hfi, by simpa using hA⟩ (Sub.keep (by simp) (by simp [hsub]) (by simp [hAL])) ?_
    rintro ⟨i, L, c⟩ ⟨q1, q2, q3, q4⟩
    simp only at q1 q2 q3 q4
    by_cases hi : i < AL.length
    · have hL := q3 hi
      obtain ⟨hdist, _, hr⟩ := hmem i L hL
      have hbd := behind_dist (k := k) (d := d) (by omega) q2 hr hdist.1
      have hbl := behind_len k L
      have hon := sp_on_eq n e (behind k L) ⟨⟨by omega, by omega⟩, hbd⟩
      have hbn : behind k L ≠ [] := by intro e0; have := congrArg List.length e0; rw [hbl] at this; simp only [List.length_nil] at this; omega
      have hor := sp_orderP_eq k L ⟨by omega, by omega, fun x hx => by have := hr x hx; omega⟩
      unfold listR at hor
      rw [cellL_cons hbn, objL_cons hbn] at hor
      have hnx0 := sp_nextP_eq d L .full ⟨by omega, by omega, fun x hx => by have := hr x hx; omega⟩
      have hbl2 : (behind k L).length = n := by omega
      rw [hbl2] at hon hor
      rw [q2] at hnx0
      have hnx := chainB_get hch i L hL
      have hod : (nextF d L d).2 = decide (i + 1 < AL.length) ∧ (i + 1 < AL.length → AL[i + 1]? = some (nextF d L d).1) := by
        unfold nextN at hnx
        rw [q2] at hnx
        cases ho : (nextF d L d).2 with
        | true =>
          rw [ho, if_pos rfl] at hnx
          have := (List.getElem?_eq_some_iff.1 hnx.symm).1
          exact ⟨by simp [this], fun _ => hnx.symm⟩
        | false =>
          rw [ho] at hnx
          simp only [Bool.false_eq_true, if_false] at hnx
          have : ¬ i + 1 < AL.length := fun hlt => by rw [List.getElem?_eq_getElem hlt] at hnx; cases hnx
          exact ⟨by simp [this], fun h => absurd h this⟩
      have hod1 := hod.1
      have hlen2 : (nextF d L d).1.length = d := by rw [nextF_len]; exact q2
      have hL0 : AL[i] = L := by rw [List.getElem?_eq_getElem hi] at hL; exact Option.some.inj hL
      rw [drop_cons hi, hL0, List.foldl_cons] at q4
      have hgo : ∀ c' : Nat, min c (onE e (behind k L)) = c' → (AL.drop (i + 1)).foldl (fun c L => min c (onE e (behind k L))) c' = A := fun c' e1 => by rw [← e1]; exact q4
      clear q4
      generalize onE e (behind k L) = X at *
      generalize behind k L = BL at *
      by_cases hb : X < c
      · have hbi : (X : Int) < c := by omega
        have hg := hgo X (Nat.min_eq_right (by omega))
        simp -dsimp -implicitDefEqProofs [hi, q2, hor, hon, hbl2, hw, hb, hbi, hnx0, hod1]
        exact .mk (i + 1, (nextF d L d).1, X) ⟨by simp only; omega, hlen2, hod.2, hg⟩ (by simp only; omega) (Sub.keep (by simp) (by simp [hsub]) (by simp))
      · have hbi : ¬ (X : Int) < c := by omega
        have hg := hgo c (Nat.min_eq_left (by omega))
        simp -dsimp -implicitDefEqProofs [hi, q2, hor, hon, hbl2, hw, hb, hbi, hnx0, hod1]
        exact .mk (i + 1, (nextF d L d).1, c) ⟨by simp only; omega, hlen2, hod.2, hg⟩ (by simp only; omega) (Sub.keep (by simp) (by simp [hsub]) (by simp))
    · have : i = AL.length := by omega
      subst this
      rw [drop_end hi] at q4
      have q4 : c = A := q4
      simp -dsimp -implicitDefEqProofs [hi, q4]
end Go.Proofs.YtgophedkejgedaaGreatDoorAi
end

section
/- Contracts: valid sums of flags. -/
namespace Go.Proofs.YtgophedkejgedaaGreatDoorAi
open Go Go.RowKit
set_option linter.unusedVariables false
set_option linter.unusedSimpArgs false
set_option maxRecDepth 20000

/-- A term: a flag (labels, size, edges) and a fraction. -/
structure Tm where
  k : Int
  n : Int
  e : Int
  p : Int
  q : Int
  deriving DecidableEq
abbrev tmA (x : Tm) : AV := .agg [.int .i64 x.k, .int .i64 x.n, .int .u32 x.e, .int .i64 x.p, .int .i64 x.q]
instance : Plain tmA 5 := ⟨fun _ => rfl, by omega, fun _ => rfl, fun _ => rfl, fun _ => rfl, fun _ _ => rfl⟩
theorem tmA_inj (x y : Tm) (h : tmA x = tmA y) : x = y := by cases x; cases y; simp_all
abbrev tmsA (l : List Tm) : List AV := mapA tmA l
@[simp] theorem tmsA_inj {l k : List Tm} : mapA tmA l = mapA tmA k ↔ l = k := ⟨mapA_inj tmA_inj, fun h => by rw [h]⟩
def termB (tn te s : Int) (x : Tm) : Bool := flagOk x.k x.n x.e && (fitTB x.k x.n x.e tn te s && ((((leastE x.n.toNat x.k.toNat x.e.toNat : Nat) : Int) == x.e) && (frOk x.p x.q && !(x.p == 0))))
def okTm (tn te s : Int) (L : List Tm) (i : Nat) : Prop := ∀ h : i < L.length, termB tn te s L[i] = true ∧ ∀ j (hj : j + 1 = i), (L[j]'(by omega)).e < L[i].e
def SumP (tn te s : Int) (L : List Tm) : Prop := (graphOk tn te = true ∧ spanB tn s = true ∧ L.length ≤ 64) ∧ ∀ i, i < L.length → okTm tn te s L i
open Classical in
noncomputable def sumB (tn te s : Int) (L : List Tm) : Bool := decide (SumP tn te s L)
theorem sumB_true {tn te s : Int} {L : List Tm} (h : SumP tn te s L) : sumB tn te s L = true := by unfold sumB; simp [h]
theorem sumB_false {tn te s : Int} {L : List Tm} (h : ¬ SumP tn te s L) : sumB tn te s L = false := by unfold sumB; simp [h]
theorem sumB_P {tn te s : Int} {L : List Tm} (h : sumB tn te s L = true) : SumP tn te s L := by unfold sumB at h; simpa using h
theorem sum_bad {tn te s : Int} {L : List Tm} {i : Nat} (h : i < L.length) (hb : termB tn te s L[i] = false) : sumB tn te s L = false :=
  sumB_false fun hp => by have := (hp.2 i h h).1; rw [hb] at this; cases this
theorem sum_bad2 {tn te s : Int} {L : List Tm} {j : Nat} (h : j + 1 < L.length) (hb : ¬ (L[j]'(by omega)).e < (L[j + 1]'h).e) : sumB tn te s L = false :=
  sumB_false fun hp => hb ((hp.2 (j + 1) h h).2 j rfl)
abbrev u32L (L : List Tm) : Prop := ∀ x ∈ L, 0 ≤ x.e ∧ x.e ≤ 4294967295
/-- What is known of a flag that is right. -/
theorem flag_facts {k n e : Int} (h : flagOk k n e = true) (he : 0 ≤ e ∧ e ≤ 4294967295) : ((k.toNat : Nat) : Int) = k ∧ ((n.toNat : Nat) : Int) = n ∧ ((e.toNat : Nat) : Int) = e ∧ (k.toNat ≤ 3 ∧ e.toNat ≤ 4294967295) ∧ ((n.toNat ≤ 5 ∧ k.toNat ≤ n.toNat) ∧ e.toNat ≤ 4294967295) := by
  have hf := flagOk_in h
  unfold flagOk at h
  simp only [Bool.and_eq_true, decide_eq_true_eq] at h
  have := h.2
  omega
theorem fits_of {k n e : Int} (tn te s : Int) (h : flagOk k n e = true) (he : 0 ≤ e ∧ e ≤ 4294967295) : sp_fitsF [.agg [.int .i64 k, .int .i64 n, .int .u32 e], .agg [.int .i64 tn, .int .u32 te], .int .i64 s] = some (.bool (fitTB k n e tn te s)) := by
  obtain ⟨h1, h2, h3, h4, h5⟩ := flag_facts h he
  have := sp_fitsF_eq k.toNat n.toNat e.toNat tn te s h4
  rw [h1, h2, h3] at this
  exact this
theorem leastF_of {k n e : Int} (h : flagOk k n e = true) (he : 0 ≤ e ∧ e ≤ 4294967295) : sp_flagLst [.agg [.int .i64 k, .int .i64 n, .int .u32 e]] = some (.agg [.int .i64 k, .int .i64 n, .int .u32 (leastE n.toNat k.toNat e.toNat)]) := by
  obtain ⟨h1, h2, h3, h4, h5⟩ := flag_facts h he
  have := sp_flagLst_eq k.toNat n.toNat e.toNat h5
  rw [h1, h2, h3] at this
  exact this
noncomputable def sp_sumOk : List AV → Option (AV) := pf (ι := (Int) × (Int) × (Int) × (List Tm)) (α := AV) (fun ⟨tn, te, s, L⟩ => (0 ≤ te ∧ te ≤ 4294967295) ∧ L.length ≤ maxLen ∧ u32L L) (fun ⟨tn, te, s, L⟩ => [.agg [.int .i64 tn, .int .u32 te, .int .i64 s, .sl (tmsA L) false]]) (fun ⟨tn, te, s, L⟩ => .bool (sumB tn te s L))
theorem sp_sumOk_eq (tn te s : Int) (L : List Tm) (h : (0 ≤ te ∧ te ≤ 4294967295) ∧ L.length ≤ maxLen ∧ u32L L) : sp_sumOk [.agg [.int .i64 tn, .int .u32 te, .int .i64 s, .sl (tmsA L) false]] = some (.bool (sumB tn te s L)) := by
  unfold sp_sumOk
  exact pf_eq (ι := (Int) × (Int) × (Int) × (List Tm)) (α := AV) (tn, te, s, L) h (by rintro ⟨tn', te', s', L'⟩ _ e; simp_all [Int.natCast_inj])
set_option maxHeartbeats 4000000 in
theorem q_impl_ValidSum : QP PP 57 sp_sumOk := by
  refine QP_pf (fun i h => ?_) fun i h => ?_
  · obtain ⟨tn, te, s, L⟩ := i; exact ⟨by first | rfl | simp, by first | rfl | simp⟩
  obtain ⟨tn, te, s, L⟩ := i
  replace h : (0 ≤ te ∧ te ≤ 4294967295) ∧ L.length ≤ maxLen ∧ u32L L := h
  refine P_code (Quiet.q1 q_impl_ValidGraph (Quiet.q1 q_impl_spanOk (Quiet.q1 q_impl_ValidFlag (Quiet.q1 q_impl_Flag_fits (Quiet.q1 q_impl_Flag_least (Quiet.q1 q_impl_ValidFraction (Quiet.q1 q_impl_flagOrder Quiet.nil))))))) hmix k_impl_ValidSum rfl ?_ ?_
  · first | rfl | simp
  show wpc 0 PP _ c_impl_ValidSum (initSt [.agg [.int .i64 tn, .int .u32 te, .int .i64 s, .sl (tmsA L) false]] .nil) (endP r_impl_ValidSum (.bool (sumB tn te s L)))
  obtain ⟨hte, hl, hu⟩ := h
  simp only [maxLen] at hl
  have hg := sp_graphOk_eq tn te hte
  have hs := sp_span_eq tn te s hte
  cases h1 : graphOk tn te with
  | false =>
    rw [h1] at hg
    have hm := sumB_false (tn := tn) (te := te) (s := s) (L := L) (fun h => by have := h.1.1; rw [h1] at this; cases this)
    simp -dsimp -implicitDefEqProofs [c_impl_ValidSum, r_impl_ValidSum, hg, hm]
  | true =>
    rw [h1] at hg
    cases h2 : spanB tn s with
    | false =>
      rw [h2] at hs
      have hm := sumB_false (tn := tn) (te := te) (s := s) (L := L) (fun h => by have := h.1.2.1; rw [h2] at this; cases this)
      simp -dsimp -implicitDefEqProofs [c_impl_ValidSum, r_impl_ValidSum, hg, hs, hm]
    | true =>
      rw [h2] at hs
      by_cases h64 : L.length ≤ 64
      · have h64' : ¬ (64 : Int) < L.length := by omega
        simp -dsimp -implicitDefEqProofs [c_impl_ValidSum, r_impl_ValidSum, hg, hs, h64']
        refine wpLoop_st (fun (i : Nat) => ⟨tl [(1, .ptr 0 0), (24, .sl (tmsA L) false), (25, .int .i64 L.length), (26, .int .i64 i)], ⟨[some [.int .i64 tn, .int .u32 te, .int .i64 s, .sl (tmsA L) false]]⟩⟩) (fun i => i ≤ L.length ∧ ∀ i', i' < i → okTm tn te s L i') (fun i => L.length - i) 0 ⟨by omega, fun i' h => by omega⟩ (Sub.keep (by simp) (by simp [hsub]) (by simp)) ?_
        rintro i ⟨hi, hok⟩
        simp -dsimp -implicitDefEqProofs
        refine brW_of (fun h => ?_) (fun h => ?_) <;> simp only [decide_eq_true_eq, decide_eq_false_iff_not] at h
        · have hx : i < L.length := by omega
          have hwi := wrapNat (i := i) (by omega)
          have hue := hu L[i] (List.getElem_mem hx)
          have hf := sp_flagOk_eq L[i].k L[i].n L[i].e hue
          have hbad := sum_bad (tn := tn) (te := te) (s := s) hx
          unfold termB at hbad
          cases c1 : flagOk L[i].k L[i].n L[i].e with
          | false =>
            rw [c1] at hf hbad
            simp -dsimp -implicitDefEqProofs [hx, hf, hbad rfl]
          | true =>
            rw [c1] at hf hbad
            have hft := fits_of tn te s c1 hue
            have hls := leastF_of c1 hue
            cases c2 : fitTB L[i].k L[i].n L[i].e tn te s with
            | false =>
              rw [c2] at hft hbad
              simp -dsimp -implicitDefEqProofs [hx, hf, hft, hbad rfl]
            | true =>
              rw [c2] at hft hbad
              cases c3 : (((leastE L[i].n.toNat L[i].k.toNat L[i].e.toNat : Nat) : Int) == L[i].e) with
              | false =>
                rw [c3] at hbad
                simp -dsimp -implicitDefEqProofs [hx, hf, hft, hls, c3, hbad rfl]
              | true =>
                rw [c3] at hbad
                cases c4 : frOk L[i].p L[i].q with
                | false =>
                  rw [c4] at hbad
                  simp -dsimp -implicitDefEqProofs [hx, hf, hft, hls, c3, c4, hbad rfl]
                | true =>
                  rw [c4] at hbad
                  cases c5 : (L[i].p == 0) with
                  | true =>
                    rw [c5] at hbad
                    simp -dsimp -implicitDefEqProofs [hx, hf, hft, hls, c3, c4, c5, hbad rfl]
                  | false =>
                    have hgood : termB tn te s L[i] = true := by unfold termB; rw [c1, c2, c3, c4, c5]; rfl
                    rcases i with _ | j
                    · simp -dsimp -implicitDefEqProofs [hx, hf, hft, hls, c3, c4, c5, hwi]
                      have w1 : IntKind.wrap .i64 1 = 1 := rfl
                      exact .mk 1 ⟨by omega, fun i' h' => by
                        obtain rfl : i' = 0 := by omega
                        exact fun _ => ⟨hgood, fun j hj => by omega⟩⟩ (by omega) (Sub.keep (by simp) (by simp [hsub]) (by simp [w1]))
                    · have hj : j < L.length := by omega
                      have hp : (0 : Int) < ((j : Int) + 1) := by omega
                      have hp0 : (0 : Int) ≤ ((j : Int) + 1) := by omega
                      have hwj : IntKind.wrap .i64 (j : Int) = j := wrapI64 (by omega) (by omega)
                      have hge := ordI_ge L[j].e L[j + 1].e
                      by_cases c6 : L[j + 1].e ≤ L[j].e
                      · rw [decide_eq_true c6] at hge
                        have hm := sum_bad2 (tn := tn) (te := te) (s := s) hx (by omega)
                        simp -dsimp -implicitDefEqProofs [hx, hf, hft, hls, c3, c4, c5, hj, hp, hp0, hwj, hge, hm]
                      · rw [decide_eq_false c6] at hge
                        simp -dsimp -implicitDefEqProofs [hx, hf, hft, hls, c3, c4, c5, hj, hp, hp0, hwj, hge, hwi]
                        have hw2 : IntKind.wrap .i64 ((j : Int) + 1 + 1) = (j : Int) + 1 + 1 := wrapI64 (by omega) (by omega)
                        exact .mk (j + 1 + 1) ⟨by omega, fun i' h' => by
                          by_cases e : i' = j + 1
                          · subst e; exact fun _ => ⟨hgood, fun j' hj' => by
                              obtain rfl : j' = j := by omega
                              omega⟩
                          · exact hok i' (by omega)⟩ (by omega) (Sub.keep (by simp) (by simp [hsub]) (by simp [hw2]))
        · have : i = L.length := by omega
          subst this
          have hm := sumB_true (tn := tn) (te := te) (s := s) (L := L) ⟨⟨h1, h2, h64⟩, hok⟩
          simp -dsimp -implicitDefEqProofs [hm]
      · have h64' : (64 : Int) < L.length := by omega
        have hm := sumB_false (tn := tn) (te := te) (s := s) (L := L) (fun h => h64 h.1.2.2)
        simp -dsimp -implicitDefEqProofs [c_impl_ValidSum, r_impl_ValidSum, hg, hs, h64', hm]
end Go.Proofs.YtgophedkejgedaaGreatDoorAi
end

section
/- Contracts: valid sums of the reference. -/
namespace Go.Proofs.YtgophedkejgedaaGreatDoorAi
open Go Go.RowKit
set_option linter.unusedVariables false
set_option linter.unusedSimpArgs false
set_option maxRecDepth 20000

theorem getTm {L : List Tm} {i : Nat} (h : i < L.length) : (mapA tmA L)[i]? = some (tmA L[i]) := mapA_getE tmA L i h
noncomputable def sp_l05Ok : List AV → List AV → Option (AV × List AV) := pm (pf (ι := (Int) × (Int) × (Int) × (List Tm)) (α := AV × List AV) (fun ⟨tn, te, s, L⟩ => (0 ≤ te ∧ te ≤ 4294967295) ∧ L.length ≤ maxLen ∧ u32L L) (fun i => .agg ((fun ⟨tn, te, s, L⟩ => [.int .i64 tn, .int .u32 te, .int .i64 s, .sl (tmsA L) false] : (Int) × (Int) × (Int) × (List Tm) → List AV) i) :: (fun ⟨tn, te, s, L⟩ => [] : (Int) × (Int) × (Int) × (List Tm) → List AV) i) (fun ⟨tn, te, s, L⟩ => (.bool (sumB tn te s L), [.int .i64 tn, .int .u32 te, .int .i64 s, .sl (tmsA L) false])))
theorem sp_l05Ok_eq (tn te s : Int) (L : List Tm) (h : (0 ≤ te ∧ te ≤ 4294967295) ∧ L.length ≤ maxLen ∧ u32L L) : sp_l05Ok [.int .i64 tn, .int .u32 te, .int .i64 s, .sl (tmsA L) false] [] = some (.bool (sumB tn te s L), [.int .i64 tn, .int .u32 te, .int .i64 s, .sl (tmsA L) false]) := by
  unfold sp_l05Ok pm
  exact pf_eq (ι := (Int) × (Int) × (Int) × (List Tm)) (α := AV × List AV) (tn, te, s, L) h (by rintro ⟨tn', te', s', L'⟩ _ e; simp_all [Int.natCast_inj])
set_option maxHeartbeats 4000000 in
theorem m_spec_l05Ok : QM PP 48 sp_l05Ok := by
  refine QM_pf (fun i h => ?_) fun i h => ?_
  · obtain ⟨tn, te, s, L⟩ := i; exact ⟨⟨by first | rfl | simp, by first | rfl | simp⟩, by first | rfl | simp, by first | rfl | simp⟩
  obtain ⟨tn, te, s, L⟩ := i
  replace h : (0 ≤ te ∧ te ≤ 4294967295) ∧ L.length ≤ maxLen ∧ u32L L := h
  refine H_code (Quiet.q1 q_spec_l01Ok (Quiet.q1 q_spec_l05Frame (Quiet.q1 q_spec_l03Ok (Quiet.q1 q_spec_l05Fits (Quiet.q1 q_spec_l03Least (Quiet.q1 q_spec_l02Ok Quiet.nil)))))) hmix k_spec_l05Ok rfl (fun b => b) (Nat.le_refl _) (fun _ _ => rfl) rfl (by first | rfl | simp) ?_
  show wpc 1 PP _ c_spec_l05Ok (initSt [.ptr 0 0] ⟨[some [.int .i64 tn, .int .u32 te, .int .i64 s, .sl (tmsA L) false]]⟩) (endH (fun b => b) r_spec_l05Ok (.bool (sumB tn te s L)) [some [.int .i64 tn, .int .u32 te, .int .i64 s, .sl (tmsA L) false]])
  obtain ⟨hte, hl, hu⟩ := h
  simp only [maxLen] at hl
  have hg := sp_graphOk_eq tn te hte
  have hs := sp_span_eq tn te s hte
  cases h1 : graphOk tn te with
  | false =>
    rw [h1] at hg
    have hm := sumB_false (tn := tn) (te := te) (s := s) (L := L) (fun h => by have := h.1.1; rw [h1] at this; cases this)
    simp -dsimp -implicitDefEqProofs [hsub, c_spec_l05Ok, r_spec_l05Ok, hg, hm]
  | true =>
    rw [h1] at hg
    cases h2 : spanB tn s with
    | false =>
      rw [h2] at hs
      have hm := sumB_false (tn := tn) (te := te) (s := s) (L := L) (fun h => by have := h.1.2.1; rw [h2] at this; cases this)
      simp -dsimp -implicitDefEqProofs [hsub, c_spec_l05Ok, r_spec_l05Ok, hg, hs, hm]
    | true =>
      rw [h2] at hs
      by_cases h64 : L.length ≤ 64
      · have h64' : ¬ (64 : Int) < L.length := by omega
        simp -dsimp -implicitDefEqProofs [hsub, c_spec_l05Ok, r_spec_l05Ok, hg, hs, h64']
        refine wpLoop_st (fun (i : Nat) => ⟨tl [(0, .ptr 0 0), (3, .int .i64 i)], ⟨[some [.int .i64 tn, .int .u32 te, .int .i64 s, .sl (tmsA L) false]]⟩⟩) (fun i => i ≤ L.length ∧ ∀ i', i' < i → okTm tn te s L i') (fun i => L.length - i) 0 ⟨by omega, fun i' h => by omega⟩ (Sub.keep (by simp) (by simp [hsub]) (by simp)) ?_
        rintro i ⟨hi, hok⟩
        simp -dsimp -implicitDefEqProofs
        refine brW_of (fun h => ?_) (fun h => ?_) <;> simp only [decide_eq_true_eq, decide_eq_false_iff_not] at h
        · have hx : i < L.length := by omega
          have hwi := wrapNat (i := i) (by omega)
          have hue := hu L[i] (List.getElem_mem hx)
          have hf := sp_flagOk_eq L[i].k L[i].n L[i].e hue
          have hbad := sum_bad (tn := tn) (te := te) (s := s) hx
          unfold termB at hbad
          cases c1 : flagOk L[i].k L[i].n L[i].e with
          | false =>
            rw [c1] at hf hbad
            simp -dsimp -implicitDefEqProofs [hsub, hx, hf, hbad rfl]
          | true =>
            rw [c1] at hf hbad
            have hft := fits_of tn te s c1 hue
            have hls := leastF_of c1 hue
            cases c2 : fitTB L[i].k L[i].n L[i].e tn te s with
            | false =>
              rw [c2] at hft hbad
              simp -dsimp -implicitDefEqProofs [hsub, hx, hf, hft, hbad rfl]
            | true =>
              rw [c2] at hft hbad
              cases c3 : (((leastE L[i].n.toNat L[i].k.toNat L[i].e.toNat : Nat) : Int) == L[i].e) with
              | false =>
                rw [c3] at hbad
                simp -dsimp -implicitDefEqProofs [hsub, hx, hf, hft, hls, c3, hbad rfl]
              | true =>
                rw [c3] at hbad
                rcases i with _ | j
                · cases c4 : frOk L[0].p L[0].q with
                  | false =>
                    rw [c4] at hbad
                    simp -dsimp -implicitDefEqProofs [hsub, hx, hf, hft, hls, c3, c4, hbad rfl]
                  | true =>
                    rw [c4] at hbad
                    cases c5 : (L[0].p == 0) with
                    | true =>
                      rw [c5] at hbad
                      simp -dsimp -implicitDefEqProofs [hsub, hx, hf, hft, hls, c3, c4, c5, hbad rfl]
                    | false =>
                      have hgood : termB tn te s L[0] = true := by unfold termB; rw [c1, c2, c3, c4, c5]; rfl
                      simp -dsimp -implicitDefEqProofs [hsub, hx, hf, hft, hls, c3, c4, c5, hwi]
                      have w1 : IntKind.wrap .i64 1 = 1 := rfl
                      exact .mk 1 ⟨by omega, fun i' h' => by
                        obtain rfl : i' = 0 := by omega
                        exact fun _ => ⟨hgood, fun j hj => by omega⟩⟩ (by omega) (Sub.keep (by simp) (by simp [hsub]) (by simp [w1]))
                · have hj : j < L.length := by omega
                  have hp : (0 : Int) < ((j : Int) + 1) := by omega
                  have hp0 : (0 : Int) ≤ ((j : Int) + 1) := by omega
                  have hwj : IntKind.wrap .i64 (j : Int) = j := wrapI64 (by omega) (by omega)
                  by_cases c6 : L[j + 1].e ≤ L[j].e
                  · have hm := sum_bad2 (tn := tn) (te := te) (s := s) hx (by omega)
                    simp -dsimp -implicitDefEqProofs [hsub, hx, hf, hft, hls, c3, hj, hp, hp0, hwj, c6, hm]
                  · cases c4 : frOk L[j + 1].p L[j + 1].q with
                    | false =>
                      rw [c4] at hbad
                      simp -dsimp -implicitDefEqProofs [hsub, hx, hf, hft, hls, c3, c4, hj, hp, hp0, hwj, c6, hbad rfl]
                    | true =>
                      rw [c4] at hbad
                      cases c5 : (L[j + 1].p == 0) with
                      | true =>
                        rw [c5] at hbad
                        simp -dsimp -implicitDefEqProofs [hsub, hx, hf, hft, hls, c3, c4, c5, hj, hp, hp0, hwj, c6, hbad rfl]
                      | false =>
                        have hgood : termB tn te s L[j + 1] = true := by unfold termB; rw [c1, c2, c3, c4, c5]; rfl
                        simp -dsimp -implicitDefEqProofs [hsub, hx, hf, hft, hls, c3, c4, c5, hj, hp, hp0, hwj, c6, hwi]
                        have hw2 : IntKind.wrap .i64 ((j : Int) + 1 + 1) = (j : Int) + 1 + 1 := wrapI64 (by omega) (by omega)
                        exact .mk (j + 1 + 1) ⟨by omega, fun i' h' => by
                          by_cases e : i' = j + 1
                          · subst e; exact fun _ => ⟨hgood, fun j' hj' => by
                              obtain rfl : j' = j := by omega
                              omega⟩
                          · exact hok i' (by omega)⟩ (by omega) (Sub.keep (by simp) (by simp [hsub]) (by simp [hw2]))
        · have : i = L.length := by omega
          subst this
          have hm := sumB_true (tn := tn) (te := te) (s := s) (L := L) ⟨⟨h1, h2, h64⟩, hok⟩
          simp -dsimp -implicitDefEqProofs [hsub, hm]
      · have h64' : (64 : Int) < L.length := by omega
        have hm := sumB_false (tn := tn) (te := te) (s := s) (L := L) (fun h => h64 h.1.2.2)
        simp -dsimp -implicitDefEqProofs [hsub, c_spec_l05Ok, r_spec_l05Ok, hg, hs, h64', hm]
end Go.Proofs.YtgophedkejgedaaGreatDoorAi
end

section
/- MADE BY PROGRAM (wip/tools/gen.py): the abstract code of functions. -/
namespace Go.Proofs.YtgophedkejgedaaGreatDoorAi
open Go AC AOp Opd
set_option linter.unusedVariables false
set_option maxRecDepth 100000
def c_slices_IndexFunc_Simpl_Fraction_impl_Fraction : AC := seq (reg [⟨(some 4), mv (c (.int .i64 0)), none⟩]) (seq (seq (reg [⟨(some 6), mv (t 0), none⟩, ⟨(some 7), len (t 6), none⟩, ⟨(some 8), mv (c (.int .i64 0)), none⟩]) (block 0 (loop (seq (reg [⟨(some 9), bin .lss (t 8) (t 7), none⟩]) (seq (cond (t 9) (skip) (exit 0)) (seq (block 1 (seq (reg [⟨(some 10), mv (t 8), none⟩, ⟨(some 5), mv (t 10), none⟩]) (seq (reg [⟨(some 11), mv (t 1), none⟩, ⟨(some 12), mv (t 0), none⟩, ⟨(some 13), mv (t 5), none⟩, ⟨(some 14), iad 2 (t 12) (t 13), none⟩, ⟨(some 15), ld (t 14) 2 true, none⟩, ⟨(some 16), call (t 11) [t 15], none⟩]) (cond (t 16) (seq (reg [⟨(some 17), mv (t 5), none⟩, ⟨(some 4), mv (t 17), none⟩]) (ret)) (skip))))) (reg [⟨(some 18), bin .add (t 8) (c (.int .i64 1)), none⟩, ⟨(some 8), mv (t 18), none⟩]))))))) (seq (reg [⟨(some 4), mv (c (.int .i64 (-1))), none⟩]) (ret)))
def r_slices_IndexFunc_Simpl_Fraction_impl_Fraction : List ARes := [.tmp 4]
theorem k_slices_IndexFunc_Simpl_Fraction_impl_Fraction : acLin Go.Proofs.Tryz.prog 223 2 (inQ [] []) [] = some (c_slices_IndexFunc_Simpl_Fraction_impl_Fraction, r_slices_IndexFunc_Simpl_Fraction_impl_Fraction) := by kernel_rfl
def c_slices_ContainsFunc_Simpl_Fraction_impl_Fraction : AC := seq (reg [⟨(some 4), mv (c (.bool false)), none⟩]) (seq (reg [⟨(some 5), mv (t 0), none⟩, ⟨(some 6), mv (t 1), none⟩, ⟨(some 7), calle (c (.fn 223 [])) [t 5, t 6] [], none⟩, ⟨(some 8), bin .geq (t 7) (c (.int .i64 0)), none⟩, ⟨(some 4), mv (t 8), none⟩]) (ret))
def r_slices_ContainsFunc_Simpl_Fraction_impl_Fraction : List ARes := [.tmp 4]
theorem k_slices_ContainsFunc_Simpl_Fraction_impl_Fraction : acLin Go.Proofs.Tryz.prog 215 2 (inQ [] [223]) [] = some (c_slices_ContainsFunc_Simpl_Fraction_impl_Fraction, r_slices_ContainsFunc_Simpl_Fraction_impl_Fraction) := by kernel_rfl
def c_impl_validList : AC := seq (reg [⟨(some 2), mv (c (.bool false)), none⟩]) (seq (reg [⟨(some 3), mv (t 0), none⟩, ⟨(some 4), len (t 3), none⟩, ⟨(some 5), bin .leq (t 4) (c (.int .i64 256)), none⟩, ⟨(some 6), mv (t 5), none⟩, ⟨(some 7), mv (t 0), some (6, true)⟩, ⟨(some 8), calle (c (.fn 215 [])) [t 7, c (.fn 216 [])] [], some (6, true)⟩, ⟨(some 9), un .not (t 8), some (6, true)⟩, ⟨(some 10), pick (t 6) (t 9) (c (.bool false)), none⟩, ⟨(some 2), mv (t 10), none⟩]) (ret))
def r_impl_validList : List ARes := [.tmp 2]
theorem k_impl_validList : acLin Go.Proofs.Tryz.prog 194 1 (inQ [216] [215]) [] = some (c_impl_validList, r_impl_validList) := by kernel_rfl
def c_impl_ValidMatrix_1 : AC := seq (reg [⟨(some 3), mv (c (.bool false)), none⟩]) (seq (reg [⟨(some 4), mv (t 0), none⟩, ⟨(some 5), len (t 4), none⟩, ⟨(some 6), ld (t 1) 1 false, none⟩, ⟨(some 7), len (t 6), none⟩, ⟨(some 8), bin .neq (t 5) (t 7), none⟩, ⟨(some 9), mv (t 8), none⟩, ⟨(some 10), mv (t 0), some (9, false)⟩, ⟨(some 11), callq (c (.fn 194 [])) [t 10], some (9, false)⟩, ⟨(some 12), un .not (t 11), some (9, false)⟩, ⟨(some 13), pick (t 9) (c (.bool true)) (t 12), none⟩, ⟨(some 3), mv (t 13), none⟩]) (ret))
def r_impl_ValidMatrix_1 : List ARes := [.tmp 3]
theorem k_impl_ValidMatrix_1 : acLin Go.Proofs.Tryz.prog 193 2 (inQ [194] []) [] = some (c_impl_ValidMatrix_1, r_impl_ValidMatrix_1) := by kernel_rfl
def c_slices_ContainsFunc_SSimpl_Fraction_Simpl_Fraction : AC := seq (reg [⟨(some 4), mv (c (.bool false)), none⟩]) (seq (reg [⟨(some 5), mv (t 0), none⟩, ⟨(some 6), mv (t 1), none⟩, ⟨(some 7), calle (c (.fn 214 [])) [t 5, t 6] [], none⟩, ⟨(some 8), bin .geq (t 7) (c (.int .i64 0)), none⟩, ⟨(some 4), mv (t 8), none⟩]) (ret))
def r_slices_ContainsFunc_SSimpl_Fraction_Simpl_Fraction : List ARes := [.tmp 4]
theorem k_slices_ContainsFunc_SSimpl_Fraction_Simpl_Fraction : acLin Go.Proofs.Tryz.prog 192 2 (inQ [] [214]) [] = some (c_slices_ContainsFunc_SSimpl_Fraction_Simpl_Fraction, r_slices_ContainsFunc_SSimpl_Fraction_Simpl_Fraction) := by kernel_rfl
def c_slices_IndexFunc_SSimpl_Fraction_Simpl_Fraction : AC := seq (reg [⟨(some 4), mv (c (.int .i64 0)), none⟩]) (seq (seq (reg [⟨(some 6), mv (t 0), none⟩, ⟨(some 7), len (t 6), none⟩, ⟨(some 8), mv (c (.int .i64 0)), none⟩]) (block 0 (loop (seq (reg [⟨(some 9), bin .lss (t 8) (t 7), none⟩]) (seq (cond (t 9) (skip) (exit 0)) (seq (block 1 (seq (reg [⟨(some 10), mv (t 8), none⟩, ⟨(some 5), mv (t 10), none⟩]) (seq (reg [⟨(some 11), mv (t 1), none⟩, ⟨(some 12), mv (t 0), none⟩, ⟨(some 13), mv (t 5), none⟩, ⟨(some 14), iad 1 (t 12) (t 13), none⟩, ⟨(some 15), ld (t 14) 1 false, none⟩, ⟨(some 16), call (t 11) [t 15], none⟩]) (cond (t 16) (seq (reg [⟨(some 17), mv (t 5), none⟩, ⟨(some 4), mv (t 17), none⟩]) (ret)) (skip))))) (reg [⟨(some 18), bin .add (t 8) (c (.int .i64 1)), none⟩, ⟨(some 8), mv (t 18), none⟩]))))))) (seq (reg [⟨(some 4), mv (c (.int .i64 (-1))), none⟩]) (ret)))
def r_slices_IndexFunc_SSimpl_Fraction_Simpl_Fraction : List ARes := [.tmp 4]
theorem k_slices_IndexFunc_SSimpl_Fraction_Simpl_Fraction : acLin Go.Proofs.Tryz.prog 214 2 (inQ [] []) [] = some (c_slices_IndexFunc_SSimpl_Fraction_Simpl_Fraction, r_slices_IndexFunc_SSimpl_Fraction_Simpl_Fraction) := by kernel_rfl
def c_impl_ValidMatrix : AC := seq (reg [⟨(some 1), box 1 (t 0), none⟩, ⟨(some 2), mv (c (.bool false)), none⟩]) (seq (seq (reg [⟨(some 7), ld (t 1) 1 false, none⟩, ⟨(some 8), len (t 7), none⟩, ⟨(some 9), bin .gtr (t 8) (c (.int .i64 8)), none⟩, ⟨(some 10), mv (t 9), none⟩, ⟨(some 11), ld (t 1) 1 false, some (10, false)⟩, ⟨(some 12), mkf 193 [t 1], some (10, false)⟩, ⟨(some 13), calle (c (.fn 192 [])) [t 11, t 12] [], some (10, false)⟩, ⟨(some 14), pick (t 10) (c (.bool true)) (t 13), none⟩]) (cond (t 14) (seq (reg [⟨(some 2), mv (c (.bool false)), none⟩]) (ret)) (skip))) (seq (seq (reg [⟨(some 15), ld (t 1) 1 false, none⟩, ⟨(some 16), len (t 15), none⟩, ⟨(some 17), mv (c (.int .i64 0)), none⟩]) (block 0 (loop (seq (reg [⟨(some 18), bin .lss (t 17) (t 16), none⟩]) (seq (cond (t 18) (skip) (exit 0)) (seq (block 1 (seq (reg [⟨(some 19), mv (t 17), none⟩, ⟨(some 20), iad 1 (t 15) (t 17), none⟩, ⟨(some 21), ld (t 20) 1 false, none⟩, ⟨(some 3), mv (t 19), none⟩, ⟨(some 4), mv (t 21), none⟩]) (seq (reg [⟨(some 22), mv (t 4), none⟩, ⟨(some 23), len (t 22), none⟩, ⟨(some 24), mv (c (.int .i64 0)), none⟩]) (block 2 (loop (seq (reg [⟨(some 25), bin .lss (t 24) (t 23), none⟩]) (seq (cond (t 25) (skip) (exit 2)) (seq (block 3 (seq (reg [⟨(some 26), mv (t 24), none⟩, ⟨(some 27), iad 2 (t 22) (t 24), none⟩, ⟨(some 28), ld (t 27) 2 true, none⟩, ⟨(some 6), alloc [.int .i64 0, .int .i64 0], none⟩, ⟨(some 5), mv (t 26), none⟩, ⟨none, st (t 6) 2 (t 28), none⟩]) (seq (reg [⟨(some 29), ld (t 1) 1 false, none⟩, ⟨(some 30), mv (t 5), none⟩, ⟨(some 31), iad 1 (t 29) (t 30), none⟩, ⟨(some 32), ld (t 31) 1 false, none⟩, ⟨(some 33), mv (t 3), none⟩, ⟨(some 34), iad 2 (t 32) (t 33), none⟩, ⟨(some 35), ld (t 34) 2 true, none⟩, ⟨(some 36), ld (t 6) 2 true, none⟩, ⟨(some 37), eqs true [.i .i64, .i .i64] (t 35) (t 36), none⟩]) (cond (t 37) (seq (reg [⟨(some 2), mv (c (.bool false)), none⟩]) (ret)) (skip))))) (reg [⟨(some 38), bin .add (t 24) (c (.int .i64 1)), none⟩, ⟨(some 24), mv (t 38), none⟩]))))))))) (reg [⟨(some 39), bin .add (t 17) (c (.int .i64 1)), none⟩, ⟨(some 17), mv (t 39), none⟩]))))))) (seq (reg [⟨(some 2), mv (c (.bool true)), none⟩]) (ret))))
def r_impl_ValidMatrix : List ARes := [.tmp 2]
theorem k_impl_ValidMatrix : acLin Go.Proofs.Tryz.prog 163 1 (inQ [] [192]) [⟨false, none, [], [], none⟩, ⟨false, none, [], [], none⟩, ⟨false, none, [], [], none⟩, ⟨false, none, [], [], none⟩, ⟨false, none, [], [], none⟩, ⟨false, none, [], [], none⟩, ⟨false, none, [], [], none⟩, ⟨false, none, [], [], none⟩, ⟨false, none, [], [], none⟩, ⟨false, none, [], [], none⟩, ⟨false, none, [], [], none⟩, ⟨false, none, [], [], none⟩, ⟨false, some [0, 1, 2, 3, 4, 5, 6, 7, 8], [], [], none⟩] = some (c_impl_ValidMatrix, r_impl_ValidMatrix) := by kernel_rfl
def c_impl_fractionsText : AC := seq (reg [⟨(some 2), mv (c (.str ⟨#[]⟩)), none⟩]) (seq (reg [⟨(some 6), bsl 1 0 [.str ⟨#[]⟩] [], none⟩, ⟨(some 3), mv (t 6), none⟩]) (seq (seq (reg [⟨(some 7), mv (t 0), none⟩, ⟨(some 8), len (t 7), none⟩, ⟨(some 9), mv (c (.int .i64 0)), none⟩]) (block 0 (loop (seq (reg [⟨(some 10), bin .lss (t 9) (t 8), none⟩]) (seq (cond (t 10) (skip) (exit 0)) (seq (block 1 (seq (reg [⟨(some 11), iad 2 (t 7) (t 9), none⟩, ⟨(some 12), ld (t 11) 2 true, none⟩, ⟨(some 5), alloc [.int .i64 0, .int .i64 0], none⟩, ⟨none, st (t 5) 2 (t 12), none⟩]) (reg [⟨(some 13), mv (t 3), none⟩, ⟨(some 14), ld (t 5) 2 true, none⟩, ⟨(some 15), callq (c (.fn 72 [])) [t 14], none⟩, ⟨(some 16), bsl 1 1 [.str ⟨#[]⟩] [(0, t 15)], none⟩, ⟨(some 17), app 1 16 (t 13) (t 16), none⟩, ⟨(some 3), mv (t 17), none⟩]))) (reg [⟨(some 18), bin .add (t 9) (c (.int .i64 1)), none⟩, ⟨(some 9), mv (t 18), none⟩]))))))) (seq (reg [⟨(some 19), mv (t 3), none⟩, ⟨(some 20), calle (c (.fn 130 [])) [t 19, c (.str ⟨#[32]⟩)] [], none⟩, ⟨(some 2), mv (t 20), none⟩]) (ret))))
def r_impl_fractionsText : List ARes := [.tmp 2]
theorem k_impl_fractionsText : acLin Go.Proofs.Tryz.prog 86 1 (inQ [72] [130]) [] = some (c_impl_fractionsText, r_impl_fractionsText) := by kernel_rfl
def c_impl_matrixText : AC := seq (reg [⟨(some 2), mv (c (.str ⟨#[]⟩)), none⟩]) (seq (reg [⟨(some 3), mv (c (.str ⟨#[]⟩)), none⟩]) (seq (seq (reg [⟨(some 6), mv (t 0), none⟩, ⟨(some 7), len (t 6), none⟩, ⟨(some 8), mv (c (.int .i64 0)), none⟩]) (block 0 (loop (seq (reg [⟨(some 9), bin .lss (t 8) (t 7), none⟩]) (seq (cond (t 9) (skip) (exit 0)) (seq (block 1 (seq (reg [⟨(some 10), iad 1 (t 6) (t 8), none⟩, ⟨(some 11), ld (t 10) 1 false, none⟩, ⟨(some 5), mv (t 11), none⟩]) (reg [⟨(some 12), mv (t 3), none⟩, ⟨(some 13), mv (t 5), none⟩, ⟨(some 14), callq (c (.fn 86 [])) [t 13], none⟩, ⟨(some 15), bin .add (t 14) (c (.str ⟨#[10]⟩)), none⟩, ⟨(some 16), bin .add (t 12) (t 15), none⟩, ⟨(some 3), mv (t 16), none⟩]))) (reg [⟨(some 17), bin .add (t 8) (c (.int .i64 1)), none⟩, ⟨(some 8), mv (t 17), none⟩]))))))) (seq (reg [⟨(some 18), mv (t 3), none⟩, ⟨(some 2), mv (t 18), none⟩]) (ret))))
def r_impl_matrixText : List ARes := [.tmp 2]
theorem k_impl_matrixText : acLin Go.Proofs.Tryz.prog 40 1 (inQ [86] []) [] = some (c_impl_matrixText, r_impl_matrixText) := by kernel_rfl
def c_spec_l02Matrix : AC := seq (reg [⟨(some 2), mv (c (.bool false)), none⟩]) (seq (seq (reg [⟨(some 6), mv (t 0), none⟩, ⟨(some 7), len (t 6), none⟩, ⟨(some 8), bin .gtr (t 7) (c (.int .i64 8)), none⟩]) (cond (t 8) (seq (reg [⟨(some 2), mv (c (.bool false)), none⟩]) (ret)) (skip))) (seq (seq (reg [⟨(some 3), mv (c (.int .i64 0)), none⟩]) (block 0 (loop (seq (seq (reg [⟨(some 9), mv (t 3), none⟩, ⟨(some 10), mv (t 0), none⟩, ⟨(some 11), len (t 10), none⟩, ⟨(some 12), bin .lss (t 9) (t 11), none⟩]) (cond (t 12) (skip) (exit 0))) (seq (block 1 (seq (reg [⟨(some 15), mv (t 0), none⟩, ⟨(some 16), mv (t 3), none⟩, ⟨(some 17), iad 1 (t 15) (t 16), none⟩, ⟨(some 18), ld (t 17) 1 false, none⟩, ⟨(some 19), len (t 18), none⟩, ⟨(some 20), mv (t 0), none⟩, ⟨(some 21), len (t 20), none⟩, ⟨(some 22), bin .neq (t 19) (t 21), none⟩]) (cond (t 22) (seq (reg [⟨(some 2), mv (c (.bool false)), none⟩]) (ret)) (skip)))) (reg [⟨(some 13), mv (t 3), none⟩, ⟨(some 14), bin .add (t 13) (c (.int .i64 1)), none⟩, ⟨(some 3), mv (t 14), none⟩])))))) (seq (seq (reg [⟨(some 4), mv (c (.int .i64 0)), none⟩]) (block 2 (loop (seq (seq (reg [⟨(some 23), mv (t 4), none⟩, ⟨(some 24), mv (t 0), none⟩, ⟨(some 25), len (t 24), none⟩, ⟨(some 26), bin .lss (t 23) (t 25), none⟩]) (cond (t 26) (skip) (exit 2))) (seq (block 3 (seq (reg [⟨(some 5), mv (c (.int .i64 0)), none⟩]) (block 4 (loop (seq (seq (reg [⟨(some 29), mv (t 5), none⟩, ⟨(some 30), mv (t 0), none⟩, ⟨(some 31), len (t 30), none⟩, ⟨(some 32), bin .lss (t 29) (t 31), none⟩]) (cond (t 32) (skip) (exit 4))) (seq (block 5 (seq (reg [⟨(some 35), mv (t 0), none⟩, ⟨(some 36), mv (t 4), none⟩, ⟨(some 37), iad 1 (t 35) (t 36), none⟩, ⟨(some 38), ld (t 37) 1 false, none⟩, ⟨(some 39), mv (t 5), none⟩, ⟨(some 40), iad 2 (t 38) (t 39), none⟩, ⟨(some 41), ld (t 40) 2 true, none⟩, ⟨(some 42), callq (c (.fn 65 [])) [t 41], none⟩, ⟨(some 43), un .not (t 42), none⟩, ⟨(some 44), mv (t 43), none⟩, ⟨(some 45), mv (t 0), some (44, false)⟩, ⟨(some 46), mv (t 4), some (44, false)⟩, ⟨(some 47), iad 1 (t 45) (t 46), some (44, false)⟩, ⟨(some 48), ld (t 47) 1 false, some (44, false)⟩, ⟨(some 49), mv (t 5), some (44, false)⟩, ⟨(some 50), iad 2 (t 48) (t 49), some (44, false)⟩, ⟨(some 51), ld (t 50) 2 true, some (44, false)⟩, ⟨(some 52), mv (t 0), some (44, false)⟩, ⟨(some 53), mv (t 5), some (44, false)⟩, ⟨(some 54), iad 1 (t 52) (t 53), some (44, false)⟩, ⟨(some 55), ld (t 54) 1 false, some (44, false)⟩, ⟨(some 56), mv (t 4), some (44, false)⟩, ⟨(some 57), iad 2 (t 55) (t 56), some (44, false)⟩, ⟨(some 58), ld (t 57) 2 true, some (44, false)⟩, ⟨(some 59), eqs true [.i .i64, .i .i64] (t 51) (t 58), some (44, false)⟩, ⟨(some 60), pick (t 44) (c (.bool true)) (t 59), none⟩]) (cond (t 60) (seq (reg [⟨(some 2), mv (c (.bool false)), none⟩]) (ret)) (skip)))) (reg [⟨(some 33), mv (t 5), none⟩, ⟨(some 34), bin .add (t 33) (c (.int .i64 1)), none⟩, ⟨(some 5), mv (t 34), none⟩]))))))) (reg [⟨(some 27), mv (t 4), none⟩, ⟨(some 28), bin .add (t 27) (c (.int .i64 1)), none⟩, ⟨(some 4), mv (t 28), none⟩])))))) (seq (reg [⟨(some 2), mv (c (.bool true)), none⟩]) (ret)))))
def r_spec_l02Matrix : List ARes := [.tmp 2]
theorem k_spec_l02Matrix : acLin Go.Proofs.Tryz.prog 123 1 (inQ [65] []) [⟨false, none, [], [], none⟩, ⟨false, none, [], [], none⟩, ⟨false, none, [], [], none⟩, ⟨false, none, [], [], none⟩, ⟨false, none, [], [], none⟩, ⟨false, none, [], [], none⟩, ⟨false, none, [], [], none⟩, ⟨false, none, [], [], none⟩, ⟨false, none, [], [], none⟩, ⟨false, none, [], [], none⟩, ⟨false, none, [], [], none⟩, ⟨false, none, [], [], none⟩, ⟨false, none, [], [], none⟩, ⟨false, none, [], [], none⟩, ⟨false, none, [], [], none⟩, ⟨false, none, [], [], none⟩, ⟨false, none, [], [], none⟩, ⟨false, some [0, 1, 2, 3, 4, 5, 6, 7, 8, 9, 10, 11, 12, 13, 14, 15, 16, 17, 18, 19, 20, 21, 22, 23, 24, 25], [], [], none⟩] = some (c_spec_l02Matrix, r_spec_l02Matrix) := by kernel_rfl
def c_spec_MatrixText : AC := seq (reg [⟨(some 2), mv (c (.str ⟨#[]⟩)), none⟩]) (seq (seq (reg [⟨(some 6), mv (t 0), none⟩, ⟨(some 7), callq (c (.fn 123 [])) [t 6], none⟩, ⟨(some 8), un .not (t 7), none⟩]) (cond (t 8) (seq (reg [⟨(some 2), mv (c (.str ⟨#[]⟩)), none⟩]) (ret)) (skip))) (seq (reg [⟨(some 3), mv (c (.str ⟨#[]⟩)), none⟩]) (seq (seq (reg [⟨(some 4), mv (c (.int .i64 0)), none⟩]) (block 0 (loop (seq (seq (reg [⟨(some 9), mv (t 4), none⟩, ⟨(some 10), mv (t 0), none⟩, ⟨(some 11), len (t 10), none⟩, ⟨(some 12), bin .lss (t 9) (t 11), none⟩]) (cond (t 12) (skip) (exit 0))) (seq (block 1 (seq (seq (reg [⟨(some 5), mv (c (.int .i64 0)), none⟩]) (block 2 (loop (seq (seq (reg [⟨(some 15), mv (t 5), none⟩, ⟨(some 16), mv (t 0), none⟩, ⟨(some 17), len (t 16), none⟩, ⟨(some 18), bin .lss (t 15) (t 17), none⟩]) (cond (t 18) (skip) (exit 2))) (seq (block 3 (seq (seq (reg [⟨(some 21), mv (t 5), none⟩, ⟨(some 22), bin .gtr (t 21) (c (.int .i64 0)), none⟩]) (cond (t 22) (reg [⟨(some 23), mv (t 3), none⟩, ⟨(some 24), bin .add (t 23) (c (.str ⟨#[32]⟩)), none⟩, ⟨(some 3), mv (t 24), none⟩]) (skip))) (reg [⟨(some 25), mv (t 3), none⟩, ⟨(some 26), mv (t 0), none⟩, ⟨(some 27), mv (t 4), none⟩, ⟨(some 28), iad 1 (t 26) (t 27), none⟩, ⟨(some 29), ld (t 28) 1 false, none⟩, ⟨(some 30), mv (t 5), none⟩, ⟨(some 31), iad 2 (t 29) (t 30), none⟩, ⟨(some 32), ld (t 31) 2 true, none⟩, ⟨(some 33), callq (c (.fn 66 [])) [t 32], none⟩, ⟨(some 34), bin .add (t 25) (t 33), none⟩, ⟨(some 3), mv (t 34), none⟩]))) (reg [⟨(some 19), mv (t 5), none⟩, ⟨(some 20), bin .add (t 19) (c (.int .i64 1)), none⟩, ⟨(some 5), mv (t 20), none⟩])))))) (reg [⟨(some 35), mv (t 3), none⟩, ⟨(some 36), bin .add (t 35) (c (.str ⟨#[10]⟩)), none⟩, ⟨(some 3), mv (t 36), none⟩]))) (reg [⟨(some 13), mv (t 4), none⟩, ⟨(some 14), bin .add (t 13) (c (.int .i64 1)), none⟩, ⟨(some 4), mv (t 14), none⟩])))))) (seq (reg [⟨(some 37), mv (t 3), none⟩, ⟨(some 2), mv (t 37), none⟩]) (ret)))))
def r_spec_MatrixText : List ARes := [.tmp 2]
theorem k_spec_MatrixText : acLin Go.Proofs.Tryz.prog 79 1 (inQ [66, 123] []) [] = some (c_spec_MatrixText, r_spec_MatrixText) := by kernel_rfl
def c_laws_szFractionSS : AC := seq (reg [⟨(some 4), mv (c (.int .i64 0)), none⟩]) (seq (reg [⟨(some 6), mv (t 1), none⟩, ⟨(some 7), mv (t 0), none⟩, ⟨(some 8), len (t 7), none⟩, ⟨(some 9), bin .sub (t 6) (t 8), none⟩, ⟨(some 1), mv (t 9), none⟩]) (seq (seq (reg [⟨(some 10), mv (t 1), none⟩, ⟨(some 11), bin .lss (t 10) (c (.int .i64 0)), none⟩]) (cond (t 11) (seq (reg [⟨(some 4), mv (c (.int .i64 (-1))), none⟩]) (ret)) (skip))) (seq (seq (reg [⟨(some 5), mv (c (.int .i64 0)), none⟩]) (block 0 (loop (seq (seq (reg [⟨(some 12), mv (t 5), none⟩, ⟨(some 13), mv (t 0), none⟩, ⟨(some 14), len (t 13), none⟩, ⟨(some 15), bin .lss (t 12) (t 14), none⟩]) (cond (t 15) (skip) (exit 0))) (seq (block 1 (seq (reg [⟨(some 18), mv (t 0), none⟩, ⟨(some 19), mv (t 5), none⟩, ⟨(some 20), iad 1 (t 18) (t 19), none⟩, ⟨(some 21), ld (t 20) 1 false, none⟩, ⟨(some 22), mv (t 1), none⟩, ⟨(some 23), callq (c (.fn 158 [])) [t 21, t 22], none⟩, ⟨(some 1), mv (t 23), none⟩]) (seq (reg [⟨(some 24), mv (t 1), none⟩, ⟨(some 25), bin .lss (t 24) (c (.int .i64 0)), none⟩]) (cond (t 25) (seq (reg [⟨(some 4), mv (c (.int .i64 (-1))), none⟩]) (ret)) (skip))))) (reg [⟨(some 16), mv (t 5), none⟩, ⟨(some 17), bin .add (t 16) (c (.int .i64 1)), none⟩, ⟨(some 5), mv (t 17), none⟩])))))) (seq (reg [⟨(some 26), mv (t 1), none⟩, ⟨(some 4), mv (t 26), none⟩]) (ret)))))
def r_laws_szFractionSS : List ARes := [.tmp 4]
theorem k_laws_szFractionSS : acLin Go.Proofs.Tryz.prog 121 2 (inQ [158] []) [] = some (c_laws_szFractionSS, r_laws_szFractionSS) := by kernel_rfl
def c_laws_toFractionSS : AC := seq (reg [⟨(some 2), mv (c (.sl [] true)), none⟩]) (seq (reg [⟨(some 5), mv (t 0), none⟩, ⟨(some 6), len (t 5), none⟩, ⟨(some 7), mks 1 24 [.sl [] true] (t 6) (t 6), none⟩, ⟨(some 3), mv (t 7), none⟩]) (seq (seq (reg [⟨(some 4), mv (c (.int .i64 0)), none⟩]) (block 0 (loop (seq (seq (reg [⟨(some 8), mv (t 4), none⟩, ⟨(some 9), mv (t 0), none⟩, ⟨(some 10), len (t 9), none⟩, ⟨(some 11), bin .lss (t 8) (t 10), none⟩]) (cond (t 11) (skip) (exit 0))) (seq (block 1 (reg [⟨(some 14), mv (t 3), none⟩, ⟨(some 15), mv (t 4), none⟩, ⟨(some 16), mv (t 0), none⟩, ⟨(some 17), mv (t 4), none⟩, ⟨(some 18), iad 1 (t 16) (t 17), none⟩, ⟨(some 19), ld (t 18) 1 false, none⟩, ⟨(some 20), callq (c (.fn 160 [])) [t 19], none⟩, ⟨(some 21), iad 1 (t 14) (t 15), none⟩, ⟨none, st (t 21) 1 (t 20), none⟩])) (reg [⟨(some 12), mv (t 4), none⟩, ⟨(some 13), bin .add (t 12) (c (.int .i64 1)), none⟩, ⟨(some 4), mv (t 13), none⟩])))))) (seq (reg [⟨(some 22), mv (t 3), none⟩, ⟨(some 2), mv (t 22), none⟩]) (seq shift (ret)))))
def r_laws_toFractionSS : List ARes := [.tmp 2]
theorem k_laws_toFractionSS : acLin Go.Proofs.Tryz.prog 125 1 (inQ [160] []) [⟨false, none, [], [], none⟩, ⟨false, none, [], [], none⟩, ⟨false, none, [], [], none⟩, ⟨false, none, [], [], none⟩, ⟨false, none, [], [], none⟩, ⟨false, none, [], [], none⟩, ⟨false, none, [], [], none⟩, ⟨false, none, [], [], none⟩, ⟨true, none, [], [], none⟩] = some (c_laws_toFractionSS, r_laws_toFractionSS) := by kernel_rfl
def c_laws_eqFractionSS : AC := seq (reg [⟨(some 4), mv (c (.bool false)), none⟩]) (seq (seq (reg [⟨(some 6), mv (t 0), none⟩, ⟨(some 7), len (t 6), none⟩, ⟨(some 8), mv (t 1), none⟩, ⟨(some 9), len (t 8), none⟩, ⟨(some 10), bin .neq (t 7) (t 9), none⟩]) (cond (t 10) (seq (reg [⟨(some 4), mv (c (.bool false)), none⟩]) (ret)) (skip))) (seq (seq (reg [⟨(some 5), mv (c (.int .i64 0)), none⟩]) (block 0 (loop (seq (seq (reg [⟨(some 11), mv (t 5), none⟩, ⟨(some 12), mv (t 0), none⟩, ⟨(some 13), len (t 12), none⟩, ⟨(some 14), bin .lss (t 11) (t 13), none⟩]) (cond (t 14) (skip) (exit 0))) (seq (block 1 (seq (reg [⟨(some 17), mv (t 0), none⟩, ⟨(some 18), mv (t 5), none⟩, ⟨(some 19), iad 1 (t 17) (t 18), none⟩, ⟨(some 20), ld (t 19) 1 false, none⟩, ⟨(some 21), mv (t 1), none⟩, ⟨(some 22), mv (t 5), none⟩, ⟨(some 23), iad 1 (t 21) (t 22), none⟩, ⟨(some 24), ld (t 23) 1 false, none⟩, ⟨(some 25), callq (c (.fn 169 [])) [t 20, t 24], none⟩, ⟨(some 26), un .not (t 25), none⟩]) (cond (t 26) (seq (reg [⟨(some 4), mv (c (.bool false)), none⟩]) (ret)) (skip)))) (reg [⟨(some 15), mv (t 5), none⟩, ⟨(some 16), bin .add (t 15) (c (.int .i64 1)), none⟩, ⟨(some 5), mv (t 16), none⟩])))))) (seq (reg [⟨(some 4), mv (c (.bool true)), none⟩]) (ret))))
def r_laws_eqFractionSS : List ARes := [.tmp 4]
theorem k_laws_eqFractionSS : acLin Go.Proofs.Tryz.prog 132 2 (inQ [169] []) [⟨false, none, [], [], none⟩, ⟨false, none, [], [], none⟩, ⟨false, none, [], [], none⟩, ⟨false, none, [], [], none⟩, ⟨false, none, [], [], none⟩, ⟨false, none, [], [], none⟩, ⟨false, none, [], [], none⟩, ⟨false, some [0, 1, 2, 3, 4, 5, 6, 7, 8, 9], [], [], none⟩] = some (c_laws_eqFractionSS, r_laws_eqFractionSS) := by kernel_rfl
end Go.Proofs.YtgophedkejgedaaGreatDoorAi
end

section
/- Contracts: searching in lists of fractions and of rows; valid lists; valid matrices. -/
namespace Go.Proofs.YtgophedkejgedaaGreatDoorAi
open Go Go.RowKit
set_option linter.unusedVariables false
set_option linter.unusedSimpArgs false
set_option maxRecDepth 20000

@[simp] def rowA (r : List Fr) : AV := .sl (frsA r) false
theorem rowA_inj0 : ∀ x y, rowA x = rowA y → x = y := by
  intro x y h
  simp only [rowA] at h
  injection h with h _
  exact frsA_inj.1 h
abbrev rowsA (M : List (List Fr)) : List AV := mapA rowA M
@[simp] theorem rowsA_inj {l k : List (List Fr)} : mapA rowA l = mapA rowA k ↔ l = k := ⟨mapA_inj rowA_inj0, fun h => by rw [h]⟩

theorem T_indexF {g : FuncId} {caps : List AV} {os : List (Option (List AV))} (f : Fr → Bool) (l : List Fr) (hl : l.length ≤ maxLen) (ho : ClosedH os) (hc : ltL os.length caps = true)
    (hf : ∀ x ∈ l, T PP g ([.agg [.int .i64 x.p, .int .i64 x.q]] ++ caps) ⟨os⟩ fun r A' => r = .bool (f x) ∧ A' = ⟨os⟩) :
    T PP 223 [.sl (frsA l) false, .fn g caps] ⟨os⟩ fun r A' => r = .int .i64 (idxF f l 0) ∧ A' = ⟨os⟩ := by
  refine H_code Quiet.nil hmix k_slices_IndexFunc_Simpl_Fraction_impl_Fraction rfl (fun b => b) (Nat.le_refl _) (fun _ _ => rfl) (injB_id _) (by rfl) ?_
  show wpc os.length PP _ c_slices_IndexFunc_Simpl_Fraction_impl_Fraction (initSt [.sl (frsA l) false, .fn g caps] ⟨os⟩) _
  simp only [maxLen] at hl
  simp -dsimp -implicitDefEqProofs [c_slices_IndexFunc_Simpl_Fraction_impl_Fraction, r_slices_IndexFunc_Simpl_Fraction_impl_Fraction]
  refine wpLoop_st (fun (i : Nat) => ⟨tl [(0, .sl (frsA l) false), (1, .fn g caps), (7, .int .i64 l.length), (8, .int .i64 i)], ⟨os⟩⟩) (fun i => i ≤ l.length ∧ idxF f (l.drop i) i = idxF f l 0) (fun i => l.length - i) 0 ⟨by omega, rfl⟩ (Sub.pre0 ho (by simp [hc])) ?_
  rintro i ⟨hi, hx⟩
  simp -dsimp -implicitDefEqProofs
  refine brW_of (fun h => ?_) (fun h => ?_) <;> simp only [decide_eq_true_eq, decide_eq_false_iff_not] at h
  · have hi' : i < l.length := by omega
    have hw := wrapNat (i := i) (by omega)
    simp -dsimp -implicitDefEqProofs [hi', hw]
    refine (hf l[i] (List.getElem_mem hi')).mono ?_
    rintro r A' ⟨rfl, rfl⟩
    rw [drop_cons hi', idxF] at hx
    cases hv : f l[i] with
    | false =>
      simp only [hv, Bool.false_eq_true, if_false] at hx
      simp -dsimp -implicitDefEqProofs [hw]
      exact .mk (i + 1) ⟨by omega, hx⟩ (by omega) (Sub.pre0 ho (by simp [hw, hc]))
    | true =>
      simp only [hv, if_true] at hx
      simp -dsimp -implicitDefEqProofs [← hx, hsub_all ho]
  · have : i = l.length := by omega
    subst this
    simp [idxF] at hx
    simp -dsimp -implicitDefEqProofs [← hx, hsub_all ho]
noncomputable def yesF (sp : List AV → AHeap → Option (AV × AHeap)) (caps : List AV) (A : AHeap) (x : Fr) : Bool := yesOf sp ([.agg [.int .i64 x.p, .int .i64 x.q]] ++ caps) A
open Classical in
noncomputable def spIdxF (g : FuncId) (sp : List AV → AHeap → Option (AV × AHeap)) : List AV → AHeap → Option (AV × AHeap)
  | [.sl xs false, .fn g' caps], A => if h : g' = g ∧ ∃ l : List Fr, xs = frsA l ∧ l.length ≤ maxLen ∧ ∀ x ∈ l, sp ([.agg [.int .i64 x.p, .int .i64 x.q]] ++ caps) A = some (.bool (yesF sp caps A x), A)
      then some (.int .i64 (idxF (yesF sp caps A) h.2.choose 0), A) else none
  | _, _ => none
theorem spIdxF_eq {g : FuncId} {sp : List AV → AHeap → Option (AV × AHeap)} (f : Fr → Bool) {l : List Fr} {caps : List AV} {A : AHeap} (hl : l.length ≤ maxLen) (h : ∀ x ∈ l, sp ([.agg [.int .i64 x.p, .int .i64 x.q]] ++ caps) A = some (.bool (f x), A)) :
    spIdxF g sp [.sl (frsA l) false, .fn g caps] A = some (.int .i64 (idxF f l 0), A) := by
  have hy : ∀ x ∈ l, yesF sp caps A x = f x := by
    intro x hx
    unfold yesF yesOf
    rw [h x hx]
  have hc : g = g ∧ ∃ k : List Fr, frsA l = frsA k ∧ k.length ≤ maxLen ∧ ∀ x ∈ k, sp ([.agg [.int .i64 x.p, .int .i64 x.q]] ++ caps) A = some (.bool (yesF sp caps A x), A) := ⟨rfl, l, rfl, hl, fun x hx => by rw [hy x hx]; exact h x hx⟩
  unfold spIdxF
  dsimp only
  rw [dif_pos hc]
  have e : hc.2.choose = l := (frsA_inj.1 hc.2.choose_spec.1).symm
  rw [e]
  have : ∀ (l : List Fr) (i : Nat), (∀ x ∈ l, yesF sp caps A x = f x) → idxF (yesF sp caps A) l i = idxF f l i := by
    intro l
    induction l with
    | nil => intro _ _; rfl
    | cons x l ih => intro i h; rw [idxF, idxF, h x (List.mem_cons_self ..), ih _ fun y hy => h y (List.mem_cons_of_mem _ hy)]
  rw [this l 0 hy]
theorem QE_idxF {g : FuncId} {sp : List AV → AHeap → Option (AV × AHeap)} (hg : QE PP g sp) : QE PP 223 (spIdxF g sp) := by
  intro args A r A1 e
  unfold spIdxF at e
  split at e
  · rename_i xs g' caps
    split at e
    · rename_i hc
      obtain ⟨rfl, hx⟩ := hc
      injection e with e
      injection e with e1 e2
      subst e1; subst e2
      obtain ⟨h1, h2, h3⟩ := hx.choose_spec
      generalize hx.choose = l at h1 h2 h3
      subst h1
      refine T.of_closed (T_indexF (g := g') (caps := []) (os := []) (fun _ => true) [] (by simp) ClosedH.nil rfl (fun x hx => (by cases hx))).1 fun ho hl => ?_
      exact T_indexF (os := A.l) _ l h2 ho (by simpa [ltL, AV.lt] using hl) fun x hx => hg _ _ _ _ (h3 x hx)
    · cases e
  · cases e
theorem T_anyF {g : FuncId} {sp : List AV → AHeap → Option (AV × AHeap)} (hg : QE PP g sp) {caps : List AV} {os : List (Option (List AV))} (f : Fr → Bool) (l : List Fr) (hl : l.length ≤ maxLen) (ho : ClosedH os) (hc : ltL os.length caps = true) (hcl : looseL caps = caps)
    (hf : ∀ x ∈ l, sp ([.agg [.int .i64 x.p, .int .i64 x.q]] ++ caps) ⟨os⟩ = some (.bool (f x), ⟨os⟩)) :
    T PP 215 [.sl (frsA l) false, .fn g caps] ⟨os⟩ fun r A' => r = .bool (l.any f) ∧ A' = ⟨os⟩ := by
  refine H_code (Quiet.e1 (QE_idxF hg) Quiet.nil) hmix k_slices_ContainsFunc_Simpl_Fraction_impl_Fraction rfl (fun b => b) (Nat.le_refl _) (fun _ _ => rfl) (injB_id _) (by rfl) ?_
  show wpc os.length PP _ c_slices_ContainsFunc_Simpl_Fraction_impl_Fraction (initSt [.sl (frsA l) false, .fn g caps] ⟨os⟩) _
  simp -dsimp -implicitDefEqProofs [c_slices_ContainsFunc_Simpl_Fraction_impl_Fraction, r_slices_ContainsFunc_Simpl_Fraction_impl_Fraction, hcl, spIdxF_eq f hl hf, hsub_all ho, ← idxF_ge f l 0]
open Classical in
noncomputable def spAnyF (g : FuncId) (sp : List AV → AHeap → Option (AV × AHeap)) : List AV → AHeap → Option (AV × AHeap)
  | [.sl xs false, .fn g' caps], A => if h : g' = g ∧ looseL caps = caps ∧ ∃ l : List Fr, xs = frsA l ∧ l.length ≤ maxLen ∧ ∀ x ∈ l, sp ([.agg [.int .i64 x.p, .int .i64 x.q]] ++ caps) A = some (.bool (yesF sp caps A x), A)
      then some (.bool (h.2.2.choose.any (yesF sp caps A)), A) else none
  | _, _ => none
theorem spAnyF_eq {g : FuncId} {sp : List AV → AHeap → Option (AV × AHeap)} (f : Fr → Bool) {l : List Fr} {caps : List AV} {A : AHeap} (hl : l.length ≤ maxLen) (hcl : looseL caps = caps) (h : ∀ x ∈ l, sp ([.agg [.int .i64 x.p, .int .i64 x.q]] ++ caps) A = some (.bool (f x), A)) :
    spAnyF g sp [.sl (frsA l) false, .fn g caps] A = some (.bool (l.any f), A) := by
  have hy : ∀ x ∈ l, yesF sp caps A x = f x := by
    intro x hx
    unfold yesF yesOf
    rw [h x hx]
  have hc : g = g ∧ looseL caps = caps ∧ ∃ k : List Fr, frsA l = frsA k ∧ k.length ≤ maxLen ∧ ∀ x ∈ k, sp ([.agg [.int .i64 x.p, .int .i64 x.q]] ++ caps) A = some (.bool (yesF sp caps A x), A) := ⟨rfl, hcl, l, rfl, hl, fun x hx => by rw [hy x hx]; exact h x hx⟩
  unfold spAnyF
  dsimp only
  rw [dif_pos hc]
  have e : hc.2.2.choose = l := (frsA_inj.1 hc.2.2.choose_spec.1).symm
  rw [e]
  have : l.any (yesF sp caps A) = l.any f := by
    clear e hc h hl
    induction l with
    | nil => rfl
    | cons x l ih => rw [List.any_cons, List.any_cons, hy x (List.mem_cons_self ..), ih fun y hm => hy y (List.mem_cons_of_mem _ hm)]
  rw [this]
theorem QE_anyF {g : FuncId} {sp : List AV → AHeap → Option (AV × AHeap)} (hg : QE PP g sp) : QE PP 215 (spAnyF g sp) := by
  intro args A r A1 e
  unfold spAnyF at e
  split at e
  · rename_i xs g' caps
    split at e
    · rename_i hc
      obtain ⟨rfl, hcl, hx⟩ := hc
      injection e with e
      injection e with e1 e2
      subst e1; subst e2
      obtain ⟨h1, h2, h3⟩ := hx.choose_spec
      generalize hx.choose = l at h1 h2 h3
      subst h1
      refine T.of_closed (T_anyF hg (caps := []) (os := []) (fun _ => true) [] (by simp) ClosedH.nil rfl rfl (fun x hx => (by cases hx))).1 fun ho hl => ?_
      exact T_anyF hg (os := A.l) _ l h2 ho (by simpa [ltL, AV.lt] using hl) hcl h3
    · cases e
  · cases e


theorem T_indexM {g : FuncId} {caps : List AV} {os : List (Option (List AV))} (f : (List Fr) → Bool) (l : List (List Fr)) (hl : l.length ≤ maxLen) (ho : ClosedH os) (hc : ltL os.length caps = true)
    (hf : ∀ x ∈ l, T PP g ([.sl (frsA x) false] ++ caps) ⟨os⟩ fun r A' => r = .bool (f x) ∧ A' = ⟨os⟩) :
    T PP 214 [.sl (rowsA l) false, .fn g caps] ⟨os⟩ fun r A' => r = .int .i64 (idxF f l 0) ∧ A' = ⟨os⟩ := by
  refine H_code Quiet.nil hmix k_slices_IndexFunc_SSimpl_Fraction_Simpl_Fraction rfl (fun b => b) (Nat.le_refl _) (fun _ _ => rfl) (injB_id _) (by rfl) ?_
  show wpc os.length PP _ c_slices_IndexFunc_SSimpl_Fraction_Simpl_Fraction (initSt [.sl (rowsA l) false, .fn g caps] ⟨os⟩) _
  simp only [maxLen] at hl
  simp -dsimp -implicitDefEqProofs [c_slices_IndexFunc_SSimpl_Fraction_Simpl_Fraction, r_slices_IndexFunc_SSimpl_Fraction_Simpl_Fraction]
  refine wpLoop_st (fun (i : Nat) => ⟨tl [(0, .sl (rowsA l) false), (1, .fn g caps), (7, .int .i64 l.length), (8, .int .i64 i)], ⟨os⟩⟩) (fun i => i ≤ l.length ∧ idxF f (l.drop i) i = idxF f l 0) (fun i => l.length - i) 0 ⟨by omega, rfl⟩ (Sub.pre0 ho (by simp [hc])) ?_
  rintro i ⟨hi, hx⟩
  simp -dsimp -implicitDefEqProofs
  refine brW_of (fun h => ?_) (fun h => ?_) <;> simp only [decide_eq_true_eq, decide_eq_false_iff_not] at h
  · have hi' : i < l.length := by omega
    have hw := wrapNat (i := i) (by omega)
    simp -dsimp -implicitDefEqProofs [hi', hw]
    refine (hf l[i] (List.getElem_mem hi')).mono ?_
    rintro r A' ⟨rfl, rfl⟩
    rw [drop_cons hi', idxF] at hx
    cases hv : f l[i] with
    | false =>
      simp only [hv, Bool.false_eq_true, if_false] at hx
      simp -dsimp -implicitDefEqProofs [hw]
      exact .mk (i + 1) ⟨by omega, hx⟩ (by omega) (Sub.pre0 ho (by simp [hw, hc]))
    | true =>
      simp only [hv, if_true] at hx
      simp -dsimp -implicitDefEqProofs [← hx, hsub_all ho]
  · have : i = l.length := by omega
    subst this
    simp [idxF] at hx
    simp -dsimp -implicitDefEqProofs [← hx, hsub_all ho]
noncomputable def yesM (sp : List AV → AHeap → Option (AV × AHeap)) (caps : List AV) (A : AHeap) (x : (List Fr)) : Bool := yesOf sp ([.sl (frsA x) false] ++ caps) A
open Classical in
noncomputable def spIdxM (g : FuncId) (sp : List AV → AHeap → Option (AV × AHeap)) : List AV → AHeap → Option (AV × AHeap)
  | [.sl xs false, .fn g' caps], A => if h : g' = g ∧ ∃ l : List (List Fr), xs = rowsA l ∧ l.length ≤ maxLen ∧ ∀ x ∈ l, sp ([.sl (frsA x) false] ++ caps) A = some (.bool (yesM sp caps A x), A)
      then some (.int .i64 (idxF (yesM sp caps A) h.2.choose 0), A) else none
  | _, _ => none
theorem spIdxM_eq {g : FuncId} {sp : List AV → AHeap → Option (AV × AHeap)} (f : (List Fr) → Bool) {l : List (List Fr)} {caps : List AV} {A : AHeap} (hl : l.length ≤ maxLen) (h : ∀ x ∈ l, sp ([.sl (frsA x) false] ++ caps) A = some (.bool (f x), A)) :
    spIdxM g sp [.sl (rowsA l) false, .fn g caps] A = some (.int .i64 (idxF f l 0), A) := by
  have hy : ∀ x ∈ l, yesM sp caps A x = f x := by
    intro x hx
    unfold yesM yesOf
    rw [h x hx]
  have hc : g = g ∧ ∃ k : List (List Fr), rowsA l = rowsA k ∧ k.length ≤ maxLen ∧ ∀ x ∈ k, sp ([.sl (frsA x) false] ++ caps) A = some (.bool (yesM sp caps A x), A) := ⟨rfl, l, rfl, hl, fun x hx => by rw [hy x hx]; exact h x hx⟩
  unfold spIdxM
  dsimp only
  rw [dif_pos hc]
  have e : hc.2.choose = l := (rowsA_inj.1 hc.2.choose_spec.1).symm
  rw [e]
  have : ∀ (l : List (List Fr)) (i : Nat), (∀ x ∈ l, yesM sp caps A x = f x) → idxF (yesM sp caps A) l i = idxF f l i := by
    intro l
    induction l with
    | nil => intro _ _; rfl
    | cons x l ih => intro i h; rw [idxF, idxF, h x (List.mem_cons_self ..), ih _ fun y hy => h y (List.mem_cons_of_mem _ hy)]
  rw [this l 0 hy]
theorem QE_idxM {g : FuncId} {sp : List AV → AHeap → Option (AV × AHeap)} (hg : QE PP g sp) : QE PP 214 (spIdxM g sp) := by
  intro args A r A1 e
  unfold spIdxM at e
  split at e
  · rename_i xs g' caps
    split at e
    · rename_i hc
      obtain ⟨rfl, hx⟩ := hc
      injection e with e
      injection e with e1 e2
      subst e1; subst e2
      obtain ⟨h1, h2, h3⟩ := hx.choose_spec
      generalize hx.choose = l at h1 h2 h3
      subst h1
      refine T.of_closed (T_indexM (g := g') (caps := []) (os := []) (fun _ => true) [] (by simp) ClosedH.nil rfl (fun x hx => (by cases hx))).1 fun ho hl => ?_
      exact T_indexM (os := A.l) _ l h2 ho (by simpa [ltL, AV.lt] using hl) fun x hx => hg _ _ _ _ (h3 x hx)
    · cases e
  · cases e
theorem T_anyM {g : FuncId} {sp : List AV → AHeap → Option (AV × AHeap)} (hg : QE PP g sp) {caps : List AV} {os : List (Option (List AV))} (f : (List Fr) → Bool) (l : List (List Fr)) (hl : l.length ≤ maxLen) (ho : ClosedH os) (hc : ltL os.length caps = true) (hcl : looseL caps = caps)
    (hf : ∀ x ∈ l, sp ([.sl (frsA x) false] ++ caps) ⟨os⟩ = some (.bool (f x), ⟨os⟩)) :
    T PP 192 [.sl (rowsA l) false, .fn g caps] ⟨os⟩ fun r A' => r = .bool (l.any f) ∧ A' = ⟨os⟩ := by
  refine H_code (Quiet.e1 (QE_idxM hg) Quiet.nil) hmix k_slices_ContainsFunc_SSimpl_Fraction_Simpl_Fraction rfl (fun b => b) (Nat.le_refl _) (fun _ _ => rfl) (injB_id _) (by rfl) ?_
  show wpc os.length PP _ c_slices_ContainsFunc_SSimpl_Fraction_Simpl_Fraction (initSt [.sl (rowsA l) false, .fn g caps] ⟨os⟩) _
  simp -dsimp -implicitDefEqProofs [c_slices_ContainsFunc_SSimpl_Fraction_Simpl_Fraction, r_slices_ContainsFunc_SSimpl_Fraction_Simpl_Fraction, hcl, spIdxM_eq f hl hf, hsub_all ho, ← idxF_ge f l 0]
open Classical in
noncomputable def spAnyM (g : FuncId) (sp : List AV → AHeap → Option (AV × AHeap)) : List AV → AHeap → Option (AV × AHeap)
  | [.sl xs false, .fn g' caps], A => if h : g' = g ∧ looseL caps = caps ∧ ∃ l : List (List Fr), xs = rowsA l ∧ l.length ≤ maxLen ∧ ∀ x ∈ l, sp ([.sl (frsA x) false] ++ caps) A = some (.bool (yesM sp caps A x), A)
      then some (.bool (h.2.2.choose.any (yesM sp caps A)), A) else none
  | _, _ => none
theorem spAnyM_eq {g : FuncId} {sp : List AV → AHeap → Option (AV × AHeap)} (f : (List Fr) → Bool) {l : List (List Fr)} {caps : List AV} {A : AHeap} (hl : l.length ≤ maxLen) (hcl : looseL caps = caps) (h : ∀ x ∈ l, sp ([.sl (frsA x) false] ++ caps) A = some (.bool (f x), A)) :
    spAnyM g sp [.sl (rowsA l) false, .fn g caps] A = some (.bool (l.any f), A) := by
  have hy : ∀ x ∈ l, yesM sp caps A x = f x := by
    intro x hx
    unfold yesM yesOf
    rw [h x hx]
  have hc : g = g ∧ looseL caps = caps ∧ ∃ k : List (List Fr), rowsA l = rowsA k ∧ k.length ≤ maxLen ∧ ∀ x ∈ k, sp ([.sl (frsA x) false] ++ caps) A = some (.bool (yesM sp caps A x), A) := ⟨rfl, hcl, l, rfl, hl, fun x hx => by rw [hy x hx]; exact h x hx⟩
  unfold spAnyM
  dsimp only
  rw [dif_pos hc]
  have e : hc.2.2.choose = l := (rowsA_inj.1 hc.2.2.choose_spec.1).symm
  rw [e]
  have : l.any (yesM sp caps A) = l.any f := by
    clear e hc h hl
    induction l with
    | nil => rfl
    | cons x l ih => rw [List.any_cons, List.any_cons, hy x (List.mem_cons_self ..), ih fun y hm => hy y (List.mem_cons_of_mem _ hm)]
  rw [this]
theorem QE_anyM {g : FuncId} {sp : List AV → AHeap → Option (AV × AHeap)} (hg : QE PP g sp) : QE PP 192 (spAnyM g sp) := by
  intro args A r A1 e
  unfold spAnyM at e
  split at e
  · rename_i xs g' caps
    split at e
    · rename_i hc
      obtain ⟨rfl, hcl, hx⟩ := hc
      injection e with e
      injection e with e1 e2
      subst e1; subst e2
      obtain ⟨h1, h2, h3⟩ := hx.choose_spec
      generalize hx.choose = l at h1 h2 h3
      subst h1
      refine T.of_closed (T_anyM hg (caps := []) (os := []) (fun _ => true) [] (by simp) ClosedH.nil rfl rfl (fun x hx => (by cases hx))).1 fun ho hl => ?_
      exact T_anyM hg (os := A.l) _ l h2 ho (by simpa [ltL, AV.lt] using hl) hcl h3
    · cases e
  · cases e


/-! ### valid lists -/
theorem e_anyF_bad : QE PP 215 (spAnyF 216 (spR sp_badFraction)) := QE_anyF q_impl_badFraction.toR
theorem any_badF (l : List Fr) : (l.any fun x => !frOk x.p x.q) = !allOk l := by
  unfold allOk
  rw [List.not_all_eq_any_not]
noncomputable def sp_validL : List AV → Option (AV) := pf (ι := (List Fr)) (α := AV) (fun l => l.length ≤ maxLen) (fun l => [.sl (frsA l) false]) (fun l => .bool (decide (l.length ≤ 256) && allOk l))
theorem sp_validL_eq (l : List Fr) (h : l.length ≤ maxLen) : sp_validL [.sl (frsA l) false] = some (.bool (decide (l.length ≤ 256) && allOk l)) := by
  unfold sp_validL
  exact pf_eq (ι := (List Fr)) (α := AV) l h (by rintro l' _ e; simp_all [Int.natCast_inj])
theorem q_impl_validList : QP PP 194 sp_validL := by
  refine QP_pf (fun l h => ?_) fun l h => ?_
  · exact ⟨by first | rfl | simp, by first | rfl | simp⟩
  replace h : l.length ≤ maxLen := h
  refine P_code (Quiet.e1 e_anyF_bad Quiet.nil) hmix k_impl_validList rfl ?_ ?_
  · first | rfl | simp
  show wpc 0 PP _ c_impl_validList (initSt [.sl (frsA l) false] .nil) (endP r_impl_validList (.bool (decide (l.length ≤ 256) && allOk l)))
  have hany := spAnyF_eq (g := 216) (sp := spR sp_badFraction) (fun x => !frOk x.p x.q) (l := l) (caps := []) (A := ⟨[]⟩) h rfl (fun x hx => by
    have := sp_badFraction_eq x.p x.q
    simp [spR, seeL_cons, seeL_nil, seeV_int, seeV_agg, this, AV.flat])
  rw [any_badF] at hany
  by_cases h6 : l.length ≤ 256
  · have h6' : (l.length : Int) ≤ 256 := by omega
    simp -dsimp -implicitDefEqProofs [c_impl_validList, r_impl_validList, hany, h6, h6']
  · have h6' : ¬ (l.length : Int) ≤ 256 := by omega
    simp -dsimp -implicitDefEqProofs [c_impl_validList, r_impl_validList, hany, h6, h6']
end Go.Proofs.YtgophedkejgedaaGreatDoorAi
end

section
/- Contracts: strings.Join. -/
namespace Go.Proofs.YtgophedkejgedaaGreatDoorAi
open Go Go.RowKit
set_option linter.unusedVariables false
set_option linter.unusedSimpArgs false
set_option maxRecDepth 20000

/-- A library's function of which the result is known, that reads what its arguments reach and leaves memory as it is but for new blocks. -/
theorem T.libS {P : Program} {f : FuncId} {args : List AV} {r : AV} (he : Enters P f) (h : ∀ (σ : Sg) (w : World) (vs : List Value), RepL σ args vs → (∀ b off v, σ.cell b off = some v → w.cell? ⟨b, off, none⟩ = some v) → GoodW P w → Calls P f vs.toArray w fun e w' => ∃ v, e = .returned v ∧ Below w.heap.size w w' ∧ Rep σ r v) (A : AHeap) :
    T P f args A fun r' A' => r' = r ∧ A' = A := by
  refine ⟨he, fun B w0 σ w vs hG hb hs ha => (h σ w vs ha (fun b off v e => hs.cell e) (hG w hb)).mono fun e w' ⟨v, e1, e2, e3⟩ => ?_⟩
  refine ⟨r, A, v, σ, e1, ⟨rfl, rfl⟩, ⟨fun _ _ h => h, fun _ _ h => h, rfl⟩, hs.under e2, e3, hb.trans ⟨e2.os, e2.tape, e2.output, e2.size, fun k hk => e2.block k (hs.base k hk)⟩⟩

theorem rep_sl_inv {σ : Sg} {xs : List AV} {t : Bool} {v : Value} (h : Rep σ (.sl xs t) v) : (xs = [] ∧ ∃ a c, v = .slice a 0 c) ∨ ∃ b off c s, v = .slice (some ⟨b, off, none⟩) xs.length c ∧ xs.length ≤ c ∧
    ∀ (i : Nat) (x : AV), xs[i]? = some x → x.cells.length = s ∧ ∀ (j : Nat) (c : AV), x.cells[j]? = some c → ∃ u, σ.cell b (off + i * s + j) = some u ∧ Rep σ c u := by
  cases h with
  | slnil t a cap => exact .inl ⟨rfl, _, _, rfl⟩
  | sl xs t b off s cap val hlen hcap ht hs hm hr h1 hp =>
    exact .inr ⟨b, off, cap, s, rfl, hlen, fun i x hx => ⟨hs i x hx, fun j c hj => ⟨_, hm i x hx j c hj, hr i x hx j c hj⟩⟩⟩
@[simp] def strA (s : ByteArray) : AV := .str s
theorem strA_inj0 : ∀ x y, strA x = strA y → x = y := by
  intro x y h
  simp only [strA] at h
  injection h
abbrev strsA (l : List ByteArray) : List AV := mapA strA l
@[simp] theorem strsA_inj {l k : List ByteArray} : mapA strA l = mapA strA k ↔ l = k := ⟨mapA_inj strA_inj0, fun h => by rw [h]⟩
instance : Plain strA 1 := ⟨fun _ => rfl, by omega, fun _ => rfl, fun _ => rfl, fun _ => rfl, fun _ _ => rfl⟩
def joinT (l : List ByteArray) (sep : ByteArray) : ByteArray := ⟨(Go.Lib.join (l.map (·.data.toList)) sep.data.toList).toArray⟩
noncomputable def sp_joinS : List AV → Option (AV) := pf (ι := (List ByteArray) × (ByteArray)) (α := AV) (fun ⟨l, sep⟩ => l.length ≤ 1048576 ∧ (joinT l sep).size ≤ 140737488355328) (fun ⟨l, sep⟩ => [.sl (strsA l) false, .str sep]) (fun ⟨l, sep⟩ => .str (joinT l sep))
theorem sp_joinS_eq (l : List ByteArray) (sep : ByteArray) (h : l.length ≤ 1048576 ∧ (joinT l sep).size ≤ 140737488355328) : sp_joinS [.sl (strsA l) false, .str sep] = some (.str (joinT l sep)) := by
  unfold sp_joinS
  exact pf_eq (ι := (List ByteArray) × (ByteArray)) (α := AV) (l, sep) h (by rintro ⟨l', sep'⟩ _ e; simp_all [Int.natCast_inj])
theorem q_strings_Join : QP PP 130 sp_joinS := by
  refine QP_pf (fun i h => ?_) fun i h => ?_
  · obtain ⟨l, sep⟩ := i; exact ⟨by first | rfl | simp, by first | rfl | simp⟩
  obtain ⟨l, sep⟩ := i
  replace h : l.length ≤ 1048576 ∧ (joinT l sep).size ≤ 140737488355328 := h
  refine T.libS ⟨_, Tryz.func130, by kernel_rfl, by kernel_rfl⟩ (fun σ w vs hr hc hG => ?_) .nil
  obtain ⟨v1, us, rfl, h1, h2⟩ := hr.head
  obtain ⟨v2, us2, rfl, h3, h4⟩ := h2.head
  obtain rfl : us2 = [] := List.eq_nil_of_length_eq_zero h4.1.symm
  cases h3
  by_cases hl : l = []
  · have hv : ∃ a c, v1 = .slice a 0 c := by
      rcases rep_sl_inv h1 with ⟨_, h5⟩ | ⟨b, off, c, s, h5, _⟩
      · exact h5
      · exact ⟨_, _, by rw [h5, hl]; rfl⟩
    obtain ⟨a, c, rfl⟩ := hv
    refine (Tryz.strings_Join_none a c sep w).mono ?_
    rintro e w' ⟨rfl, rfl⟩
    refine ⟨_, rfl, Below.refl _ _, ?_⟩
    rw [hl]; exact .str _
  · have hv : ∃ b off c, v1 = .slice (some ⟨b, off, none⟩) l.length c ∧ l.length ≤ c ∧ ∀ (j : Nat) x, l[j]? = some x → w.cell? ⟨b, off + j, none⟩ = some (.string x) := by
      rcases rep_sl_inv h1 with ⟨h5, _⟩ | ⟨b, off, c, s, h5, h6, h7⟩
      · exact absurd (by simpa [mapA] using h5) hl
      · refine ⟨b, off, c, by rw [h5]; simp, by simpa using h6, fun j x hx => ?_⟩
        have hj : (mapA strA l)[j]? = some (strA x) := by simp [hx]
        obtain ⟨e1, e2⟩ := h7 j _ hj
        have e1 : 1 = s := e1
        subst e1
        obtain ⟨u, e3, e4⟩ := e2 0 (.str x) rfl
        have e5 := hc _ _ _ e3
        cases e4
        simpa using e5
    obtain ⟨b, off, c, rfl, hcap, hcells⟩ := hv
    have hbk : b < w.heap.size := by
      cases l with
      | nil => exact absurd rfl hl
      | cons x l =>
        have := hcells 0 x rfl
        unfold World.cell? at this
        rcases Nat.lt_or_ge b w.heap.size with hlt | hge
        · exact hlt
        · rw [Array.getElem?_eq_none hge] at this; cases this
    refine (Tryz.strings_Join b off c l sep w hcells hbk (by omega) hcap (by have := h.2; unfold joinT at this; simpa [ByteArray.size] using this)).mono ?_
    rintro e w' ⟨rfl, hb⟩
    exact ⟨_, rfl, hb, .str _⟩
end Go.Proofs.YtgophedkejgedaaGreatDoorAi
end

section
/- Contracts: texts of lists of fractions and of matrices. -/
namespace Go.Proofs.YtgophedkejgedaaGreatDoorAi
open Go Go.RowKit
set_option linter.unusedVariables false
set_option linter.unusedSimpArgs false
set_option maxRecDepth 20000

theorem ljoin_cons2 (x y : List UInt8) (r : List (List UInt8)) (sep : List UInt8) : Go.Lib.join (x :: y :: r) sep = x ++ (sep ++ Go.Lib.join (y :: r) sep) := by
  simp [Go.Lib.join, List.intercalate, List.intersperse]
theorem ljoin_snoc (sep x : List UInt8) : ∀ (l : List (List UInt8)), l ≠ [] → Go.Lib.join (l ++ [x]) sep = Go.Lib.join l sep ++ (sep ++ x)
  | [], h => absurd rfl h
  | [y], _ => by
    show Go.Lib.join [y, x] sep = _
    rw [ljoin_cons2, Go.Lib.join_one, Go.Lib.join_one]
  | y :: z :: r, _ => by
    show Go.Lib.join (y :: z :: (r ++ [x])) sep = _
    have ih := ljoin_snoc sep x (z :: r) (by simp)
    rw [ljoin_cons2, ljoin_cons2]
    rw [List.cons_append] at ih
    rw [ih]
    simp only [List.append_assoc]
theorem joinT_nil (sep : ByteArray) : joinT [] sep = ⟨#[]⟩ := rfl
theorem joinT_one (x sep : ByteArray) : joinT [x] sep = x := by
  unfold joinT; rw [List.map_cons, List.map_nil, Go.Lib.join_one]
theorem joinT_snoc (sep x : ByteArray) (l : List ByteArray) (h : l ≠ []) : joinT (l ++ [x]) sep = joinT l sep ++ (sep ++ x) := by
  unfold joinT
  rw [List.map_append, List.map_cons, List.map_nil, ljoin_snoc _ _ _ (by simpa using h)]
  apply ByteArray.ext
  simp
theorem joinT_size (sep : ByteArray) (m : Nat) : ∀ (l : List ByteArray), (∀ x ∈ l, x.size ≤ m) → (joinT l sep).size ≤ l.length * (m + sep.size)
  | [], _ => by simp [joinT_nil]
  | [y], h => by
    have := h y (List.mem_cons_self ..)
    rw [joinT_one, List.length_singleton]; omega
  | y :: z :: r, h => by
    have h1 := joinT_size sep m (z :: r) fun x hx => h x (List.mem_cons_of_mem _ hx)
    have h2 := h y (List.mem_cons_self ..)
    have e : (joinT (y :: z :: r) sep).size = y.size + (sep.size + (joinT (z :: r) sep).size) := by
      unfold joinT
      rw [List.map_cons, List.map_cons, ljoin_cons2]
      simp only [ba_size, List.size_toArray, List.length_append, Array.length_toList]
      rfl
    rw [e, List.length_cons, Nat.add_mul]
    rw [List.length_cons] at h1 ⊢
    omega
def oneB : ByteArray := ⟨#[32]⟩
def frS (x : Fr) : ByteArray := frT x.p x.q
def fracsT (l : List Fr) : ByteArray := joinT (l.map frS) oneB
theorem frS_size {x : Fr} (h : frOk x.p x.q = true) : (frS x).size ≤ 43 := by
  have hb := frOk_bd h
  have s1 := decB_size x.p (by omega) (by omega)
  have s2 := decB_size x.q (by omega) (by omega)
  unfold frS frT
  split
  · omega
  · have : slashB.size = 1 := rfl
    simp only [ByteArray.size_append]; omega
theorem allOk_get {l : List Fr} (h : allOk l = true) : ∀ x ∈ l, frOk x.p x.q = true := by
  unfold allOk at h
  exact fun x hx => List.all_eq_true.1 h x hx
theorem fracsT_size {l : List Fr} (h : allOk l = true) : (fracsT l).size ≤ l.length * 44 := by
  have := joinT_size oneB 43 (l.map frS) (by
    intro x hx
    obtain ⟨y, hy, rfl⟩ := List.mem_map.1 hx
    exact frS_size (allOk_get h y hy))
  have e : oneB.size = 1 := rfl
  rw [e, List.length_map] at this
  exact this
def lvS (N : Nat) (L : List ByteArray) : AV := if L = [] then .sl [] true else .ref N 1 0 L.length .full
def obS (L : List ByteArray) : List (Option (List AV)) := if L = [] then [] else [some (flatA (strsA L))]
theorem lvS_nil (N : Nat) : lvS N [] = .sl [] true := rfl
theorem obS_nil : obS [] = [] := rfl
theorem lvS_cons {N : Nat} {L : List ByteArray} (h : L ≠ []) : lvS N L = .ref N 1 0 L.length .full := if_neg h
theorem obS_cons {L : List ByteArray} (h : L ≠ []) : obS L = [some (flatA (strsA L))] := if_neg h
theorem lvS_lt (L : List ByteArray) : AV.lt (obS L).length (lvS 0 L) = true := by
  by_cases hL : L = []
  · rw [hL, lvS_nil]; rfl
  · rw [obS_cons hL, lvS_cons hL]; simp
theorem strS_snoc (L : List ByteArray) (s : ByteArray) : flatA (strsA L) ++ [.str s] = flatA (strsA (L ++ [s])) := by
  rw [flatA_append]; rfl
@[simp] theorem gath_str (l : List ByteArray) (n : Nat) (h : n = l.length) : gath 1 n (flatA (mapA strA l)) = mapA strA l := flatA_gath l n h
def ftSt (l : List Fr) (i : Nat) : St := ⟨tl [(3, lvS 0 ((l.map frS).take i)), (7, .sl (frsA l) false), (8, .int .i64 l.length), (9, .int .i64 i)], ⟨obS ((l.map frS).take i)⟩⟩
noncomputable def sp_fracsText : List AV → Option (AV) := pf (ι := (List Fr)) (α := AV) (fun l => allOk l = true ∧ l.length ≤ 256) (fun l => [.sl (frsA l) false]) (fun l => .str (fracsT l))
theorem sp_fracsText_eq (l : List Fr) (h : allOk l = true ∧ l.length ≤ 256) : sp_fracsText [.sl (frsA l) false] = some (.str (fracsT l)) := by
  unfold sp_fracsText
  exact pf_eq (ι := (List Fr)) (α := AV) l h (by rintro l' _ e; simp_all [Int.natCast_inj])
theorem q_impl_fractionsText : QP PP 86 sp_fracsText := by
  refine QP_pf (fun l h => ?_) fun l h => ?_
  · exact ⟨by first | rfl | simp, by first | rfl | simp⟩
  replace h : allOk l = true ∧ l.length ≤ 256 := h
  refine P_code (Quiet.q1 q_impl_Fraction_text (Quiet.e1 q_strings_Join.toR Quiet.nil)) hmix k_impl_fractionsText rfl ?_ ?_
  · first | rfl | simp
  show wpc 0 PP _ c_impl_fractionsText (initSt [.sl (frsA l) false] .nil) (endP r_impl_fractionsText (.str (fracsT l)))
  obtain ⟨ho, hl⟩ := h
  have hj := sp_joinS_eq (l.map frS) oneB ⟨by simp; omega, by have := fracsT_size ho; unfold fracsT at this; omega⟩
  simp -dsimp -implicitDefEqProofs [c_impl_fractionsText, r_impl_fractionsText]
  refine wpLoop_st (ftSt l) (fun i => i ≤ l.length) (fun i => l.length - i) 0 (by omega) (Sub.keep (by simp [ftSt, obS_nil]) (by simp [hsub, ftSt, obS_nil]) (by simp [ftSt, lvS_nil])) ?_
  intro i hi
  simp -dsimp -implicitDefEqProofs [ftSt]
  refine brW_of (fun h => ?_) (fun h => ?_) <;> simp only [decide_eq_true_eq, decide_eq_false_iff_not] at h
  · have hx : i < l.length := by omega
    have hwi := wrapNat (i := i) (by omega)
    have hb := frOk_bd (allOk_get ho l[i] (List.getElem_mem hx))
    have ht := sp_frText_eq l[i].p l[i].q ⟨by omega, by omega⟩
    have e4 : (l.map frS).take (i + 1) = (l.map frS).take i ++ [frS l[i]] := by rw [take_snoc (l.map frS) i (by simpa using hx), List.getElem_map]
    have hlen : ((l.map frS).take i).length = i := by simp; omega
    have e6 : frT l[i].p l[i].q = frS l[i] := rfl
    have e2 := strS_snoc ((l.map frS).take i) (frS l[i])
    by_cases hL : (l.map frS).take i = []
    · rw [hL] at e4
      have l1 : 1 * 17 ≤ mostBytes := by decide
      rw [hL]
      simp -dsimp -implicitDefEqProofs [hx, ht, hwi, lvS_nil, obS_nil, l1, e6]
      exact .mk (i + 1) (by omega) (by omega) (Sub.mk' (fun b => if b = 0 then 2 else b) (by simp) (by intro b hb; simp at hb <;> omega) (by show injB _ (obS ((l.map frS).take (i + 1))).length = true; rw [e4, obS_cons (by simp)]; rfl) (by simp [hsub, ftSt, e4, obS, flatA_cons]) (by simp [ftSt, e4, lvS, obS, hwi]))
    · generalize hL2 : (l.map frS).take (i + 1) = L2 at *
      generalize (l.map frS).take i = L at *
      have l1 : (L.length + 1) * 17 ≤ mostBytes := by simp only [mostBytes]; omega
      have l2 : ¬ (L.length + 1 ≤ L.length) := by omega
      have l3 : (flatA (strsA L)).take L.length = flatA (strsA L) := List.take_of_length_le (by simp)
      have e5 : L2 ≠ [] := by rw [e4]; simp
      simp -dsimp -implicitDefEqProofs [hx, ht, hwi, l1, l2, l3, e2, e6, lvS_cons hL, obS_cons hL]
      exact .mk (i + 1) (by omega) (by omega) (Sub.mk' (fun b => if b = 0 then 3 else b) (by simp) (by intro b hb; simp at hb <;> omega) (by show injB _ (obS ((l.map frS).take (i + 1))).length = true; rw [hL2, obS_cons e5]; rfl) (by simp [hsub, ftSt, hL2, e4, obS_cons]) (by simp [ftSt, hL2, e4, lvS_cons, obS_cons, hwi]))
  · obtain rfl : i = l.length := by omega
    rw [show (l.map frS).take l.length = l.map frS from List.take_of_length_le (by simp)]
    unfold fracsT
    by_cases hL : l.map frS = []
    · rw [hL] at hj ⊢
      have hj' : sp_joinS [.sl [] false, .str ⟨#[32]⟩] = some (.str (joinT [] oneB)) := hj
      simp -dsimp -implicitDefEqProofs [lvS_nil, obS_nil, hj']
    · generalize l.map frS = L at *
      have hj' : sp_joinS [.sl (strsA L) false, .str ⟨#[32]⟩] = some (.str (joinT L oneB)) := hj
      simp -dsimp -implicitDefEqProofs [lvS_cons hL, obS_cons hL, hj']
end Go.Proofs.YtgophedkejgedaaGreatDoorAi
end

section
/- Contracts: texts of matrices of the program. -/
namespace Go.Proofs.YtgophedkejgedaaGreatDoorAi
open Go Go.RowKit
set_option linter.unusedVariables false
set_option linter.unusedSimpArgs false
set_option maxRecDepth 20000

def lineB : ByteArray := ⟨#[10]⟩
def matW (w : ByteArray) (M : List (List Fr)) : ByteArray := M.foldl (fun w r => w ++ (fracsT r ++ lineB)) w
def matX (M : List (List Fr)) : ByteArray := matW noB M
theorem matW_snoc (w : ByteArray) (M : List (List Fr)) (i : Nat) (h : i < M.length) : matW w (M.take (i + 1)) = matW w (M.take i) ++ (fracsT M[i] ++ lineB) := by
  rw [take_snoc M i h]; unfold matW; rw [List.foldl_append]; rfl
theorem matW_size (M : List (List Fr)) (h : ∀ r ∈ M, allOk r = true ∧ r.length ≤ 256) : ∀ w, (matW w M).size ≤ w.size + M.length * 12000 := by
  induction M with
  | nil => intro w; simp [matW]
  | cons r M ih =>
    intro w
    have h1 := ih (fun y hy => h y (List.mem_cons_of_mem _ hy)) (w ++ (fracsT r ++ lineB))
    have hr := h r (List.mem_cons_self ..)
    have h2 := fracsT_size hr.1
    have h3 : lineB.size = 1 := rfl
    show (matW (w ++ (fracsT r ++ lineB)) M).size ≤ _
    simp only [ByteArray.size_append] at h1
    rw [List.length_cons]
    omega
noncomputable def sp_matX : List AV → Option (AV) := pf (ι := (List (List Fr))) (α := AV) (fun M => M.length ≤ 8 ∧ ∀ r ∈ M, allOk r = true ∧ r.length ≤ 256) (fun M => [.sl (rowsA M) false]) (fun M => .str (matX M))
theorem sp_matX_eq (M : List (List Fr)) (h : M.length ≤ 8 ∧ ∀ r ∈ M, allOk r = true ∧ r.length ≤ 256) : sp_matX [.sl (rowsA M) false] = some (.str (matX M)) := by
  unfold sp_matX
  exact pf_eq (ι := (List (List Fr))) (α := AV) M h (by rintro M' _ e; simp_all [Int.natCast_inj])
theorem q_impl_matrixText : QP PP 40 sp_matX := by
  refine QP_pf (fun M h => ?_) fun M h => ?_
  · exact ⟨by first | rfl | simp, by first | rfl | simp⟩
  replace h : M.length ≤ 8 ∧ ∀ r ∈ M, allOk r = true ∧ r.length ≤ 256 := h
  refine P_code (Quiet.q1 q_impl_fractionsText Quiet.nil) hmix k_impl_matrixText rfl ?_ ?_
  · first | rfl | simp
  show wpc 0 PP _ c_impl_matrixText (initSt [.sl (rowsA M) false] .nil) (endP r_impl_matrixText (.str (matX M)))
  obtain ⟨hl, hr⟩ := h
  simp -dsimp -implicitDefEqProofs [c_impl_matrixText, r_impl_matrixText]
  refine wpLoop_st (fun (i : Nat) => ⟨tl [(3, .str (matW noB (M.take i))), (6, .sl (rowsA M) false), (7, .int .i64 M.length), (8, .int .i64 i)], ⟨[]⟩⟩) (fun i => i ≤ M.length) (fun i => M.length - i) 0 (by omega) (Sub.keep (by simp) (by simp [hsub]) (by simp [matW, noB])) ?_
  intro i hi
  simp -dsimp -implicitDefEqProofs
  refine brW_of (fun h => ?_) (fun h => ?_) <;> simp only [decide_eq_true_eq, decide_eq_false_iff_not] at h
  · have hx : i < M.length := by omega
    have hwi := wrapNat (i := i) (by omega)
    have hri := hr M[i] (List.getElem_mem hx)
    have ht := sp_fracsText_eq M[i] hri
    have hsn := matW_snoc noB M i hx
    have s1 := fracsT_size hri.1
    have s2 := matW_size (M.take i) (fun r hr' => hr r (List.mem_of_mem_take hr')) noB
    have s3 : (M.take i).length ≤ 8 := by rw [List.length_take]; omega
    have s4 : noB.size = 0 := rfl
    have z1 : (fracsT M[i]).size + 1 ≤ 9223372036854775807 := by omega
    have z2 : (matW noB (M.take i)).size + ((fracsT M[i]).size + 1) ≤ 9223372036854775807 := by omega
    simp -dsimp -implicitDefEqProofs [hx, hwi, ht, z1, z2]
    exact .mk (i + 1) (by omega) (by omega) (Sub.keep (by simp) (by simp [hsub]) (by simp [hsn, lineB, hwi]))
  · obtain rfl : i = M.length := by omega
    simp -dsimp -implicitDefEqProofs [matX]
end Go.Proofs.YtgophedkejgedaaGreatDoorAi
end

section
/- Contracts: texts of sums. -/
namespace Go.Proofs.YtgophedkejgedaaGreatDoorAi
open Go Go.RowKit
set_option linter.unusedVariables false
set_option linter.unusedSimpArgs false
set_option maxRecDepth 20000

def sumWB : ByteArray := ⟨#[115, 117, 109, 32]⟩
def tmT (x : Tm) : ByteArray := frT x.p x.q ++ sepB ++ grT x.e x.n.toNat ++ lineB
def tmsW (w : ByteArray) (L : List Tm) : ByteArray := L.foldl (fun w x => w ++ tmT x) w
def sumX (tn te s : Int) (L : List Tm) : ByteArray := tmsW (sumWB ++ decB s ++ sepB ++ grT te tn.toNat ++ lineB) L
theorem tmsW_snoc (w : ByteArray) (L : List Tm) (i : Nat) (h : i < L.length) : tmsW w (L.take (i + 1)) = tmsW w (L.take i) ++ tmT L[i] := by
  rw [take_snoc L i h]; unfold tmsW; rw [List.foldl_append]; rfl
def TmIn (x : Tm) : Prop := frOk x.p x.q = true ∧ graphOk x.n x.e = true ∧ 0 ≤ x.e ∧ x.e ≤ 4294967295
theorem tmT_size {x : Tm} (h : TmIn x) : (tmT x).size ≤ 1300 := by
  have h1 := frS_size (x := ⟨x.p, x.q⟩) h.1
  have hn := graphOk_in h.2.1
  have h2 := grT_size (e := x.e) (n := x.n.toNat) (by omega)
  have h3 : sepB.size = 1 := rfl
  have h4 : lineB.size = 1 := rfl
  unfold frS at h1
  unfold tmT
  simp only [ByteArray.size_append]
  simp only at h1
  omega
theorem tmsW_size (L : List Tm) (h : ∀ x ∈ L, TmIn x) : ∀ w, (tmsW w L).size ≤ w.size + L.length * 1300 := by
  induction L with
  | nil => intro w; simp [tmsW]
  | cons r M ih =>
    intro w
    have h1 := ih (fun y hy => h y (List.mem_cons_of_mem _ hy)) (w ++ tmT r)
    have h2 := tmT_size (h r (List.mem_cons_self ..))
    show (tmsW (w ++ tmT r) M).size ≤ _
    simp only [ByteArray.size_append] at h1
    rw [List.length_cons]
    omega
theorem sumX_start {tn te s : Int} (hn : 0 ≤ tn ∧ tn ≤ 5) (hs : 0 ≤ s ∧ s ≤ 5) : (sumWB ++ decB s ++ sepB ++ grT te tn.toNat ++ lineB).size ≤ 1300 := by
  have h1 := decB_size s (by omega) (by omega)
  have h2 := grT_size (e := te) (n := tn.toNat) (by omega)
  have h3 : sepB.size = 1 := rfl
  have h4 : lineB.size = 1 := rfl
  have h5 : sumWB.size = 4 := rfl
  simp only [ByteArray.size_append]
  omega
theorem decB_fr {x : Tm} (h : TmIn x) : sp_frText [.agg [.int .i64 x.p, .int .i64 x.q]] = some (.str (frT x.p x.q)) := by
  have hb := frOk_bd h.1
  exact sp_frText_eq x.p x.q (by omega)
theorem gr_tx {n e : Int} (hn : 0 ≤ n ∧ n ≤ 5) (he : 0 ≤ e ∧ e ≤ 4294967295) : sp_graphTx [.agg [.int .i64 n, .int .u32 e]] = some (.str (grT e n.toNat)) := by
  have := sp_graphTx_eq n.toNat e ⟨by omega, he⟩
  rw [show ((n.toNat : Nat) : Int) = n by omega] at this
  exact this
abbrev sumInH (tn te s : Int) (L : List Tm) : Prop := ((0 ≤ te ∧ te ≤ 4294967295) ∧ graphOk tn te = true) ∧ (0 ≤ s ∧ s ≤ 5) ∧ L.length ≤ 64 ∧ ∀ x ∈ L, TmIn x
noncomputable def sp_sumX : List AV → Option (AV) := pf (ι := (Int) × (Int) × (Int) × (List Tm)) (α := AV) (fun ⟨tn, te, s, L⟩ => sumInH tn te s L) (fun ⟨tn, te, s, L⟩ => [.agg [.int .i64 tn, .int .u32 te, .int .i64 s, .sl (tmsA L) false]]) (fun ⟨tn, te, s, L⟩ => .str (sumX tn te s L))
theorem sp_sumX_eq (tn te s : Int) (L : List Tm) (h : sumInH tn te s L) : sp_sumX [.agg [.int .i64 tn, .int .u32 te, .int .i64 s, .sl (tmsA L) false]] = some (.str (sumX tn te s L)) := by
  unfold sp_sumX
  exact pf_eq (ι := (Int) × (Int) × (Int) × (List Tm)) (α := AV) (tn, te, s, L) h (by rintro ⟨tn', te', s', L'⟩ _ e; simp_all [Int.natCast_inj])
set_option maxHeartbeats 1000000 in
theorem q_impl_FlagSum_text : QP PP 58 sp_sumX := by
  refine QP_pf (fun i h => ?_) fun i h => ?_
  · obtain ⟨tn, te, s, L⟩ := i; exact ⟨by first | rfl | simp, by first | rfl | simp⟩
  obtain ⟨tn, te, s, L⟩ := i
  replace h : sumInH tn te s L := h
  refine P_code (Quiet.q1 q_impl_decimal (Quiet.q1 q_impl_Graph_text (Quiet.q1 q_impl_Fraction_text Quiet.nil))) hmix k_impl_FlagSum_text rfl ?_ ?_
  · first | rfl | simp
  show wpc 0 PP _ c_impl_FlagSum_text (initSt [.agg [.int .i64 tn, .int .u32 te, .int .i64 s, .sl (tmsA L) false]] .nil) (endP r_impl_FlagSum_text (.str (sumX tn te s L)))
  obtain ⟨⟨hte, hg⟩, hs, hl, hr⟩ := h
  have htn := graphOk_in hg
  have hd := sp_decimal_eq s (by omega)
  have ht := gr_tx htn hte
  have s0 := decB_size s (by omega) (by omega)
  have s1 := grT_size (e := te) (n := tn.toNat) (by omega)
  have z1 : 4 + (decB s).size ≤ 9223372036854775807 := by omega
  have z2 : 4 + (decB s).size + 1 ≤ 9223372036854775807 := by omega
  have z3 : 4 + (decB s).size + 1 + (grT te tn.toNat).size ≤ 9223372036854775807 := by omega
  have z4 : 4 + (decB s).size + 1 + (grT te tn.toNat).size + 1 ≤ 9223372036854775807 := by omega
  have hst := sumX_start (te := te) htn hs
  unfold sumX
  simp -dsimp -implicitDefEqProofs [c_impl_FlagSum_text, r_impl_FlagSum_text, hd, ht, z1, z2, z3, z4]
  refine wpLoop_st (fun (i : Nat) => ⟨tl [(3, .str (tmsW (sumWB ++ decB s ++ sepB ++ grT te tn.toNat ++ lineB) (L.take i))), (17, .sl (tmsA L) false), (18, .int .i64 L.length), (19, .int .i64 i)], ⟨[]⟩⟩) (fun i => i ≤ L.length) (fun i => L.length - i) 0 (by omega) (Sub.keep (by simp) (by simp [hsub]) (by simp [tmsW, sumWB, sepB, lineB])) ?_
  intro i hi
  simp -dsimp -implicitDefEqProofs
  refine brW_of (fun h => ?_) (fun h => ?_) <;> simp only [decide_eq_true_eq, decide_eq_false_iff_not] at h
  · have hx : i < L.length := by omega
    have hwi := wrapNat (i := i) (by omega)
    have hri := hr L[i] (List.getElem_mem hx)
    have hf := decB_fr hri
    have hgx := gr_tx (graphOk_in hri.2.1) hri.2.2
    have hsn := tmsW_snoc (sumWB ++ decB s ++ sepB ++ grT te tn.toNat ++ lineB) L i hx
    have s2 := tmsW_size (L.take i) (fun r hr' => hr r (List.mem_of_mem_take hr')) (sumWB ++ decB s ++ sepB ++ grT te tn.toNat ++ lineB)
    have s3 : (L.take i).length ≤ 64 := by rw [List.length_take]; omega
    have s4 := tmT_size hri
    generalize sumWB ++ decB s ++ sepB ++ grT te tn.toNat ++ lineB = W0 at *
    unfold tmT at hsn s4
    have e1 : sepB.size = 1 := rfl
    have e2 : lineB.size = 1 := rfl
    simp only [ByteArray.size_append] at s4
    generalize tmsW W0 (L.take i) = W at *
    generalize frT L[i].p L[i].q = F at *
    generalize grT L[i].e L[i].n.toNat = G at *
    have y1 : F.size + 1 ≤ 9223372036854775807 := by omega
    have y2 : F.size + 1 + G.size ≤ 9223372036854775807 := by omega
    have y3 : F.size + 1 + G.size + 1 ≤ 9223372036854775807 := by omega
    have y4 : W.size + (F.size + 1 + G.size + 1) ≤ 9223372036854775807 := by omega
    simp -dsimp -implicitDefEqProofs [hx, hwi, hf, hgx, y1, y2, y3, y4]
    exact .mk (i + 1) (by omega) (by omega) (Sub.keep (by simp) (by simp [hsub]) (by simp [hsn, sepB, lineB, hwi]))
  · obtain rfl : i = L.length := by omega
    simp -dsimp -implicitDefEqProofs
noncomputable def sumT (tn te s : Int) (L : List Tm) : ByteArray := if sumB tn te s L = true then sumX tn te s L else noB
theorem sumB_in {tn te s : Int} {L : List Tm} (h : sumB tn te s L = true) (he : 0 ≤ te ∧ te ≤ 4294967295) (hu : u32L L) : sumInH tn te s L := by
  obtain ⟨⟨h1, h2, h3⟩, h4⟩ := sumB_P h
  unfold spanB at h2
  simp only [Bool.and_eq_true, decide_eq_true_eq] at h2
  have hn := graphOk_in h1
  refine ⟨⟨he, h1⟩, by omega, h3, fun x hx => ?_⟩
  obtain ⟨i, hi, rfl⟩ := List.getElem_of_mem hx
  have := (h4 i hi hi).1
  unfold termB at this
  simp only [Bool.and_eq_true] at this
  exact ⟨this.2.2.2.1, (flagOk_in this.1).1, hu _ hx⟩
noncomputable def sp_sumText : List AV → Option (AV) := pf (ι := (Int) × (Int) × (Int) × (List Tm)) (α := AV) (fun ⟨tn, te, s, L⟩ => (0 ≤ te ∧ te ≤ 4294967295) ∧ L.length ≤ maxLen ∧ u32L L) (fun ⟨tn, te, s, L⟩ => [.agg [.int .i64 tn, .int .u32 te, .int .i64 s, .sl (tmsA L) false]]) (fun ⟨tn, te, s, L⟩ => .str (sumT tn te s L))
theorem sp_sumText_eq (tn te s : Int) (L : List Tm) (h : (0 ≤ te ∧ te ≤ 4294967295) ∧ L.length ≤ maxLen ∧ u32L L) : sp_sumText [.agg [.int .i64 tn, .int .u32 te, .int .i64 s, .sl (tmsA L) false]] = some (.str (sumT tn te s L)) := by
  unfold sp_sumText
  exact pf_eq (ι := (Int) × (Int) × (Int) × (List Tm)) (α := AV) (tn, te, s, L) h (by rintro ⟨tn', te', s', L'⟩ _ e; simp_all [Int.natCast_inj])
end Go.Proofs.YtgophedkejgedaaGreatDoorAi
end

section
/- The law of ValidPattern. -/
namespace Go.Proofs.YtgophedkejgedaaGreatDoorAi
open Go Go.RowKit
set_option linter.unusedVariables false
set_option linter.unusedSimpArgs false

theorem wt_list {α : Type} {f : α → AV} {t : Ty} (hf : ∀ y, WtV t y → ∃ x, y = f x) : ∀ {xs : List AV}, (∀ y ∈ xs, WtV t y) → ∃ l, xs = mapA f l
  | [], _ => ⟨[], rfl⟩
  | x :: xs, h => by
    obtain ⟨l, hl⟩ := wt_list hf fun y hy => h y (List.mem_cons_of_mem _ hy)
    obtain ⟨a, rfl⟩ := hf x (h x (List.mem_cons_self ..))
    exact ⟨a :: l, by rw [hl]; rfl⟩
abbrev tyFr : Ty := .st [.int .i64, .int .i64]
theorem wt_fr (y : AV) (h : WtV tyFr y) : ∃ x, y = frA x := by
  simp only [tyFr, WtV_st, WtL_int, WtL_nil] at h
  obtain ⟨_, rfl, p, _, rfl, _, q, _, rfl, _, rfl⟩ := h
  exact ⟨⟨p, q⟩, rfl⟩
abbrev tyPattern : Ty := .st [.st [.int .i64, .int .u32], .int .u32, .sl tyFr]
theorem wt_pattern {x : AV} (h : WtV tyPattern x) : ∃ n e l ps, x = .agg [.int .i64 n, .int .u32 e, .int .u32 l, .sl (frsA ps) false] ∧ ((0 ≤ e ∧ e ≤ 4294967295) ∧ (0 ≤ l ∧ l ≤ 4294967295) ∧ ps.length ≤ maxLen) := by
  simp only [tyPattern, WtV_st, WtL_st, WtL_int, WtL_sl, WtL_nil] at h
  obtain ⟨_, rfl, _, _, rfl, ⟨n, _, rfl, _, e, _, rfl, he, rfl⟩, l, _, rfl, hl, xs, _, rfl, ⟨hlen, hx⟩, rfl⟩ := h
  obtain ⟨ps, rfl⟩ := wt_list (t := tyFr) wt_fr (by simpa only [tyFr, WtV_st, WtL_int, WtL_nil] using hx)
  exact ⟨n, e, l, ps, rfl, ⟨by simpa [IntKind.min, IntKind.signed] using he.1, by simpa [IntKind.max, IntKind.signed, IntKind.bits] using he.2⟩, ⟨by simpa [IntKind.min, IntKind.signed] using hl.1, by simpa [IntKind.max, IntKind.signed, IntKind.bits] using hl.2⟩, by simpa using hlen⟩

end Go.Proofs.YtgophedkejgedaaGreatDoorAi
end
