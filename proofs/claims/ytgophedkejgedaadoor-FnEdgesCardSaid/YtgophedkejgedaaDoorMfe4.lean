/- Contracts, joined. -/
import Derived.Test.YtgophedkejgedaaDoorMfe3
import Derived.Test.YtgophedkejgedaaDoorAiX
import Derived.Test.YtgophedkejgedaaDoorProg
section
/- MADE BY PROGRAM (wip/tools/gen.py): the abstract code of functions. -/
namespace Go.Proofs.YtgophedkejgedaaDoorAi
open Go AC AOp Opd
set_option linter.unusedVariables false
set_option maxRecDepth 100000
def c_laws_a2At : AC := seq (reg [⟨(some 6), mv (c (.int .i64 0)), none⟩]) (seq (seq (reg [⟨(some 7), mv (t 1), none⟩, ⟨(some 8), mv (t 0), none⟩, ⟨(some 9), len (t 8), none⟩, ⟨(some 10), bin .geq (t 7) (t 9), none⟩, ⟨(some 11), mv (t 10), none⟩, ⟨(some 12), mv (t 2), some (11, false)⟩, ⟨(some 13), bin .lss (t 12) (c (.int .i64 1)), some (11, false)⟩, ⟨(some 14), pick (t 11) (c (.bool true)) (t 13), none⟩]) (cond (t 14) (seq (reg [⟨(some 6), mv (c (.int .i64 0)), none⟩]) (ret)) (skip))) (seq (reg [⟨(some 15), mv (t 0), none⟩, ⟨(some 16), mv (t 1), none⟩, ⟨(some 17), iad 1 (t 15) (t 16), none⟩, ⟨(some 18), ld (t 17) 1 false, none⟩, ⟨(some 19), conv .i64 (t 18), none⟩, ⟨(some 20), mv (t 2), none⟩, ⟨(some 21), bin .rem (t 19) (t 20), none⟩, ⟨(some 6), mv (t 21), none⟩]) (ret)))
def r_laws_a2At : List ARes := [.tmp 6]
theorem k_laws_a2At : acLin Go.Proofs.Tryd.prog 29 3 (inQ [] []) [] = some (c_laws_a2At, r_laws_a2At) := by kernel_rfl
def c_spec_l01Drawn : AC := seq (reg [⟨(some 4), alloc [.int .i64 0, .int .u32 0], none⟩]) (seq (reg [⟨(some 6), mv (t 1), none⟩, ⟨(some 7), mv (t 0), none⟩, ⟨(some 8), mv (t 1), none⟩, ⟨(some 9), callq (c (.fn 123 [])) [t 8], none⟩, ⟨(some 10), conv .u64 (t 9), none⟩, ⟨(some 11), bin .shl (c (.int .i64 1)) (t 10), none⟩, ⟨(some 12), calle (c (.fn 112 [])) [t 7, t 11] [], none⟩, ⟨(some 13), conv .u32 (t 12), none⟩, ⟨(some 14), bld [.int .i64 0, .int .u32 0] [(0, 1, t 6), (1, 1, t 13)], none⟩, ⟨(some 5), alloc [.int .i64 0, .int .u32 0], none⟩, ⟨none, st (t 5) 2 (t 14), none⟩]) (seq (seq (reg [⟨(some 15), mv (t 0), none⟩, ⟨(some 16), calle (c (.fn 113 [])) [t 15, c (.int .i64 4)] [], none⟩]) (cond (t 16) (tree (.op ⟨(some 17), fad (t 5) 1, none⟩ (.op ⟨(some 19), mv (t 0), none⟩ (.op ⟨(some 20), mv (t 1), none⟩ (.op ⟨(some 21), callq (c (.fn 123 [])) [t 20], none⟩ (.op ⟨(some 22), conv .u64 (t 21), none⟩ (.op ⟨(some 23), bin .shl (c (.int .i64 1)) (t 22), none⟩ (.both (.op ⟨(some 18), ld (t 17) 1 false, none⟩ (.op ⟨(some 24), calle (c (.fn 112 [])) [t 19, t 23] [], none⟩ (.op ⟨(some 25), conv .u32 (t 24), none⟩ (.op ⟨(some 26), bin .and (t 18) (t 25), none⟩ (.op ⟨(some 27), fad (t 5) 1, none⟩ (.op ⟨none, st (t 27) 1 (t 26), none⟩ .done)))))) (.op ⟨(some 24), calle (c (.fn 112 [])) [t 19, t 23] [], none⟩ (.op ⟨(some 18), ld (t 17) 1 false, none⟩ (.op ⟨(some 25), conv .u32 (t 24), none⟩ (.op ⟨(some 26), bin .and (t 18) (t 25), none⟩ (.op ⟨(some 27), fad (t 5) 1, none⟩ (.op ⟨none, st (t 27) 1 (t 26), none⟩ .done)))))))))))))) (skip))) (seq (reg [⟨(some 28), ld (t 5) 2 true, none⟩, ⟨none, st (t 4) 2 (t 28), none⟩]) (ret))))
def r_spec_l01Drawn : List ARes := [.cell 4 2 true]
theorem k_spec_l01Drawn : acLin Go.Proofs.Tryd.prog 80 2 (inQ [123] [112, 113]) [⟨false, none, [], [], none⟩, ⟨false, none, [], [], none⟩, ⟨false, none, [], [], none⟩, ⟨false, none, [], [], some (.step 0 (.step 2 (.step 3 (.step 4 (.step 5 (.step 6 (.alt 1 (.step 7 (.step 8 (.step 9 (.step 10 (.step 11 .done))))) (.last 7 (.step 1 (.step 8 (.step 9 (.step 10 (.step 11 .done)))))))))))))⟩] = some (c_spec_l01Drawn, r_spec_l01Drawn) := by kernel_rfl
def c_spec_A2Graph : AC := seq (reg [⟨(some 4), alloc [.int .i64 0, .int .u32 0], none⟩]) (seq (reg [⟨(some 5), mv (t 0), none⟩, ⟨(some 6), calle (c (.fn 58 [])) [t 5] [], none⟩, ⟨(some 7), mv (t 1), none⟩, ⟨(some 8), calle (c (.fn 80 [])) [t 6, t 7] [], none⟩, ⟨none, st (t 4) 2 (t 8), none⟩]) (ret))
def r_spec_A2Graph : List ARes := [.cell 4 2 true]
theorem k_spec_A2Graph : acLin Go.Proofs.Tryd.prog 28 2 (inQ [] [58, 80]) [] = some (c_spec_A2Graph, r_spec_A2Graph) := by kernel_rfl
def c_impl_PairsOf : AC := seq (reg [⟨(some 1), box 2 (t 0), none⟩, ⟨(some 2), mv (c (.sl [] true)), none⟩, ⟨(some 3), mv (c (.int .i64 0)), none⟩]) (seq (seq (reg [⟨(some 4), ld (t 1) 2 true, none⟩, ⟨(some 5), callq (c (.fn 36 [])) [t 4], none⟩, ⟨(some 6), un .not (t 5), none⟩]) (cond (t 6) (seq (reg [⟨(some 2), mv (c (.sl [] true)), none⟩, ⟨(some 3), mv (c (.int .i64 1)), none⟩]) (ret)) (skip))) (seq (reg [⟨(some 7), ld (t 1) 2 true, none⟩, ⟨(some 8), calle (c (.fn 81 [])) [t 7] [], none⟩, ⟨(some 2), mv (t 8), none⟩, ⟨(some 3), mv (c (.int .i64 0)), none⟩]) (ret)))
def r_impl_PairsOf : List ARes := [.tmp 2, .tmp 3]
theorem k_impl_PairsOf : acLin Go.Proofs.Tryd.prog 30 1 (inQ [36] [81]) [] = some (c_impl_PairsOf, r_impl_PairsOf) := by kernel_rfl
def c_impl_GraphOf_1 : AC := seq (reg [⟨(some 2), box 2 (t 0), none⟩, ⟨(some 3), mv (c (.bool false)), none⟩]) (seq (reg [⟨(some 4), ld (t 1) 1 false, none⟩, ⟨(some 5), fad (t 2) 0, none⟩, ⟨(some 6), ld (t 5) 1 false, none⟩, ⟨(some 7), fad (t 2) 1, none⟩, ⟨(some 8), ld (t 7) 1 false, none⟩, ⟨(some 9), callq (c (.fn 85 [])) [t 4, t 6, t 8], none⟩, ⟨(some 10), un .not (t 9), none⟩, ⟨(some 3), mv (t 10), none⟩]) (ret))
def r_impl_GraphOf_1 : List ARes := [.tmp 3]
theorem k_impl_GraphOf_1 : acLin Go.Proofs.Tryd.prog 84 2 (inQ [85] []) [] = some (c_impl_GraphOf_1, r_impl_GraphOf_1) := by kernel_rfl
def c_slices_IndexFunc_S_2_int64_2_int64 : AC := seq (reg [⟨(some 4), mv (c (.int .i64 0)), none⟩]) (seq (seq (reg [⟨(some 6), mv (t 0), none⟩, ⟨(some 7), len (t 6), none⟩, ⟨(some 8), mv (c (.int .i64 0)), none⟩]) (block 0 (loop (seq (reg [⟨(some 9), bin .lss (t 8) (t 7), none⟩]) (seq (cond (t 9) (skip) (exit 0)) (seq (block 1 (seq (reg [⟨(some 10), mv (t 8), none⟩, ⟨(some 5), mv (t 10), none⟩]) (seq (reg [⟨(some 11), mv (t 1), none⟩, ⟨(some 12), mv (t 0), none⟩, ⟨(some 13), mv (t 5), none⟩, ⟨(some 14), iad 2 (t 12) (t 13), none⟩, ⟨(some 15), ld (t 14) 2 true, none⟩, ⟨(some 16), call (t 11) [t 15], none⟩]) (cond (t 16) (seq (reg [⟨(some 17), mv (t 5), none⟩, ⟨(some 4), mv (t 17), none⟩]) (ret)) (skip))))) (reg [⟨(some 18), bin .add (t 8) (c (.int .i64 1)), none⟩, ⟨(some 8), mv (t 18), none⟩]))))))) (seq (reg [⟨(some 4), mv (c (.int .i64 (-1))), none⟩]) (ret)))
def r_slices_IndexFunc_S_2_int64_2_int64 : List ARes := [.tmp 4]
theorem k_slices_IndexFunc_S_2_int64_2_int64 : acLin Go.Proofs.Tryd.prog 124 2 (inQ [] []) [] = some (c_slices_IndexFunc_S_2_int64_2_int64, r_slices_IndexFunc_S_2_int64_2_int64) := by kernel_rfl
def c_slices_ContainsFunc_S_2_int64_2_int64 : AC := seq (reg [⟨(some 4), mv (c (.bool false)), none⟩]) (seq (reg [⟨(some 5), mv (t 0), none⟩, ⟨(some 6), mv (t 1), none⟩, ⟨(some 7), calle (c (.fn 124 [])) [t 5, t 6] [], none⟩, ⟨(some 8), bin .geq (t 7) (c (.int .i64 0)), none⟩, ⟨(some 4), mv (t 8), none⟩]) (ret))
def r_slices_ContainsFunc_S_2_int64_2_int64 : List ARes := [.tmp 4]
theorem k_slices_ContainsFunc_S_2_int64_2_int64 : acLin Go.Proofs.Tryd.prog 83 2 (inQ [] [124]) [] = some (c_slices_ContainsFunc_S_2_int64_2_int64, r_slices_ContainsFunc_S_2_int64_2_int64) := by kernel_rfl
def c_impl_GraphOf : AC := seq (reg [⟨(some 2), box 1 (t 0), none⟩, ⟨(some 4), alloc [.int .i64 0, .int .u32 0], none⟩, ⟨(some 5), mv (c (.int .i64 0)), none⟩]) (seq (seq (reg [⟨(some 9), ld (t 2) 1 false, none⟩, ⟨(some 10), callq (c (.fn 82 [])) [t 9], none⟩, ⟨(some 11), un .not (t 10), none⟩, ⟨(some 12), mv (t 11), none⟩, ⟨(some 13), mv (t 1), some (12, false)⟩, ⟨(some 14), mkf 84 [t 2], some (12, false)⟩, ⟨(some 15), calle (c (.fn 83 [])) [t 13, t 14] [], some (12, false)⟩, ⟨(some 16), pick (t 12) (c (.bool true)) (t 15), none⟩]) (cond (t 16) (seq (reg [⟨(some 17), bld [.int .i64 0, .int .u32 0] [], none⟩, ⟨none, st (t 4) 2 (t 17), none⟩, ⟨(some 5), mv (c (.int .i64 2)), none⟩]) (ret)) (skip))) (seq (reg [⟨(some 18), ld (t 2) 1 false, none⟩, ⟨(some 19), bld [.int .i64 0, .int .u32 0] [(0, 1, t 18)], none⟩, ⟨(some 6), alloc [.int .i64 0, .int .u32 0], none⟩, ⟨none, st (t 6) 2 (t 19), none⟩]) (seq (seq (reg [⟨(some 20), mv (t 1), none⟩, ⟨(some 21), len (t 20), none⟩, ⟨(some 22), mv (c (.int .i64 0)), none⟩]) (block 0 (loop (seq (reg [⟨(some 23), bin .lss (t 22) (t 21), none⟩]) (seq (cond (t 23) (skip) (exit 0)) (seq (block 1 (seq (reg [⟨(some 24), iad 2 (t 20) (t 22), none⟩, ⟨(some 25), ld (t 24) 2 true, none⟩, ⟨(some 8), alloc [.int .i64 0, .int .i64 0], none⟩, ⟨none, st (t 8) 2 (t 25), none⟩]) (reg [⟨(some 26), fad (t 6) 1, none⟩, ⟨(some 27), ld (t 26) 1 false, none⟩, ⟨(some 28), fad (t 8) 0, none⟩, ⟨(some 29), ld (t 28) 1 false, none⟩, ⟨(some 30), fad (t 8) 1, none⟩, ⟨(some 31), ld (t 30) 1 false, none⟩, ⟨(some 32), callq (c (.fn 86 [])) [t 29, t 31], none⟩, ⟨(some 33), bin .or (t 27) (t 32), none⟩, ⟨(some 34), fad (t 6) 1, none⟩, ⟨none, st (t 34) 1 (t 33), none⟩]))) (reg [⟨(some 35), bin .add (t 22) (c (.int .i64 1)), none⟩, ⟨(some 22), mv (t 35), none⟩]))))))) (seq (reg [⟨(some 36), ld (t 6) 2 true, none⟩, ⟨none, st (t 4) 2 (t 36), none⟩, ⟨(some 5), mv (c (.int .i64 0)), none⟩]) (ret)))))
def r_impl_GraphOf : List ARes := [.cell 4 2 true, .tmp 5]
theorem k_impl_GraphOf : acLin Go.Proofs.Tryd.prog 31 2 (inQ [82, 86] [83]) [⟨false, none, [], [], none⟩, ⟨false, none, [], [], none⟩, ⟨false, none, [], [], none⟩, ⟨false, none, [], [], none⟩, ⟨false, none, [], [], none⟩, ⟨false, none, [], [], none⟩, ⟨false, none, [], [], none⟩, ⟨false, none, [], [], none⟩, ⟨false, none, [], [], none⟩, ⟨false, some [0, 1, 2, 3, 4, 5, 6, 7, 8, 9], [], [], none⟩] = some (c_impl_GraphOf, r_impl_GraphOf) := by kernel_rfl
def c_impl_OppositeGraph : AC := seq (reg [⟨(some 1), box 2 (t 0), none⟩, ⟨(some 2), alloc [.int .i64 0, .int .u32 0], none⟩, ⟨(some 3), mv (c (.int .i64 0)), none⟩]) (seq (seq (reg [⟨(some 4), ld (t 1) 2 true, none⟩, ⟨(some 5), callq (c (.fn 36 [])) [t 4], none⟩, ⟨(some 6), un .not (t 5), none⟩]) (cond (t 6) (seq (reg [⟨(some 7), bld [.int .i64 0, .int .u32 0] [], none⟩, ⟨none, st (t 2) 2 (t 7), none⟩, ⟨(some 3), mv (c (.int .i64 1)), none⟩]) (ret)) (skip))) (seq (reg [⟨(some 8), ld (t 1) 2 true, none⟩, ⟨(some 9), callq (c (.fn 89 [])) [t 8], none⟩, ⟨none, st (t 2) 2 (t 9), none⟩, ⟨(some 3), mv (c (.int .i64 0)), none⟩]) (ret)))
def r_impl_OppositeGraph : List ARes := [.cell 2 2 true, .tmp 3]
theorem k_impl_OppositeGraph : acLin Go.Proofs.Tryd.prog 34 1 (inQ [36, 89] []) [] = some (c_impl_OppositeGraph, r_impl_OppositeGraph) := by kernel_rfl
def c_impl_DegreesOf : AC := seq (reg [⟨(some 1), box 2 (t 0), none⟩, ⟨(some 2), mv (c (.sl [] true)), none⟩, ⟨(some 3), mv (c (.int .i64 0)), none⟩]) (seq (seq (reg [⟨(some 7), ld (t 1) 2 true, none⟩, ⟨(some 8), callq (c (.fn 36 [])) [t 7], none⟩, ⟨(some 9), un .not (t 8), none⟩]) (cond (t 9) (seq (reg [⟨(some 2), mv (c (.sl [] true)), none⟩, ⟨(some 3), mv (c (.int .i64 1)), none⟩]) (ret)) (skip))) (seq (reg [⟨(some 10), fad (t 1) 0, none⟩, ⟨(some 11), ld (t 10) 1 false, none⟩, ⟨(some 12), mks 1 8 [.int .i64 0] (t 11) (t 11), none⟩, ⟨(some 4), mv (t 12), none⟩]) (seq (seq (reg [⟨(some 13), ld (t 1) 2 true, none⟩, ⟨(some 14), calle (c (.fn 81 [])) [t 13] [], none⟩, ⟨(some 15), len (t 14), none⟩, ⟨(some 16), mv (c (.int .i64 0)), none⟩]) (block 0 (loop (seq (reg [⟨(some 17), bin .lss (t 16) (t 15), none⟩]) (seq (cond (t 17) (skip) (exit 0)) (seq (block 1 (seq (reg [⟨(some 18), iad 2 (t 14) (t 16), none⟩, ⟨(some 19), ld (t 18) 2 true, none⟩, ⟨(some 6), alloc [.int .i64 0, .int .i64 0], none⟩, ⟨none, st (t 6) 2 (t 19), none⟩]) (seq (reg [⟨(some 20), mv (t 4), none⟩, ⟨(some 21), fad (t 6) 0, none⟩, ⟨(some 22), ld (t 21) 1 false, none⟩, ⟨(some 23), iad 1 (t 20) (t 22), none⟩, ⟨(some 24), ld (t 23) 1 false, none⟩, ⟨(some 25), bin .add (t 24) (c (.int .i64 1)), none⟩, ⟨(some 26), iad 1 (t 20) (t 22), none⟩, ⟨none, st (t 26) 1 (t 25), none⟩]) (reg [⟨(some 27), mv (t 4), none⟩, ⟨(some 28), fad (t 6) 1, none⟩, ⟨(some 29), ld (t 28) 1 false, none⟩, ⟨(some 30), iad 1 (t 27) (t 29), none⟩, ⟨(some 31), ld (t 30) 1 false, none⟩, ⟨(some 32), bin .add (t 31) (c (.int .i64 1)), none⟩, ⟨(some 33), iad 1 (t 27) (t 29), none⟩, ⟨none, st (t 33) 1 (t 32), none⟩])))) (reg [⟨(some 34), bin .add (t 16) (c (.int .i64 1)), none⟩, ⟨(some 16), mv (t 34), none⟩]))))))) (seq (reg [⟨(some 35), mv (t 4), none⟩, ⟨(some 2), mv (t 35), none⟩, ⟨(some 3), mv (c (.int .i64 0)), none⟩]) (ret)))))
def r_impl_DegreesOf : List ARes := [.tmp 2, .tmp 3]
theorem k_impl_DegreesOf : acLin Go.Proofs.Tryd.prog 35 1 (inQ [36] [81]) [] = some (c_impl_DegreesOf, r_impl_DegreesOf) := by kernel_rfl
def c_impl_HasEdge : AC := seq (reg [⟨(some 3), box 2 (t 0), none⟩, ⟨(some 6), mv (c (.bool false)), none⟩, ⟨(some 7), mv (c (.int .i64 0)), none⟩]) (seq (block 0 (seq (reg [⟨(some 9), ld (t 3) 2 true, none⟩, ⟨(some 10), callq (c (.fn 36 [])) [t 9], none⟩, ⟨(some 11), un .not (t 10), none⟩, ⟨(some 8), mv (t 11), none⟩]) (cond (t 8) (seq (reg [⟨(some 6), mv (c (.bool false)), none⟩, ⟨(some 7), mv (c (.int .i64 1)), none⟩]) (ret)) (seq (reg [⟨(some 13), fad (t 3) 0, none⟩, ⟨(some 14), ld (t 13) 1 false, none⟩, ⟨(some 15), mv (t 1), none⟩, ⟨(some 16), mv (t 2), none⟩, ⟨(some 17), callq (c (.fn 85 [])) [t 14, t 15, t 16], none⟩, ⟨(some 18), un .not (t 17), none⟩, ⟨(some 12), mv (t 18), none⟩]) (cond (t 12) (seq (reg [⟨(some 6), mv (c (.bool false)), none⟩, ⟨(some 7), mv (c (.int .i64 2)), none⟩]) (ret)) (skip)))))) (seq (reg [⟨(some 19), ld (t 3) 2 true, none⟩, ⟨(some 20), mv (t 1), none⟩, ⟨(some 21), mv (t 2), none⟩, ⟨(some 22), callq (c (.fn 91 [])) [t 19, t 20, t 21], none⟩, ⟨(some 6), mv (t 22), none⟩, ⟨(some 7), mv (c (.int .i64 0)), none⟩]) (ret)))
def r_impl_HasEdge : List ARes := [.tmp 6, .tmp 7]
theorem k_impl_HasEdge : acLin Go.Proofs.Tryd.prog 37 3 (inQ [36, 85, 91] []) [] = some (c_impl_HasEdge, r_impl_HasEdge) := by kernel_rfl
def c_impl_WithEdge : AC := seq (reg [⟨(some 4), box 2 (t 0), none⟩, ⟨(some 8), alloc [.int .i64 0, .int .u32 0], none⟩, ⟨(some 9), mv (c (.int .i64 0)), none⟩]) (seq (block 0 (seq (reg [⟨(some 11), ld (t 4) 2 true, none⟩, ⟨(some 12), callq (c (.fn 36 [])) [t 11], none⟩, ⟨(some 13), un .not (t 12), none⟩, ⟨(some 10), mv (t 13), none⟩]) (cond (t 10) (seq (reg [⟨(some 14), bld [.int .i64 0, .int .u32 0] [], none⟩, ⟨none, st (t 8) 2 (t 14), none⟩, ⟨(some 9), mv (c (.int .i64 1)), none⟩]) (ret)) (seq (reg [⟨(some 16), fad (t 4) 0, none⟩, ⟨(some 17), ld (t 16) 1 false, none⟩, ⟨(some 18), mv (t 1), none⟩, ⟨(some 19), mv (t 2), none⟩, ⟨(some 20), callq (c (.fn 85 [])) [t 17, t 18, t 19], none⟩, ⟨(some 21), un .not (t 20), none⟩, ⟨(some 15), mv (t 21), none⟩]) (cond (t 15) (seq (reg [⟨(some 22), bld [.int .i64 0, .int .u32 0] [], none⟩, ⟨none, st (t 8) 2 (t 22), none⟩, ⟨(some 9), mv (c (.int .i64 2)), none⟩]) (ret)) (skip)))))) (seq (reg [⟨(some 23), fad (t 4) 1, none⟩, ⟨(some 24), ld (t 23) 1 false, none⟩, ⟨(some 25), mv (t 1), none⟩, ⟨(some 26), mv (t 2), none⟩, ⟨(some 27), callq (c (.fn 86 [])) [t 25, t 26], none⟩, ⟨(some 28), bin .andNot (t 24) (t 27), none⟩, ⟨(some 29), fad (t 4) 1, none⟩, ⟨none, st (t 29) 1 (t 28), none⟩]) (seq (seq (reg [⟨(some 30), mv (t 3), none⟩]) (cond (t 30) (reg [⟨(some 31), fad (t 4) 1, none⟩, ⟨(some 32), ld (t 31) 1 false, none⟩, ⟨(some 33), mv (t 1), none⟩, ⟨(some 34), mv (t 2), none⟩, ⟨(some 35), callq (c (.fn 86 [])) [t 33, t 34], none⟩, ⟨(some 36), bin .or (t 32) (t 35), none⟩, ⟨(some 37), fad (t 4) 1, none⟩, ⟨none, st (t 37) 1 (t 36), none⟩]) (skip))) (seq (reg [⟨(some 38), ld (t 4) 2 true, none⟩, ⟨none, st (t 8) 2 (t 38), none⟩, ⟨(some 9), mv (c (.int .i64 0)), none⟩]) (ret)))))
def r_impl_WithEdge : List ARes := [.cell 8 2 true, .tmp 9]
theorem k_impl_WithEdge : acLin Go.Proofs.Tryd.prog 38 4 (inQ [36, 85, 86] []) [⟨false, none, [], [], none⟩, ⟨false, none, [], [], none⟩, ⟨false, none, [], [], none⟩, ⟨false, none, [], [], none⟩, ⟨false, none, [], [], none⟩, ⟨false, none, [], [], none⟩, ⟨false, none, [], [], none⟩, ⟨false, some [0, 1, 2, 3, 4, 5, 6, 7], [], [], none⟩, ⟨false, none, [], [], none⟩, ⟨false, some [0, 1, 2, 3, 4, 5, 6, 7], [], [], none⟩] = some (c_impl_WithEdge, r_impl_WithEdge) := by kernel_rfl
def c_laws_FnEdges : AC := seq (reg [⟨(some 4), mv (c (.bool false)), none⟩]) (seq (seq (reg [⟨(some 31), mv (t 0), none⟩, ⟨(some 32), mv (t 1), none⟩, ⟨(some 33), callq (c (.fn 15 [])) [t 31, t 32], none⟩]) (cond (t 33) (seq (reg [⟨(some 4), mv (c (.bool true)), none⟩]) (ret)) (skip))) (seq (reg [⟨(some 34), mv (t 0), none⟩, ⟨(some 35), mv (t 1), none⟩, ⟨(some 36), callq (c (.fn 29 [])) [t 35, c (.int .i64 0), c (.int .i64 6)], none⟩, ⟨(some 37), callq (c (.fn 28 [])) [t 34, t 36], none⟩, ⟨(some 5), alloc [.int .i64 0, .int .u32 0], none⟩, ⟨none, st (t 5) 2 (t 37), none⟩]) (seq (reg [⟨(some 39), ld (t 5) 2 true, none⟩, ⟨(some 40), calle (c (.fn 30 [])) [t 39] [], none⟩, ⟨(some 38), mv (t 40), none⟩, ⟨(some 41), ext (t 38) 0, none⟩, ⟨(some 42), ext (t 38) 1, none⟩, ⟨(some 6), mv (t 41), none⟩, ⟨(some 7), mv (t 42), none⟩]) (seq (reg [⟨(some 44), fad (t 5) 0, none⟩, ⟨(some 45), ld (t 44) 1 false, none⟩, ⟨(some 46), mv (t 6), none⟩, ⟨(some 47), calle (c (.fn 31 [])) [t 45, t 46] [], none⟩, ⟨(some 43), mv (t 47), none⟩, ⟨(some 48), ext (t 43) 0, none⟩, ⟨(some 49), ext (t 43) 1, none⟩, ⟨(some 8), alloc [.int .i64 0, .int .u32 0], none⟩, ⟨none, st (t 8) 2 (t 48), none⟩, ⟨(some 9), mv (t 49), none⟩]) (seq (reg [⟨(some 51), ld (t 5) 2 true, none⟩, ⟨(some 52), callq (c (.fn 33 [])) [t 51], none⟩, ⟨(some 53), callq (c (.fn 32 [])) [t 52], none⟩, ⟨(some 50), mv (t 53), none⟩, ⟨(some 54), ext (t 50) 0, none⟩, ⟨(some 55), ext (t 50) 1, none⟩, ⟨(some 10), alloc [.int .i64 0, .int .u32 0], none⟩, ⟨none, st (t 10) 2 (t 54), none⟩, ⟨(some 11), mv (t 55), none⟩]) (seq (reg [⟨(some 57), ld (t 5) 2 true, none⟩, ⟨(some 58), callq (c (.fn 34 [])) [t 57], none⟩, ⟨(some 56), mv (t 58), none⟩, ⟨(some 59), ext (t 56) 0, none⟩, ⟨(some 60), ext (t 56) 1, none⟩, ⟨(some 12), alloc [.int .i64 0, .int .u32 0], none⟩, ⟨none, st (t 12) 2 (t 59), none⟩, ⟨(some 13), mv (t 60), none⟩]) (seq (reg [⟨(some 62), ld (t 5) 2 true, none⟩, ⟨(some 63), calle (c (.fn 35 [])) [t 62] [], none⟩, ⟨(some 61), mv (t 63), none⟩, ⟨(some 64), ext (t 61) 0, none⟩, ⟨(some 65), ext (t 61) 1, none⟩, ⟨(some 14), mv (t 64), none⟩, ⟨(some 15), mv (t 65), none⟩]) (seq (seq (reg [⟨(some 66), mv (t 7), none⟩, ⟨(some 67), bin .neq (t 66) (c (.int .i64 0)), none⟩, ⟨(some 68), mv (t 67), none⟩, ⟨(some 69), mv (t 9), some (68, false)⟩, ⟨(some 70), bin .neq (t 69) (c (.int .i64 0)), some (68, false)⟩, ⟨(some 71), pick (t 68) (c (.bool true)) (t 70), none⟩, ⟨(some 72), mv (t 71), none⟩, ⟨(some 73), ld (t 8) 2 true, some (72, false)⟩, ⟨(some 74), ld (t 5) 2 true, some (72, false)⟩, ⟨(some 75), eqs true [.i .i64, .i .u32] (t 73) (t 74), some (72, false)⟩, ⟨(some 76), pick (t 72) (c (.bool true)) (t 75), none⟩, ⟨(some 77), mv (t 76), none⟩, ⟨(some 78), mv (t 11), some (77, false)⟩, ⟨(some 79), bin .neq (t 78) (c (.int .i64 0)), some (77, false)⟩, ⟨(some 80), pick (t 77) (c (.bool true)) (t 79), none⟩, ⟨(some 81), mv (t 80), none⟩, ⟨(some 82), ld (t 10) 2 true, some (81, false)⟩, ⟨(some 83), ld (t 5) 2 true, some (81, false)⟩, ⟨(some 84), eqs true [.i .i64, .i .u32] (t 82) (t 83), some (81, false)⟩, ⟨(some 85), pick (t 81) (c (.bool true)) (t 84), none⟩, ⟨(some 86), mv (t 85), none⟩, ⟨(some 87), mv (t 13), some (86, false)⟩, ⟨(some 88), bin .neq (t 87) (c (.int .i64 0)), some (86, false)⟩, ⟨(some 89), pick (t 86) (c (.bool true)) (t 88), none⟩, ⟨(some 90), mv (t 89), none⟩, ⟨(some 91), mv (t 15), some (90, false)⟩, ⟨(some 92), bin .neq (t 91) (c (.int .i64 0)), some (90, false)⟩, ⟨(some 93), pick (t 90) (c (.bool true)) (t 92), none⟩, ⟨(some 94), mv (t 93), none⟩, ⟨(some 95), mv (t 14), some (94, false)⟩, ⟨(some 96), len (t 95), some (94, false)⟩, ⟨(some 97), fad (t 5) 0, some (94, false)⟩, ⟨(some 98), ld (t 97) 1 false, some (94, false)⟩, ⟨(some 99), bin .neq (t 96) (t 98), some (94, false)⟩, ⟨(some 100), pick (t 94) (c (.bool true)) (t 99), none⟩, ⟨(some 101), mv (t 100), none⟩, ⟨(some 102), ld (t 5) 2 true, some (101, false)⟩, ⟨(some 103), callq (c (.fn 36 [])) [t 102], some (101, false)⟩, ⟨(some 104), un .not (t 103), some (101, false)⟩, ⟨(some 105), pick (t 101) (c (.bool true)) (t 104), none⟩]) (cond (t 105) (seq (reg [⟨(some 4), mv (c (.bool false)), none⟩]) (ret)) (skip))) (seq (reg [⟨(some 16), mv (c (.int .i64 0)), none⟩]) (seq (seq (reg [⟨(some 17), mv (c (.int .i64 0)), none⟩]) (block 0 (loop (seq (seq (reg [⟨(some 106), mv (t 17), none⟩, ⟨(some 107), fad (t 5) 0, none⟩, ⟨(some 108), ld (t 107) 1 false, none⟩, ⟨(some 109), bin .lss (t 106) (t 108), none⟩]) (cond (t 109) (skip) (exit 0))) (seq (block 1 (seq (reg [⟨(some 112), mv (t 16), none⟩, ⟨(some 113), mv (t 14), none⟩, ⟨(some 114), mv (t 17), none⟩, ⟨(some 115), iad 1 (t 113) (t 114), none⟩, ⟨(some 116), ld (t 115) 1 false, none⟩, ⟨(some 117), bin .add (t 112) (t 116), none⟩, ⟨(some 16), mv (t 117), none⟩]) (seq (reg [⟨(some 18), mv (c (.int .i64 0)), none⟩]) (block 2 (loop (seq (seq (reg [⟨(some 118), mv (t 18), none⟩, ⟨(some 119), fad (t 5) 0, none⟩, ⟨(some 120), ld (t 119) 1 false, none⟩, ⟨(some 121), bin .lss (t 118) (t 120), none⟩]) (cond (t 121) (skip) (exit 2))) (seq (block 3 (seq (seq (reg [⟨(some 124), mv (t 17), none⟩, ⟨(some 125), mv (t 18), none⟩, ⟨(some 126), bin .eql (t 124) (t 125), none⟩]) (cond (t 126) (exit 3) (skip))) (seq (reg [⟨(some 128), ld (t 5) 2 true, none⟩, ⟨(some 129), mv (t 17), none⟩, ⟨(some 130), mv (t 18), none⟩, ⟨(some 131), callq (c (.fn 37 [])) [t 128, t 129, t 130], none⟩, ⟨(some 127), mv (t 131), none⟩, ⟨(some 132), ext (t 127) 0, none⟩, ⟨(some 133), ext (t 127) 1, none⟩, ⟨(some 19), mv (t 132), none⟩, ⟨(some 20), mv (t 133), none⟩]) (seq (reg [⟨(some 135), ld (t 12) 2 true, none⟩, ⟨(some 136), mv (t 18), none⟩, ⟨(some 137), mv (t 17), none⟩, ⟨(some 138), callq (c (.fn 37 [])) [t 135, t 136, t 137], none⟩, ⟨(some 134), mv (t 138), none⟩, ⟨(some 139), ext (t 134) 0, none⟩, ⟨(some 140), ext (t 134) 1, none⟩, ⟨(some 21), mv (t 139), none⟩, ⟨(some 22), mv (t 140), none⟩]) (seq (reg [⟨(some 142), ld (t 5) 2 true, none⟩, ⟨(some 143), mv (t 17), none⟩, ⟨(some 144), mv (t 18), none⟩, ⟨(some 145), callq (c (.fn 38 [])) [t 142, t 143, t 144, c (.bool true)], none⟩, ⟨(some 141), mv (t 145), none⟩, ⟨(some 146), ext (t 141) 0, none⟩, ⟨(some 147), ext (t 141) 1, none⟩, ⟨(some 23), alloc [.int .i64 0, .int .u32 0], none⟩, ⟨none, st (t 23) 2 (t 146), none⟩, ⟨(some 24), mv (t 147), none⟩]) (seq (reg [⟨(some 149), ld (t 23) 2 true, none⟩, ⟨(some 150), mv (t 18), none⟩, ⟨(some 151), mv (t 17), none⟩, ⟨(some 152), callq (c (.fn 38 [])) [t 149, t 150, t 151, c (.bool false)], none⟩, ⟨(some 148), mv (t 152), none⟩, ⟨(some 153), ext (t 148) 0, none⟩, ⟨(some 154), ext (t 148) 1, none⟩, ⟨(some 25), alloc [.int .i64 0, .int .u32 0], none⟩, ⟨none, st (t 25) 2 (t 153), none⟩, ⟨(some 26), mv (t 154), none⟩]) (seq (reg [⟨(some 156), ld (t 23) 2 true, none⟩, ⟨(some 157), mv (t 17), none⟩, ⟨(some 158), mv (t 18), none⟩, ⟨(some 159), callq (c (.fn 37 [])) [t 156, t 157, t 158], none⟩, ⟨(some 155), mv (t 159), none⟩, ⟨(some 160), ext (t 155) 0, none⟩, ⟨(some 161), ext (t 155) 1, none⟩, ⟨(some 27), mv (t 160), none⟩, ⟨(some 28), mv (t 161), none⟩]) (seq (reg [⟨(some 163), ld (t 25) 2 true, none⟩, ⟨(some 164), mv (t 17), none⟩, ⟨(some 165), mv (t 18), none⟩, ⟨(some 166), callq (c (.fn 37 [])) [t 163, t 164, t 165], none⟩, ⟨(some 162), mv (t 166), none⟩, ⟨(some 167), ext (t 162) 0, none⟩, ⟨(some 168), ext (t 162) 1, none⟩, ⟨(some 29), mv (t 167), none⟩, ⟨(some 30), mv (t 168), none⟩]) (seq (reg [⟨(some 169), mv (t 20), none⟩, ⟨(some 170), bin .neq (t 169) (c (.int .i64 0)), none⟩, ⟨(some 171), mv (t 170), none⟩, ⟨(some 172), mv (t 22), some (171, false)⟩, ⟨(some 173), bin .neq (t 172) (c (.int .i64 0)), some (171, false)⟩, ⟨(some 174), pick (t 171) (c (.bool true)) (t 173), none⟩, ⟨(some 175), mv (t 174), none⟩, ⟨(some 176), mv (t 19), some (175, false)⟩, ⟨(some 177), mv (t 21), some (175, false)⟩, ⟨(some 178), eqb false (t 176) (t 177), some (175, false)⟩, ⟨(some 179), pick (t 175) (c (.bool true)) (t 178), none⟩, ⟨(some 180), mv (t 179), none⟩, ⟨(some 181), mv (t 24), some (180, false)⟩, ⟨(some 182), bin .neq (t 181) (c (.int .i64 0)), some (180, false)⟩, ⟨(some 183), pick (t 180) (c (.bool true)) (t 182), none⟩, ⟨(some 184), mv (t 183), none⟩, ⟨(some 185), mv (t 26), some (184, false)⟩, ⟨(some 186), bin .neq (t 185) (c (.int .i64 0)), some (184, false)⟩, ⟨(some 187), pick (t 184) (c (.bool true)) (t 186), none⟩, ⟨(some 188), mv (t 187), none⟩, ⟨(some 189), mv (t 28), some (188, false)⟩, ⟨(some 190), bin .neq (t 189) (c (.int .i64 0)), some (188, false)⟩, ⟨(some 191), pick (t 188) (c (.bool true)) (t 190), none⟩, ⟨(some 192), mv (t 191), none⟩, ⟨(some 193), mv (t 27), some (192, false)⟩, ⟨(some 194), un .not (t 193), some (192, false)⟩, ⟨(some 195), pick (t 192) (c (.bool true)) (t 194), none⟩, ⟨(some 196), mv (t 195), none⟩, ⟨(some 197), mv (t 30), some (196, false)⟩, ⟨(some 198), bin .neq (t 197) (c (.int .i64 0)), some (196, false)⟩, ⟨(some 199), pick (t 196) (c (.bool true)) (t 198), none⟩, ⟨(some 200), mv (t 199), none⟩, ⟨(some 201), mv (t 29), some (200, false)⟩, ⟨(some 202), pick (t 200) (c (.bool true)) (t 201), none⟩, ⟨(some 203), mv (t 202), none⟩, ⟨(some 204), mv (t 19), some (203, false)⟩, ⟨(some 205), mv (t 204), some (203, false)⟩, ⟨(some 206), ld (t 23) 2 true, some (205, true)⟩, ⟨(some 207), ld (t 5) 2 true, some (205, true)⟩, ⟨(some 208), eqs true [.i .i64, .i .u32] (t 206) (t 207), some (205, true)⟩, ⟨(some 209), pick (t 205) (t 208) (c (.bool false)), some (203, false)⟩, ⟨(some 210), pick (t 203) (c (.bool true)) (t 209), none⟩, ⟨(some 211), mv (t 210), none⟩, ⟨(some 212), mv (t 19), some (211, false)⟩, ⟨(some 213), un .not (t 212), some (211, false)⟩, ⟨(some 214), mv (t 213), some (211, false)⟩, ⟨(some 215), ld (t 25) 2 true, some (214, true)⟩, ⟨(some 216), ld (t 5) 2 true, some (214, true)⟩, ⟨(some 217), eqs true [.i .i64, .i .u32] (t 215) (t 216), some (214, true)⟩, ⟨(some 218), pick (t 214) (t 217) (c (.bool false)), some (211, false)⟩, ⟨(some 219), pick (t 211) (c (.bool true)) (t 218), none⟩]) (cond (t 219) (seq (reg [⟨(some 4), mv (c (.bool false)), none⟩]) (ret)) (skip))))))))))) (reg [⟨(some 122), mv (t 18), none⟩, ⟨(some 123), bin .add (t 122) (c (.int .i64 1)), none⟩, ⟨(some 18), mv (t 123), none⟩])))))))) (reg [⟨(some 110), mv (t 17), none⟩, ⟨(some 111), bin .add (t 110) (c (.int .i64 1)), none⟩, ⟨(some 17), mv (t 111), none⟩])))))) (seq (reg [⟨(some 220), mv (t 16), none⟩, ⟨(some 221), mv (t 6), none⟩, ⟨(some 222), len (t 221), none⟩, ⟨(some 223), bin .mul (c (.int .i64 2)) (t 222), none⟩, ⟨(some 224), bin .eql (t 220) (t 223), none⟩, ⟨(some 4), mv (t 224), none⟩]) (ret))))))))))))
def r_laws_FnEdges : List ARes := [.tmp 4]
theorem k_laws_FnEdges : acLin Go.Proofs.Tryd.prog 6 2 (inQ [15, 28, 29, 32, 33, 34, 36, 37, 38] [30, 31, 35]) [] = some (c_laws_FnEdges, r_laws_FnEdges) := by kernel_rfl
end Go.Proofs.YtgophedkejgedaaDoorAi
end

section
/- Contracts: drawn graphs. -/
namespace Go.Proofs.YtgophedkejgedaaDoorAi
open Go Go.RowKit
set_option linter.unusedVariables false
set_option linter.unusedSimpArgs false
set_option maxRecDepth 20000

noncomputable def sp_at6 : List AV → Option (AV) := pf (ι := (List Int)) (α := AV) (fun l => inB8 l) (fun l => [.sl (bysA l) false, .int .i64 0, .int .i64 6]) (fun l => .int .i64 ((byteAt l 0).tmod 6))
theorem sp_at6_eq (l : List Int) (h : inB8 l) : sp_at6 [.sl (bysA l) false, .int .i64 0, .int .i64 6] = some (.int .i64 ((byteAt l 0).tmod 6)) := by
  unfold sp_at6
  exact pf_eq (ι := (List Int)) (α := AV) l h (by rintro l' _ e; simp_all [Int.natCast_inj])
theorem q_laws_a2At : QP PP 29 sp_at6 := by
  refine QP_pf (fun l h => ?_) fun l h => ?_
  · exact ⟨by first | rfl | simp, by first | rfl | simp⟩
  replace h : inB8 l := h
  refine P_code Quiet.nil hmix k_laws_a2At rfl ?_ ?_
  · first | rfl | simp
  show wpc 0 PP _ c_laws_a2At (initSt [.sl (bysA l) false, .int .i64 0, .int .i64 6] .nil) (endP r_laws_a2At (.int .i64 ((byteAt l 0).tmod 6)))
  have hb := byteAt_in h 0
  have h1 := Int.tmod_nonneg (a := byteAt l 0) 6 (by omega)
  have h2 := Int.tmod_lt_of_pos (byteAt l 0) (b := 6) (by omega)
  have w1 : IntKind.wrap .i64 (byteAt l 0) = byteAt l 0 := wrapI64 (by omega) (by omega)
  have w2 : IntKind.wrap .i64 ((byteAt l 0).tmod 6) = (byteAt l 0).tmod 6 := wrapI64 (by omega) (by omega)
  by_cases c : 0 < l.length
  · have ci : ¬ (l.length : Int) ≤ 0 := by omega
    have ci2 : (0 : Int) < l.length := by omega
    have e : l[0] = byteAt l 0 := by unfold byteAt; rw [List.getElem?_eq_getElem c]; rfl
    have hne : l ≠ [] := fun h => by rw [h] at c; simp at c
    simp -dsimp -implicitDefEqProofs [c_laws_a2At, r_laws_a2At, c, ci, ci2, hne, e, w1, w2]
  · have ci : l = [] := List.eq_nil_of_length_eq_zero (by omega)
    subst ci
    have e : byteAt [] 0 = 0 := rfl
    simp -dsimp -implicitDefEqProofs [c_laws_a2At, r_laws_a2At, e]
def gB (n : Int) : Int := 2 ^ (pairsI n).toNat
def gq1 (l : List Int) (q : Src) (n : Int) : Src := pickQ l q (gB n)
def gq2 (l : List Int) (q : Src) (n : Int) : Src := pickQ l (gq1 l q n) 4
def go1 (l : List Int) (q : Src) (n : Int) : Bool := pickV l (gq1 l q n) 4 == 0
def gq3 (l : List Int) (q : Src) (n : Int) : Src := if go1 l q n = true then pickQ l (gq2 l q n) (gB n) else gq2 l q n
def gV (l : List Int) (q : Src) (n : Int) : Nat := (pickV l q (gB n)).toNat
def gW (l : List Int) (q : Src) (n : Int) : Nat := (pickV l (gq2 l q n) (gB n)).toNat
def gE (l : List Int) (q : Src) (n : Int) : Nat := if go1 l q n = true then gV l q n &&& gW l q n else gV l q n
theorem gB_in {n : Int} (hn : 0 ≤ n ∧ n ≤ 5) : 1 ≤ gB n ∧ gB n ≤ 1024 := by
  have h5 : n = 0 ∨ n = 1 ∨ n = 2 ∨ n = 3 ∨ n = 4 ∨ n = 5 := by omega
  unfold gB
  rcases h5 with rfl | rfl | rfl | rfl | rfl | rfl <;> decide
theorem gB_sh {n : Int} (hn : 0 ≤ n ∧ n ≤ 5) : IntKind.wrap .u64 (pairsI n) = pairsI n ∧ ¬ pairsI n < 0 ∧ IntKind.wrap .i64 (2 ^ min (pairsI n).toNat IntKind.i64.bits) = gB n := by
  have h5 : n = 0 ∨ n = 1 ∨ n = 2 ∨ n = 3 ∨ n = 4 ∨ n = 5 := by omega
  unfold gB
  rcases h5 with rfl | rfl | rfl | rfl | rfl | rfl <;> decide
theorem gE_ok {l : List Int} {q : Src} {k : Nat} (h : okQ l q k) {n : Int} (hn : 0 ≤ n ∧ n ≤ 5) : graphOk n (gE l q n) = true := by
  have hB := gB_in hn
  have h1 := pickV_in h (gB n) hB.1
  have hle : gE l q n ≤ gV l q n := by
    unfold gE; split
    · exact Nat.and_le_left
    · exact Nat.le_refl _
  have hV : (gV l q n : Int) < gB n := by unfold gV; omega
  unfold graphOk
  refine decide_eq_true ⟨hn, ?_⟩
  show ((gE l q n : Nat) : Int) < gB n
  omega
theorem andNN {a b : Nat} (ha : a < 1024) (hb : b < 1024) : IntKind.u32.wrap ((a % 2 ^ IntKind.u32.bits &&& b % 2 ^ IntKind.u32.bits : Nat) : Int) = ((a &&& b : Nat) : Int) := by
  have e1 : a % 2 ^ IntKind.u32.bits = a := Nat.mod_eq_of_lt (by simp only [IntKind.bits]; omega)
  have e2 : b % 2 ^ IntKind.u32.bits = b := Nat.mod_eq_of_lt (by simp only [IntKind.bits]; omega)
  rw [e1, e2]
  have : a &&& b ≤ a := Nat.and_le_left
  exact wrap32 (by omega) (by omega)
noncomputable def sp_gdrawn : List AV → List AV → Option (AV × List AV) := pm (pf (ι := (List Int) × (Nat) × (Int) × (Int)) (α := AV × List AV) (fun ⟨l, a, sd, n⟩ => okQ l (a, sd) 1000 ∧ 0 ≤ n ∧ n ≤ 5) (fun i => .agg ((fun ⟨l, a, sd, n⟩ => [.sl (bysA l) false, .int .i64 a, .int .u64 sd] : (List Int) × (Nat) × (Int) × (Int) → List AV) i) :: (fun ⟨l, a, sd, n⟩ => [.int .i64 n] : (List Int) × (Nat) × (Int) × (Int) → List AV) i) (fun ⟨l, a, sd, n⟩ => (.agg [.int .i64 n, .int .u32 (gE l (a, sd) n)], [.sl (bysA l) false, .int .i64 ((gq3 l (a, sd) n).1 : Int), .int .u64 (gq3 l (a, sd) n).2])))
theorem sp_gdrawn_eq (l : List Int) (a : Nat) (sd n : Int) (h : okQ l (a, sd) 1000 ∧ 0 ≤ n ∧ n ≤ 5) : sp_gdrawn [.sl (bysA l) false, .int .i64 a, .int .u64 sd] [.int .i64 n] = some (.agg [.int .i64 n, .int .u32 (gE l (a, sd) n)], [.sl (bysA l) false, .int .i64 ((gq3 l (a, sd) n).1 : Int), .int .u64 (gq3 l (a, sd) n).2]) := by
  unfold sp_gdrawn pm
  exact pf_eq (ι := (List Int) × (Nat) × (Int) × (Int)) (α := AV × List AV) (l, a, sd, n) h (by rintro ⟨l', a', sd', n'⟩ _ e; simp_all [Int.natCast_inj])
set_option maxHeartbeats 4000000 in
theorem m_spec_l01Drawn : QM PP 80 sp_gdrawn := by
  refine QM_pf (fun i h => ?_) fun i h => ?_
  · obtain ⟨l, a, sd, n⟩ := i; exact ⟨⟨by first | rfl | simp, by first | rfl | simp⟩, by first | rfl | simp, by first | rfl | simp⟩
  obtain ⟨l, a, sd, n⟩ := i
  replace h : okQ l (a, sd) 1000 ∧ 0 ≤ n ∧ n ≤ 5 := h
  refine H_code (Quiet.q1 q_spec_l01Bits (Quiet.e1 m_spec_l00Src_pick.toE (Quiet.e1 m_spec_l00Src_one.toE Quiet.nil))) hmix k_spec_l01Drawn rfl (fun b => b) (Nat.le_refl _) (fun _ _ => rfl) rfl (by first | rfl | simp) ?_
  show wpc 1 PP _ c_spec_l01Drawn (initSt [.ptr 0 0, .int .i64 n] ⟨[some [.sl (bysA l) false, .int .i64 a, .int .u64 sd]]⟩) (endH (fun b => b) r_spec_l01Drawn (.agg [.int .i64 n, .int .u32 (gE l (a, sd) n)]) [some [.sl (bysA l) false, .int .i64 ((gq3 l (a, sd) n).1 : Int), .int .u64 (gq3 l (a, sd) n).2]])
  obtain ⟨hq, hn⟩ := h
  have hB := gB_in hn
  have hq1 : okQ l (gq1 l (a, sd) n) 1002 := okQ_pick hq _
  have hq2 : okQ l (gq2 l (a, sd) n) 1004 := okQ_pick hq1 _
  have e1 := sp_pick_eq l a sd (gB n) ⟨okQ_le hq (by omega), by omega⟩
  have e2 := sp_oneq l (gq1 l (a, sd) n) 4 ⟨okQ_le hq1 (by omega), by omega⟩
  have e3 := sp_pickq l (gq2 l (a, sd) n) (gB n) ⟨okQ_le hq2 (by omega), by omega⟩
  have p1 := pickV_in hq (gB n) hB.1
  have p3 := pickV_in hq2 (gB n) hB.1
  have c1 : pickQ l (a, sd) (gB n) = gq1 l (a, sd) n := rfl
  have c2 : pickQ l (gq1 l (a, sd) n) 4 = gq2 l (a, sd) n := rfl
  have b1 : (pickV l (gq1 l (a, sd) n) 4 == 0) = go1 l (a, sd) n := rfl
  have v1 : pickV l (a, sd) (gB n) = (gV l (a, sd) n : Int) := by unfold gV; omega
  have v3 : pickV l (gq2 l (a, sd) n) (gB n) = (gW l (a, sd) n : Int) := by unfold gW; omega
  have d3 : gq3 l (a, sd) n = if go1 l (a, sd) n = true then pickQ l (gq2 l (a, sd) n) (gB n) else gq2 l (a, sd) n := rfl
  have dE : gE l (a, sd) n = if go1 l (a, sd) n = true then gV l (a, sd) n &&& gW l (a, sd) n else gV l (a, sd) n := rfl
  rw [v1] at p1 e1
  rw [v3] at p3 e3
  rw [c1] at e1
  rw [c2, b1] at e2
  clear c1 c2 b1 v1 v3
  generalize gq1 l (a, sd) n = q1 at *
  generalize gq2 l (a, sd) n = q2 at *
  generalize gq3 l (a, sd) n = q3 at *
  generalize gE l (a, sd) n = E at *
  generalize gV l (a, sd) n = V at *
  generalize gW l (a, sd) n = W at *
  have hpr := sp_pairs_eq n hn
  have w1 : IntKind.wrap .u32 (V : Int) = V := wrap32 (by omega) (by omega)
  have w2 : IntKind.wrap .u32 (W : Int) = W := wrap32 (by omega) (by omega)
  have ha := andNN (a := V) (b := W) (by omega) (by omega)
  have s1 : IntKind.wrap .u64 (pairsI n) = pairsI n := (gB_sh hn).1
  have s2 : ¬ pairsI n < 0 := (gB_sh hn).2.1
  have s3 : IntKind.wrap .i64 (2 ^ min (pairsI n).toNat IntKind.i64.bits) = gB n := (gB_sh hn).2.2
  generalize gB n = B at *
  cases o1 : go1 l (a, sd) n <;> rw [o1] at e2 d3 dE <;> simp only [Bool.false_eq_true, if_false, if_true] at d3 dE <;> subst d3 dE
  · simp -dsimp -implicitDefEqProofs [c_spec_l01Drawn, r_spec_l01Drawn, hpr, s1, s2, s3, e1, e2, e3, w1, w2, ha, hsub]
  · simp -dsimp -implicitDefEqProofs [c_spec_l01Drawn, r_spec_l01Drawn, hpr, s1, s2, s3, e1, e2, e3, w1, w2, ha, hsub]
end Go.Proofs.YtgophedkejgedaaDoorAi
end

section
/- Contracts: searching in lists of pairs; a graph of pairs; the pairs of a graph. -/
namespace Go.Proofs.YtgophedkejgedaaDoorAi
open Go Go.RowKit
set_option linter.unusedVariables false
set_option linter.unusedSimpArgs false
set_option maxRecDepth 20000

theorem T_indexP {g : FuncId} {t : Bool} {caps : List AV} {os : List (Option (List AV))} (f : Fr → Bool) (l : List Fr) (hl : l.length ≤ maxLen) (ho : ClosedH os) (hc : ltL os.length caps = true)
    (hf : ∀ x ∈ l, T PP g ([.agg [.int .i64 x.p, .int .i64 x.q]] ++ caps) ⟨os⟩ fun r A' => r = .bool (f x) ∧ A' = ⟨os⟩) :
    T PP 124 [.sl (frsA l) t, .fn g caps] ⟨os⟩ fun r A' => r = .int .i64 (idxF f l 0) ∧ A' = ⟨os⟩ := by
  refine H_code Quiet.nil hmix k_slices_IndexFunc_S_2_int64_2_int64 rfl (fun b => b) (Nat.le_refl _) (fun _ _ => rfl) (injB_id _) (by rfl) ?_
  show wpc os.length PP _ c_slices_IndexFunc_S_2_int64_2_int64 (initSt [.sl (frsA l) t, .fn g caps] ⟨os⟩) _
  simp only [maxLen] at hl
  simp -dsimp -implicitDefEqProofs [c_slices_IndexFunc_S_2_int64_2_int64, r_slices_IndexFunc_S_2_int64_2_int64]
  refine wpLoop_st (fun (i : Nat) => ⟨tl [(0, .sl (frsA l) t), (1, .fn g caps), (7, .int .i64 l.length), (8, .int .i64 i)], ⟨os⟩⟩) (fun i => i ≤ l.length ∧ idxF f (l.drop i) i = idxF f l 0) (fun i => l.length - i) 0 ⟨by omega, rfl⟩ (Sub.pre0 ho (by simp [hc])) ?_
  rintro i ⟨hi, hx⟩
  simp -dsimp -implicitDefEqProofs
  refine brW_of (fun h => ?_) (fun h => ?_) <;> simp only [decide_eq_true_eq, decide_eq_false_iff_not] at h
  · have hi' : i < l.length := by omega
    have hw := wrapNat (i := i) (by omega)
    simp -dsimp -implicitDefEqProofs [hi', hw]
    refine (hf l[i] (List.getElem_mem hi')).mono ?_
    rintro r A' ⟨rfl, rfl⟩
    rw [drop_cons hi', idxF] at hx
    cases hv : f l[i] with
    | false =>
      simp only [hv, Bool.false_eq_true, if_false] at hx
      simp -dsimp -implicitDefEqProofs [hw]
      exact .mk (i + 1) ⟨by omega, hx⟩ (by omega) (Sub.pre0 ho (by simp [hw, hc]))
    | true =>
      simp only [hv, if_true] at hx
      simp -dsimp -implicitDefEqProofs [← hx, hsub_all ho]
  · have : i = l.length := by omega
    subst this
    simp [idxF] at hx
    simp -dsimp -implicitDefEqProofs [← hx, hsub_all ho]
noncomputable def yesP (sp : List AV → AHeap → Option (AV × AHeap)) (caps : List AV) (A : AHeap) (x : Fr) : Bool := yesOf sp ([.agg [.int .i64 x.p, .int .i64 x.q]] ++ caps) A
open Classical in
noncomputable def spIdxP (g : FuncId) (sp : List AV → AHeap → Option (AV × AHeap)) : List AV → AHeap → Option (AV × AHeap)
  | [.sl xs t, .fn g' caps], A => if h : g' = g ∧ ∃ l : List Fr, xs = frsA l ∧ l.length ≤ maxLen ∧ ∀ x ∈ l, sp ([.agg [.int .i64 x.p, .int .i64 x.q]] ++ caps) A = some (.bool (yesP sp caps A x), A)
      then some (.int .i64 (idxF (yesP sp caps A) h.2.choose 0), A) else none
  | _, _ => none
theorem spIdxP_eq {t : Bool} {g : FuncId} {sp : List AV → AHeap → Option (AV × AHeap)} (f : Fr → Bool) {l : List Fr} {caps : List AV} {A : AHeap} (hl : l.length ≤ maxLen) (h : ∀ x ∈ l, sp ([.agg [.int .i64 x.p, .int .i64 x.q]] ++ caps) A = some (.bool (f x), A)) :
    spIdxP g sp [.sl (frsA l) t, .fn g caps] A = some (.int .i64 (idxF f l 0), A) := by
  have hy : ∀ x ∈ l, yesP sp caps A x = f x := by
    intro x hx
    unfold yesP yesOf
    rw [h x hx]
  have hc : g = g ∧ ∃ k : List Fr, frsA l = frsA k ∧ k.length ≤ maxLen ∧ ∀ x ∈ k, sp ([.agg [.int .i64 x.p, .int .i64 x.q]] ++ caps) A = some (.bool (yesP sp caps A x), A) := ⟨rfl, l, rfl, hl, fun x hx => by rw [hy x hx]; exact h x hx⟩
  unfold spIdxP
  dsimp only
  rw [dif_pos hc]
  have e : hc.2.choose = l := (frsA_inj.1 hc.2.choose_spec.1).symm
  rw [e]
  have : ∀ (l : List Fr) (i : Nat), (∀ x ∈ l, yesP sp caps A x = f x) → idxF (yesP sp caps A) l i = idxF f l i := by
    intro l
    induction l with
    | nil => intro _ _; rfl
    | cons x l ih => intro i h; rw [idxF, idxF, h x (List.mem_cons_self ..), ih _ fun y hy => h y (List.mem_cons_of_mem _ hy)]
  rw [this l 0 hy]
theorem QE_idxP {g : FuncId} {sp : List AV → AHeap → Option (AV × AHeap)} (hg : QE PP g sp) : QE PP 124 (spIdxP g sp) := by
  intro args A r A1 e
  unfold spIdxP at e
  split at e
  · rename_i xs t g' caps
    split at e
    · rename_i hc
      obtain ⟨rfl, hx⟩ := hc
      injection e with e
      injection e with e1 e2
      subst e1; subst e2
      obtain ⟨h1, h2, h3⟩ := hx.choose_spec
      generalize hx.choose = l at h1 h2 h3
      subst h1
      refine T.of_closed (T_indexP (g := g') (caps := []) (os := []) (t := false) (fun _ => true) [] (by simp) ClosedH.nil rfl (fun x hx => (by cases hx))).1 fun ho hl => ?_
      exact T_indexP (os := A.l) _ l h2 ho (by simpa [ltL, AV.lt] using hl) fun x hx => hg _ _ _ _ (h3 x hx)
    · cases e
  · cases e
theorem T_anyP {g : FuncId} {t : Bool} {sp : List AV → AHeap → Option (AV × AHeap)} (hg : QE PP g sp) {caps : List AV} {os : List (Option (List AV))} (f : Fr → Bool) (l : List Fr) (hl : l.length ≤ maxLen) (ho : ClosedH os) (hc : ltL os.length caps = true) (hcl : looseL caps = caps)
    (hf : ∀ x ∈ l, sp ([.agg [.int .i64 x.p, .int .i64 x.q]] ++ caps) ⟨os⟩ = some (.bool (f x), ⟨os⟩)) :
    T PP 83 [.sl (frsA l) t, .fn g caps] ⟨os⟩ fun r A' => r = .bool (l.any f) ∧ A' = ⟨os⟩ := by
  refine H_code (Quiet.e1 (QE_idxP hg) Quiet.nil) hmix k_slices_ContainsFunc_S_2_int64_2_int64 rfl (fun b => b) (Nat.le_refl _) (fun _ _ => rfl) (injB_id _) (by rfl) ?_
  show wpc os.length PP _ c_slices_ContainsFunc_S_2_int64_2_int64 (initSt [.sl (frsA l) t, .fn g caps] ⟨os⟩) _
  simp -dsimp -implicitDefEqProofs [c_slices_ContainsFunc_S_2_int64_2_int64, r_slices_ContainsFunc_S_2_int64_2_int64, hcl, spIdxP_eq f hl hf, hsub_all ho, ← idxF_ge f l 0]
open Classical in
noncomputable def spAnyP (g : FuncId) (sp : List AV → AHeap → Option (AV × AHeap)) : List AV → AHeap → Option (AV × AHeap)
  | [.sl xs t, .fn g' caps], A => if h : g' = g ∧ looseL caps = caps ∧ ∃ l : List Fr, xs = frsA l ∧ l.length ≤ maxLen ∧ ∀ x ∈ l, sp ([.agg [.int .i64 x.p, .int .i64 x.q]] ++ caps) A = some (.bool (yesP sp caps A x), A)
      then some (.bool (h.2.2.choose.any (yesP sp caps A)), A) else none
  | _, _ => none
theorem spAnyP_eq {t : Bool} {g : FuncId} {sp : List AV → AHeap → Option (AV × AHeap)} (f : Fr → Bool) {l : List Fr} {caps : List AV} {A : AHeap} (hl : l.length ≤ maxLen) (hcl : looseL caps = caps) (h : ∀ x ∈ l, sp ([.agg [.int .i64 x.p, .int .i64 x.q]] ++ caps) A = some (.bool (f x), A)) :
    spAnyP g sp [.sl (frsA l) t, .fn g caps] A = some (.bool (l.any f), A) := by
  have hy : ∀ x ∈ l, yesP sp caps A x = f x := by
    intro x hx
    unfold yesP yesOf
    rw [h x hx]
  have hc : g = g ∧ looseL caps = caps ∧ ∃ k : List Fr, frsA l = frsA k ∧ k.length ≤ maxLen ∧ ∀ x ∈ k, sp ([.agg [.int .i64 x.p, .int .i64 x.q]] ++ caps) A = some (.bool (yesP sp caps A x), A) := ⟨rfl, hcl, l, rfl, hl, fun x hx => by rw [hy x hx]; exact h x hx⟩
  unfold spAnyP
  dsimp only
  rw [dif_pos hc]
  have e : hc.2.2.choose = l := (frsA_inj.1 hc.2.2.choose_spec.1).symm
  rw [e]
  have : l.any (yesP sp caps A) = l.any f := by
    clear e hc h hl
    induction l with
    | nil => rfl
    | cons x l ih => rw [List.any_cons, List.any_cons, hy x (List.mem_cons_self ..), ih fun y hm => hy y (List.mem_cons_of_mem _ hm)]
  rw [this]
theorem QE_anyP {g : FuncId} {sp : List AV → AHeap → Option (AV × AHeap)} (hg : QE PP g sp) : QE PP 83 (spAnyP g sp) := by
  intro args A r A1 e
  unfold spAnyP at e
  split at e
  · rename_i xs t g' caps
    split at e
    · rename_i hc
      obtain ⟨rfl, hcl, hx⟩ := hc
      injection e with e
      injection e with e1 e2
      subst e1; subst e2
      obtain ⟨h1, h2, h3⟩ := hx.choose_spec
      generalize hx.choose = l at h1 h2 h3
      subst h1
      refine T.of_closed (T_anyP hg (caps := []) (os := []) (t := false) (fun _ => true) [] (by simp) ClosedH.nil rfl rfl (fun x hx => (by cases hx))).1 fun ho hl => ?_
      exact T_anyP hg (os := A.l) _ l h2 ho (by simpa [ltL, AV.lt] using hl) hcl h3
    · cases e
  · cases e


noncomputable def sp_graphOf1 : List (Option (List AV)) → List AV → Option (AV × List (Option (List AV))) := pv (pf (ι := (Int) × (Int) × (Int)) (α := AV × List (Option (List AV))) (fun ⟨n, p, q⟩ => 0 ≤ n ∧ n ≤ 5) (fun i => .agg (((fun ⟨n, p, q⟩ => [some [.int .i64 n]] : (Int) × (Int) × (Int) → List (Option (List AV))) i).map enO) :: (fun ⟨n, p, q⟩ => [.agg [.int .i64 p, .int .i64 q], .ptr 0 0] : (Int) × (Int) × (Int) → List AV) i) (fun ⟨n, p, q⟩ => (.bool (!pairI n p q), [some [.int .i64 n]])))
theorem sp_graphOf1_eq (n p q : Int) (h : 0 ≤ n ∧ n ≤ 5) : sp_graphOf1 [some [.int .i64 n]] [.agg [.int .i64 p, .int .i64 q], .ptr 0 0] = some (.bool (!pairI n p q), [some [.int .i64 n]]) := by
  unfold sp_graphOf1 pv
  exact pf_eq (ι := (Int) × (Int) × (Int)) (α := AV × List (Option (List AV))) (n, p, q) h (by rintro ⟨n', p', q'⟩ _ e; simp_all [enO, Int.natCast_inj])
theorem v_impl_GraphOf_1 : QV PP 84 sp_graphOf1 := by
  refine QV_pf fun i h => ?_
  obtain ⟨n, p, q⟩ := i
  replace h : 0 ≤ n ∧ n ≤ 5 := h
  refine H_code (Quiet.q1 q_impl_isPair Quiet.nil) hmix k_impl_GraphOf_1 rfl (fun b => b) (by simp [AHeap.n]) (fun _ _ => rfl) (by rfl) (by first | rfl | simp) ?_
  show wpc _ PP _ c_impl_GraphOf_1 (initSt [.agg [.int .i64 p, .int .i64 q], .ptr 0 0] ⟨[some [.int .i64 n]]⟩) (endH (fun b => b) r_impl_GraphOf_1 (.bool (!pairI n p q)) [some [.int .i64 n]])
  have hp := sp_pairI_eq n p q h
  cases hv : pairI n p q <;> rw [hv] at hp <;> simp -dsimp -implicitDefEqProofs [c_impl_GraphOf_1, r_impl_GraphOf_1, hp, hv, hsub]
theorem e_any_graphOf : QE PP 83 (spAnyP 84 (spV sp_graphOf1)) := QE_anyP v_impl_GraphOf_1.toE
theorem orF_snoc (L : List Fr) (i : Nat) (h : i < L.length) (a : Nat) : orF a (L.take (i + 1)) = orF a (L.take i) ||| 2 ^ bitI L[i].p.toNat L[i].q.toNat := by
  rw [take_snoc L i h]; unfold orF; rw [List.foldl_append]; rfl
theorem orF_lt {L : List Fr} (h : ∀ x ∈ L, (0 ≤ x.p ∧ x.p < 5) ∧ (0 ≤ x.q ∧ x.q < 5) ∧ x.p ≠ x.q) : ∀ (K : List Fr) (a : Nat), (∀ x ∈ K, x ∈ L) → a < 1024 → orF a K < 1024
  | [], a, _, ha => ha
  | x :: K, a, hK, ha => by
    show orF (a ||| 2 ^ bitI x.p.toNat x.q.toNat) K < 1024
    have hx := h x (hK x (List.mem_cons_self ..))
    refine orF_lt h K _ (fun y hy => hK y (List.mem_cons_of_mem _ hy)) ?_
    exact Nat.or_lt_two_pow (n := 10) ha (bit_small (i := x.p) (j := x.q) hx)
noncomputable def sp_graphOf : List AV → Option (AV) := pf (ι := (Nat) × (List Fr) × (Bool)) (α := AV) (fun ⟨n, L, t⟩ => n ≤ 5 ∧ L.length ≤ 1000 ∧ ∀ x ∈ L, pairI n x.p x.q = true) (fun ⟨n, L, t⟩ => [.int .i64 n, .sl (frsA L) t]) (fun ⟨n, L, t⟩ => .tup [.agg [.int .i64 n, .int .u32 (orF 0 L)], .int .i64 0])
theorem sp_graphOf_eq (n : Nat) (L : List Fr) (t : Bool) (h : n ≤ 5 ∧ L.length ≤ 1000 ∧ ∀ x ∈ L, pairI n x.p x.q = true) : sp_graphOf [.int .i64 n, .sl (frsA L) t] = some (.tup [.agg [.int .i64 n, .int .u32 (orF 0 L)], .int .i64 0]) := by
  unfold sp_graphOf
  exact pf_eq (ι := (Nat) × (List Fr) × (Bool)) (α := AV) (n, L, t) h (by rintro ⟨n', L', t'⟩ _ e; simp_all [Int.natCast_inj])
theorem q_impl_GraphOf : QP PP 31 sp_graphOf := by
  refine QP_pf (fun i h => ?_) fun i h => ?_
  · obtain ⟨n, L, t⟩ := i; exact ⟨by first | rfl | simp, by first | rfl | simp⟩
  obtain ⟨n, L, t⟩ := i
  replace h : n ≤ 5 ∧ L.length ≤ 1000 ∧ ∀ x ∈ L, pairI n x.p x.q = true := h
  refine P_code (Quiet.q1 q_impl_sizeOk (Quiet.q1 q_impl_bit (Quiet.e1 e_any_graphOf Quiet.nil))) hmix k_impl_GraphOf rfl ?_ ?_
  · first | rfl | simp
  show wpc 0 PP _ c_impl_GraphOf (initSt [.int .i64 n, .sl (frsA L) t] .nil) (endP r_impl_GraphOf (.tup [.agg [.int .i64 n, .int .u32 (orF 0 L)], .int .i64 0]))
  obtain ⟨hn, hl, hL⟩ := h
  have hso := sp_sizeOk_eq (n : Int)
  have hso1 : (decide ((0 : Int) ≤ (n : Int)) && decide ((n : Int) ≤ 5)) = true := by simp; omega
  have hso2 : (n : Int) ≤ 5 := by omega
  have hin : ∀ x ∈ L, (0 ≤ x.p ∧ x.p < 5) ∧ (0 ≤ x.q ∧ x.q < 5) ∧ x.p ≠ x.q := fun x hx => pairI_in (n := n) (by omega) (hL x hx)
  have hany := spAnyP_eq (t := false) (g := 84) (sp := spV sp_graphOf1) (fun x => !pairI n x.p x.q) (l := L) (caps := [.ptr 0 0]) (A := ⟨[some [.int .i64 n], some [.int .i64 0, .int .u32 0]]⟩) (by simp only [maxLen]; omega) rfl (fun x hx => by
    have := sp_graphOf1_eq n x.p x.q (by omega)
    simp [this])
  have hf : (L.any fun x => !pairI n x.p x.q) = false := by
    rw [List.any_eq_false]
    intro x hx
    rw [hL x hx]; decide
  rw [hf] at hany
  simp -dsimp -implicitDefEqProofs [c_impl_GraphOf, r_impl_GraphOf, hso, hso1, hso2, hany]
  refine wpLoop_st (fun (i : Nat) => ⟨tl [(4, .ptr 1 0), (6, .ptr 2 0), (20, .sl (frsA L) t), (21, .int .i64 L.length), (22, .int .i64 i)], ⟨[some [.int .i64 n], some [.int .i64 0, .int .u32 0], some [.int .i64 n, .int .u32 (orF 0 (L.take i) : Nat)]]⟩⟩) (fun i => i ≤ L.length) (fun i => L.length - i) 0 (by omega) (Sub.keep (by simp) (by simp [hsub, orF]) (by simp)) ?_
  rintro i hi
  simp -dsimp -implicitDefEqProofs
  refine brW_of (fun h => ?_) (fun h => ?_) <;> simp only [decide_eq_true_eq, decide_eq_false_iff_not] at h
  · have hx : i < L.length := by omega
    have hw := wrapNat (i := i) (by omega)
    have hxin := hin L[i] (List.getElem_mem hx)
    have hbt := sp_bit_eq L[i].p L[i].q ⟨by omega, by omega⟩
    have hsm := bit_small (i := L[i].p) (j := L[i].q) hxin
    have hlt := orF_lt hin (L.take i) 0 (fun x hx => List.mem_of_mem_take hx) (by decide)
    have ho := or32 (a := orF 0 (L.take i)) (b := 2 ^ bitI L[i].p.toNat L[i].q.toNat) (by omega) (by omega)
    have hcast : ((2 ^ bitI L[i].p.toNat L[i].q.toNat : Nat) : Int) = 2 ^ bitI L[i].p.toNat L[i].q.toNat := by simp
    rw [hcast, ← orF_snoc L i hx 0] at ho
    generalize (2 : Int) ^ bitI L[i].p.toNat L[i].q.toNat = bt at *
    simp -dsimp -implicitDefEqProofs [hx, hbt, ho, hw]
    exact .mk (i + 1) (by omega) (by omega) (Sub.keep (by simp) (by simp [hsub]; simpa using ho) (by simp [hw]))
  · have hi' : i = L.length := by omega
    subst hi'
    simp -dsimp -implicitDefEqProofs
end Go.Proofs.YtgophedkejgedaaDoorAi
end

section
/- Contracts: pairs of a graph, edges, degrees, opposite graphs. -/
namespace Go.Proofs.YtgophedkejgedaaDoorAi
open Go Go.RowKit
set_option linter.unusedVariables false
set_option linter.unusedSimpArgs false
set_option maxRecDepth 20000

noncomputable def sp_pairsOf : List AV → Option (AV × List (Option (List AV))) := pf (ι := (Nat) × (Int)) (α := AV × List (Option (List AV))) (fun ⟨n, e⟩ => graphOk n e = true ∧ 0 ≤ e ∧ e ≤ 4294967295) (fun ⟨n, e⟩ => [.agg [.int .i64 n, .int .u32 e]]) (fun ⟨n, e⟩ => (.tup [lvE 0 (pairsE e n), .int .i64 0], obE (pairsE e n)))
theorem sp_pairsOf_eq (n : Nat) (e : Int) (h : graphOk n e = true ∧ 0 ≤ e ∧ e ≤ 4294967295) : sp_pairsOf [.agg [.int .i64 n, .int .u32 e]] = some ((.tup [lvE 0 (pairsE e n), .int .i64 0], obE (pairsE e n))) := by
  unfold sp_pairsOf
  exact pf_eq (ι := (Nat) × (Int)) (α := AV × List (Option (List AV))) (n, e) h (by rintro ⟨n', e'⟩ _ e; simp_all [Int.natCast_inj])
theorem n_impl_PairsOf : QN PP 30 sp_pairsOf := by
  refine QN_pf (fun i h => ?_) fun i h => ?_
  · obtain ⟨n, e⟩ := i; first | rfl | simp
  obtain ⟨n, e⟩ := i
  replace h : graphOk n e = true ∧ 0 ≤ e ∧ e ≤ 4294967295 := h
  show T PP 30 [.agg [.int .i64 n, .int .u32 e]] .nil fun r' A' => r' = (((.tup [lvE 0 (pairsE e n), .int .i64 0], obE (pairsE e n)) : AV × List (Option (List AV)))).1 ∧ A' = ⟨(((.tup [lvE 0 (pairsE e n), .int .i64 0], obE (pairsE e n)) : AV × List (Option (List AV)))).2⟩
  obtain ⟨hg, he⟩ := h
  have hn := graphOk_in hg
  have hed := sp_edges_eq n e ⟨by omega, he⟩
  have hgo := sp_graphOk_eq (n : Int) e he
  rw [hg] at hgo
  unfold pairsR at hed
  by_cases hL : pairsE e n = []
  · rw [hL, lvE_nil, obE_nil] at hed ⊢
    refine H_code (Quiet.q1 q_impl_ValidGraph (Quiet.e1 n_impl_Graph_edges.toE Quiet.nil)) hmix k_impl_PairsOf rfl (fun _ => 0) (by simp [AHeap.n, AHeap.nil]) (by intro b hb; simp [AHeap.n, AHeap.nil] at hb <;> subst hb <;> rfl) (by rfl) (by first | rfl | simp) ?_
    simp -dsimp -implicitDefEqProofs [c_impl_PairsOf, r_impl_PairsOf, hgo, hed, hsub]
  · rw [lvE_cons hL, obE_cons hL] at hed ⊢
    refine H_code (Quiet.q1 q_impl_ValidGraph (Quiet.e1 n_impl_Graph_edges.toE Quiet.nil)) hmix k_impl_PairsOf rfl (fun _ => 1) (by simp [AHeap.n, AHeap.nil]) (by intro b hb; simp [AHeap.n, AHeap.nil] at hb <;> subst hb <;> rfl) (by rfl) (by first | rfl | simp) ?_
    simp -dsimp -implicitDefEqProofs [c_impl_PairsOf, r_impl_PairsOf, hgo, hed, hsub]
def hasR (n e i j : Int) : AV := .tup [.bool (hasB e i j), .int .i64 0]
noncomputable def sp_hasEdge : List AV → Option (AV) := pf (ι := (Nat) × (Int) × (Int) × (Int)) (α := AV) (fun ⟨n, e, i, j⟩ => (0 ≤ e ∧ e ≤ 4294967295) ∧ graphOk n e = true ∧ pairI n i j = true) (fun ⟨n, e, i, j⟩ => [.agg [.int .i64 n, .int .u32 e], .int .i64 i, .int .i64 j]) (fun ⟨n, e, i, j⟩ => .tup [.bool (hasB e i j), .int .i64 0])
theorem sp_hasEdge_eq (n : Nat) (e i j : Int) (h : (0 ≤ e ∧ e ≤ 4294967295) ∧ graphOk n e = true ∧ pairI n i j = true) : sp_hasEdge [.agg [.int .i64 n, .int .u32 e], .int .i64 i, .int .i64 j] = some (.tup [.bool (hasB e i j), .int .i64 0]) := by
  unfold sp_hasEdge
  exact pf_eq (ι := (Nat) × (Int) × (Int) × (Int)) (α := AV) (n, e, i, j) h (by rintro ⟨n', e', i', j'⟩ _ e; simp_all [Int.natCast_inj])
theorem q_impl_HasEdge : QP PP 37 sp_hasEdge := by
  refine QP_pf (fun i h => ?_) fun i h => ?_
  · obtain ⟨n, e, i, j⟩ := i; exact ⟨by first | rfl | simp, by first | rfl | simp⟩
  obtain ⟨n, e, i, j⟩ := i
  replace h : (0 ≤ e ∧ e ≤ 4294967295) ∧ graphOk n e = true ∧ pairI n i j = true := h
  refine P_code (Quiet.q1 q_impl_ValidGraph (Quiet.q1 q_impl_isPair (Quiet.q1 q_impl_Graph_has Quiet.nil))) hmix k_impl_HasEdge rfl ?_ ?_
  · first | rfl | simp
  show wpc 0 PP _ c_impl_HasEdge (initSt [.agg [.int .i64 n, .int .u32 e], .int .i64 i, .int .i64 j] .nil) (endP r_impl_HasEdge (.tup [.bool (hasB e i j), .int .i64 0]))
  obtain ⟨he, hg, hp⟩ := h
  have hn := graphOk_in hg
  have hgo := sp_graphOk_eq (n : Int) e he
  rw [hg] at hgo
  have hpo := sp_pairI_eq (n : Int) i j (by omega)
  rw [hp] at hpo
  have hin := pairI_in (by omega) hp
  have hh := sp_has_eq (n : Int) e i j ⟨he, hin⟩
  simp -dsimp -implicitDefEqProofs [c_impl_HasEdge, r_impl_HasEdge, hgo, hpo, hh]
def offE (m : Nat) (i j : Int) : Nat := m &&& (2 ^ 32 - 1 - 2 ^ bitI i.toNat j.toNat)
def withE (m : Nat) (i j : Int) (on : Bool) : Nat := if on = true then offE m i j ||| 2 ^ bitI i.toNat j.toNat else offE m i j
theorem pow32 {k : Nat} (hk : (2 : Nat) ^ k < 1024) : ((2 : Int) ^ k % 2 ^ IntKind.u32.bits).toNat = 2 ^ k := by
  have e : (2 : Int) ^ k = ((2 ^ k : Nat) : Int) := by simp
  rw [e, Int.emod_eq_of_lt (Int.natCast_nonneg _) (by simp only [IntKind.bits]; omega), Int.toNat_natCast]
theorem off32 {m : Nat} {i j : Int} (hm : m < 1024) (hk : (2 : Nat) ^ bitI i.toNat j.toNat < 1024) : IntKind.u32.wrap ((m % 2 ^ IntKind.u32.bits &&& 2 ^ IntKind.u32.bits - 1 - ((2 : Int) ^ bitI i.toNat j.toNat % 2 ^ IntKind.u32.bits).toNat : Nat) : Int) = (offE m i j : Int) := by
  have e1 : m % 2 ^ IntKind.u32.bits = m := Nat.mod_eq_of_lt (by simp only [IntKind.bits]; omega)
  have e2 : (2 ^ IntKind.u32.bits : Nat) = 2 ^ 32 := rfl
  rw [e1, pow32 hk, e2]
  have : m &&& (2 ^ 32 - 1 - 2 ^ bitI i.toNat j.toNat) ≤ m := Nat.and_le_left
  exact wrap32 (by omega) (by omega)
theorem offE_le (m : Nat) (i j : Int) : offE m i j ≤ m := Nat.and_le_left
theorem orNN {x k : Nat} (hx : x < 1024) (hk : (2 : Nat) ^ k < 1024) : IntKind.u32.wrap ((((x : Int) % 2 ^ IntKind.u32.bits).toNat ||| ((2 : Int) ^ k % 2 ^ IntKind.u32.bits).toNat : Nat) : Int) = ((x ||| 2 ^ k : Nat) : Int) := by
  have e1 : ((x : Int) % 2 ^ IntKind.u32.bits).toNat = x := by
    rw [Int.emod_eq_of_lt (by omega) (by simp only [IntKind.bits]; omega), Int.toNat_natCast]
  rw [e1, pow32 hk]
  have : x ||| 2 ^ k < 1024 := Nat.or_lt_two_pow (n := 10) hx hk
  exact wrap32 (by omega) (by omega)
noncomputable def sp_withEdge : List AV → Option (AV) := pf (ι := (Nat) × (Nat) × (Int) × (Int) × (Bool)) (α := AV) (fun ⟨n, m, i, j, on⟩ => m < 1024 ∧ graphOk n m = true ∧ pairI n i j = true) (fun ⟨n, m, i, j, on⟩ => [.agg [.int .i64 n, .int .u32 m], .int .i64 i, .int .i64 j, .bool on]) (fun ⟨n, m, i, j, on⟩ => .tup [.agg [.int .i64 n, .int .u32 (withE m i j on)], .int .i64 0])
theorem sp_withEdge_eq (n m : Nat) (i j : Int) (on : Bool) (h : m < 1024 ∧ graphOk n m = true ∧ pairI n i j = true) : sp_withEdge [.agg [.int .i64 n, .int .u32 m], .int .i64 i, .int .i64 j, .bool on] = some (.tup [.agg [.int .i64 n, .int .u32 (withE m i j on)], .int .i64 0]) := by
  unfold sp_withEdge
  exact pf_eq (ι := (Nat) × (Nat) × (Int) × (Int) × (Bool)) (α := AV) (n, m, i, j, on) h (by rintro ⟨n', m', i', j', on'⟩ _ e; simp_all [Int.natCast_inj])
theorem q_impl_WithEdge : QP PP 38 sp_withEdge := by
  refine QP_pf (fun i h => ?_) fun i h => ?_
  · obtain ⟨n, m, i, j, on⟩ := i; exact ⟨by first | rfl | simp, by first | rfl | simp⟩
  obtain ⟨n, m, i, j, on⟩ := i
  replace h : m < 1024 ∧ graphOk n m = true ∧ pairI n i j = true := h
  refine P_code (Quiet.q1 q_impl_ValidGraph (Quiet.q1 q_impl_isPair (Quiet.q1 q_impl_bit Quiet.nil))) hmix k_impl_WithEdge rfl ?_ ?_
  · first | rfl | simp
  show wpc 0 PP _ c_impl_WithEdge (initSt [.agg [.int .i64 n, .int .u32 m], .int .i64 i, .int .i64 j, .bool on] .nil) (endP r_impl_WithEdge (.tup [.agg [.int .i64 n, .int .u32 (withE m i j on)], .int .i64 0]))
  obtain ⟨hm, hg, hp⟩ := h
  have hn := graphOk_in hg
  have hgo := sp_graphOk_eq (n : Int) m (by omega)
  rw [hg] at hgo
  have hpo := sp_pairI_eq (n : Int) i j (by omega)
  rw [hp] at hpo
  have hin := pairI_in (by omega) hp
  have hbt := sp_bit_eq i j ⟨by omega, by omega⟩
  have hsm := bit_small hin
  cases on
  · simp -dsimp -implicitDefEqProofs [c_impl_WithEdge, r_impl_WithEdge, hgo, hpo, hbt]
    rw [off32 hm hsm]; rfl
  · simp -dsimp -implicitDefEqProofs [c_impl_WithEdge, r_impl_WithEdge, hgo, hpo, hbt]
    rw [off32 hm hsm]
    have hle := offE_le m i j
    exact orNN (by omega) hsm
noncomputable def sp_oppOf : List AV → Option (AV) := pf (ι := (Nat) × (Int)) (α := AV) (fun ⟨n, e⟩ => (0 ≤ e ∧ e ≤ 4294967295) ∧ graphOk n e = true) (fun ⟨n, e⟩ => [.agg [.int .i64 n, .int .u32 e]]) (fun ⟨n, e⟩ => .tup [.agg [.int .i64 n, .int .u32 (notE e n)], .int .i64 0])
theorem sp_oppOf_eq (n : Nat) (e : Int) (h : (0 ≤ e ∧ e ≤ 4294967295) ∧ graphOk n e = true) : sp_oppOf [.agg [.int .i64 n, .int .u32 e]] = some (.tup [.agg [.int .i64 n, .int .u32 (notE e n)], .int .i64 0]) := by
  unfold sp_oppOf
  exact pf_eq (ι := (Nat) × (Int)) (α := AV) (n, e) h (by rintro ⟨n', e'⟩ _ e; simp_all [Int.natCast_inj])
theorem q_impl_OppositeGraph : QP PP 34 sp_oppOf := by
  refine QP_pf (fun i h => ?_) fun i h => ?_
  · obtain ⟨n, e⟩ := i; exact ⟨by first | rfl | simp, by first | rfl | simp⟩
  obtain ⟨n, e⟩ := i
  replace h : (0 ≤ e ∧ e ≤ 4294967295) ∧ graphOk n e = true := h
  refine P_code (Quiet.q1 q_impl_ValidGraph (Quiet.q1 q_impl_Graph_opposite Quiet.nil)) hmix k_impl_OppositeGraph rfl ?_ ?_
  · first | rfl | simp
  show wpc 0 PP _ c_impl_OppositeGraph (initSt [.agg [.int .i64 n, .int .u32 e]] .nil) (endP r_impl_OppositeGraph (.tup [.agg [.int .i64 n, .int .u32 (notE e n)], .int .i64 0]))
  obtain ⟨he, hg⟩ := h
  have hn := graphOk_in hg
  have hgo := sp_graphOk_eq (n : Int) e he
  rw [hg] at hgo
  have ho := sp_opp_eq (n : Int) e ⟨by omega, he⟩
  simp -dsimp -implicitDefEqProofs [c_impl_OppositeGraph, r_impl_OppositeGraph, hgo, ho]
end Go.Proofs.YtgophedkejgedaaDoorAi
end

section
/- Contracts: degrees. -/
namespace Go.Proofs.YtgophedkejgedaaDoorAi
open Go Go.RowKit
set_option linter.unusedVariables false
set_option linter.unusedSimpArgs false
set_option maxRecDepth 20000

def incI (D : List Int) (i : Nat) : List Int := D.set i (D[i]?.getD 0 + 1)
def degF (D : List Int) (L : List Fr) : List Int := L.foldl (fun D x => incI (incI D x.p.toNat) x.q.toNat) D
@[simp] theorem incI_len (D : List Int) (i : Nat) : (incI D i).length = D.length := by simp [incI]
theorem degF_len : ∀ (L : List Fr) (D : List Int), (degF D L).length = D.length
  | [], D => rfl
  | x :: L, D => by
    show (degF (incI (incI D x.p.toNat) x.q.toNat) L).length = _
    rw [degF_len L]; simp
theorem incI_sum {D : List Int} {i : Nat} (h : i < D.length) : (incI D i).sum = D.sum + 1 := by
  unfold incI
  rw [List.getElem?_eq_getElem h, Option.getD_some]
  induction D generalizing i with
  | nil => simp at h
  | cons d D ih =>
    cases i with
    | zero => simp; omega
    | succ i =>
      have h' : i < D.length := by simpa using h
      have := ih h'
      simp only [List.set_cons_succ, List.sum_cons, List.getElem_cons_succ, this]
      omega
theorem degF_sum : ∀ (L : List Fr) (D : List Int), (∀ x ∈ L, (0 ≤ x.p ∧ x.p < D.length) ∧ (0 ≤ x.q ∧ x.q < D.length)) → (degF D L).sum = D.sum + 2 * L.length
  | [], D, _ => by simp [degF]
  | x :: L, D, h => by
    have hx := h x (List.mem_cons_self ..)
    show (degF (incI (incI D x.p.toNat) x.q.toNat) L).sum = _
    rw [degF_sum L _ (fun y hy => by simpa using h y (List.mem_cons_of_mem _ hy)), incI_sum (by simp; omega), incI_sum (by omega), List.length_cons]
    omega
def degBd (D : List Int) (k : Nat) : Prop := ∀ x ∈ D, 0 ≤ x ∧ x ≤ k
theorem incI_bd {D : List Int} {k i : Nat} (h : degBd D k) : degBd (incI D i) (k + 1) := by
  intro x hx
  unfold incI at hx
  rcases List.mem_or_eq_of_mem_set hx with hx | hx
  · have := h x hx; omega
  · rw [hx]
    cases e : D[i]? with
    | none => simp; omega
    | some y =>
      have := h y (List.mem_of_getElem? e)
      rw [Option.getD_some]; omega
theorem degF_bd : ∀ (L : List Fr) (D : List Int) (k : Nat), degBd D k → degBd (degF D L) (k + 2 * L.length)
  | [], D, k, h => h
  | x :: L, D, k, h => by
    have := degF_bd L _ _ (incI_bd (i := x.q.toNat) (incI_bd (i := x.p.toNat) h))
    show degBd (degF (incI (incI D x.p.toNat) x.q.toNat) L) _
    rw [List.length_cons]
    rw [show k + 2 * (L.length + 1) = k + 1 + 1 + 2 * L.length by omega]
    exact this
theorem degF_snoc (L : List Fr) (i : Nat) (h : i < L.length) (D : List Int) : degF D (L.take (i + 1)) = incI (incI (degF D (L.take i)) L[i].p.toNat) L[i].q.toNat := by
  rw [take_snoc L i h]; unfold degF; rw [List.foldl_append]; rfl
def degsE (n : Nat) (e : Int) : List Int := degF (List.replicate n 0) (pairsE e n)
noncomputable def sp_degrees : List AV → Option (AV × List (Option (List AV))) := pf (ι := (Nat) × (Int)) (α := AV × List (Option (List AV))) (fun ⟨n, e⟩ => graphOk n e = true ∧ 0 ≤ e ∧ e ≤ 4294967295) (fun ⟨n, e⟩ => [.agg [.int .i64 n, .int .u32 e]]) (fun ⟨n, e⟩ => (.tup [.ref 0 1 0 n .tight, .int .i64 0], [some (flatA (insA (degsE n e)))]))
theorem sp_degrees_eq (n : Nat) (e : Int) (h : graphOk n e = true ∧ 0 ≤ e ∧ e ≤ 4294967295) : sp_degrees [.agg [.int .i64 n, .int .u32 e]] = some ((.tup [.ref 0 1 0 n .tight, .int .i64 0], [some (flatA (insA (degsE n e)))])) := by
  unfold sp_degrees
  exact pf_eq (ι := (Nat) × (Int)) (α := AV × List (Option (List AV))) (n, e) h (by rintro ⟨n', e'⟩ _ e; simp_all [Int.natCast_inj])
theorem n_impl_DegreesOf : QN PP 35 sp_degrees := by
  refine QN_pf (fun i h => ?_) fun i h => ?_
  · obtain ⟨n, e⟩ := i; first | rfl | simp
  obtain ⟨n, e⟩ := i
  replace h : graphOk n e = true ∧ 0 ≤ e ∧ e ≤ 4294967295 := h
  show T PP 35 [.agg [.int .i64 n, .int .u32 e]] .nil fun r' A' => r' = (((.tup [.ref 0 1 0 n .tight, .int .i64 0], [some (flatA (insA (degsE n e)))]) : AV × List (Option (List AV)))).1 ∧ A' = ⟨(((.tup [.ref 0 1 0 n .tight, .int .i64 0], [some (flatA (insA (degsE n e)))]) : AV × List (Option (List AV)))).2⟩
  obtain ⟨hg, he⟩ := h
  have hn := graphOk_in hg
  have hed := sp_edges_eq n e ⟨by omega, he⟩
  have hgo := sp_graphOk_eq (n : Int) e he
  rw [hg] at hgo
  unfold pairsR at hed
  have hpl := pairsE_lt e n
  have hplen := pairsE_len e n
  have hnn : n * n ≤ 25 := Nat.mul_le_mul (by omega : n ≤ 5) (by omega : n ≤ 5)
  unfold degsE
  generalize pairsE e n = L at *
  have m1 : n * 8 ≤ mostBytes := by simp only [mostBytes]; omega
  have m2 : n ≤ maxLen := by simp only [maxLen]; omega
  have m3 : (n : Int) * 9 ≤ (mostBytes : Nat) := by simp only [mostBytes]; omega
  have hrep : List.replicate n (AV.int .i64 0) = flatA (insA (List.replicate n 0)) := by
    rw [flat_insL]; simp [mapA]
  by_cases hL : L = []
  · subst hL
    rw [lvE_nil, obE_nil] at hed
    refine H_code (Quiet.q1 q_impl_ValidGraph (Quiet.e1 n_impl_Graph_edges.toE Quiet.nil)) hmix k_impl_DegreesOf rfl (fun _ => 1) (by simp [AHeap.n, AHeap.nil]) (by intro b hb; simp [AHeap.n, AHeap.nil] at hb <;> subst hb <;> rfl) (by rfl) (by first | rfl | simp) ?_
    simp -dsimp -implicitDefEqProofs [c_impl_DegreesOf, r_impl_DegreesOf, hgo, hed, m1, m2, m3, hrep]
    refine wpLoop_st (fun (i : Nat) => ⟨tl [(4, .ref 1 1 0 n .tight), (14, .sl [] true), (15, .int .i64 0), (16, .int .i64 i)], ⟨[some [.int .i64 n, .int .u32 e], some (flatA (insA (List.replicate n 0)))]⟩⟩) (fun i => i = 0) (fun i => 0) 0 rfl (Sub.keep (by simp) (by simp [hsub]) (by simp)) ?_
    rintro i rfl
    simp -dsimp -implicitDefEqProofs [degF, hsub]
  · rw [lvE_cons hL, obE_cons hL] at hed
    refine H_code (Quiet.q1 q_impl_ValidGraph (Quiet.e1 n_impl_Graph_edges.toE Quiet.nil)) hmix k_impl_DegreesOf rfl (fun _ => 1) (by simp [AHeap.n, AHeap.nil]) (by intro b hb; simp [AHeap.n, AHeap.nil] at hb <;> subst hb <;> rfl) (by rfl) (by first | rfl | simp) ?_
    simp -dsimp -implicitDefEqProofs [c_impl_DegreesOf, r_impl_DegreesOf, hgo, hed, m1, m2, m3, hrep]
    refine wpLoop_st (fun (i : Nat) => ⟨tl [(4, .ref 1 1 0 n .tight), (14, .ref 2 2 0 L.length .full), (15, .int .i64 L.length), (16, .int .i64 i)], ⟨[some [.int .i64 n, .int .u32 e], some (flatA (insA (degF (List.replicate n 0) (L.take i)))), some (flatA (frsA L))]⟩⟩) (fun i => i ≤ L.length) (fun i => L.length - i) 0 (by omega) (Sub.keep (by simp) (by simp [hsub, degF]) (by simp)) ?_
    rintro i hi
    simp -dsimp -implicitDefEqProofs
    refine brW_of (fun h => ?_) (fun h => ?_) <;> simp only [decide_eq_true_eq, decide_eq_false_iff_not] at h
    · have hx : i < L.length := by omega
      have hw := wrapNat (i := i) (by omega)
      have hxin := hpl L[i] (List.getElem_mem hx)
      have hs := degF_snoc L i hx (List.replicate n 0)
      have hDl := degF_len (L.take i) (List.replicate n 0)
      have hDb := degF_bd (L.take i) (List.replicate n 0) 0 (fun x hx => by rw [(List.mem_replicate.1 hx).2]; omega)
      have htl : (L.take i).length = i := by simp; omega
      rw [htl] at hDb
      rw [List.length_replicate] at hDl
      obtain ⟨a, ha⟩ := Int.eq_ofNat_of_zero_le hxin.1
      obtain ⟨b, hb⟩ := Int.eq_ofNat_of_zero_le (show 0 ≤ L[i].q by omega)
      rw [ha, hb, Int.toNat_natCast, Int.toNat_natCast] at hs
      generalize degF (List.replicate n 0) (L.take i) = D at *
      have ha1 : a < n := by omega
      have hb1 : b < n := by omega
      have x0 := get_fr0 L i hx
      have x1 := get_fr1 L i hx
      rw [ha] at x0
      rw [hb] at x1
      have y0 : ∀ h2, (flatA (frsA L))[i * 2]'h2 = .int .i64 a := fun h2 => by rw [List.getElem?_eq_getElem h2] at x0; exact Option.some.inj x0
      have y1 : ∀ h2, (flatA (frsA L))[i * 2 + 1]'h2 = .int .i64 b := fun h2 => by rw [List.getElem?_eq_getElem h2] at x1; exact Option.some.inj x1
      have l1 : i * 2 < L.length * 2 := by omega
      have l2 : i * 2 + 1 < L.length * 2 := by omega
      have haD : a < D.length := by omega
      have z0 := get_in D a haD
      have z0' : ∀ h2, (flatA (insA D))[a]'h2 = .int .i64 D[a] := fun h2 => by rw [List.getElem?_eq_getElem h2] at z0; exact Option.some.inj z0
      have s0 : (flatA (insA D)).set a (.int .i64 (D[a] + 1)) = flatA (insA (incI D a)) := by
        rw [set_in D a _ haD]; unfold incI; rw [List.getElem?_eq_getElem haD]; rfl
      have b0 := hDb _ (List.getElem_mem haD)
      have w0 : IntKind.wrap .i64 (D[a] + 1) = D[a] + 1 := wrapI64 (by omega) (by omega)
      have hDb1 := incI_bd (i := a) hDb
      have hDl1 : (incI D a).length = n := by rw [incI_len]; exact hDl
      generalize hD1 : incI D a = D1 at *
      have hbD : b < D1.length := by omega
      have z1 := get_in D1 b hbD
      have z1' : ∀ h2, (flatA (insA D1))[b]'h2 = .int .i64 D1[b] := fun h2 => by rw [List.getElem?_eq_getElem h2] at z1; exact Option.some.inj z1
      have s1 : (flatA (insA D1)).set b (.int .i64 (D1[b] + 1)) = flatA (insA (incI D1 b)) := by
        rw [set_in D1 b _ hbD]; unfold incI; rw [List.getElem?_eq_getElem hbD]; rfl
      have b1 := hDb1 _ (List.getElem_mem hbD)
      have w1 : IntKind.wrap .i64 (D1[b] + 1) = D1[b] + 1 := wrapI64 (by omega) (by omega)
      rw [← hs] at s1
      generalize D[a] = v0 at *
      generalize D1[b] = v1 at *
      have ha2 : a + 1 ≤ n := by omega
      have hb2 : b + 1 ≤ n := by omega
      simp -dsimp -implicitDefEqProofs [hx, hw, ha1, hb1, ha2, hb2, x0, x1, y0, y1, l1, l2, haD, hbD, hDl, hDl1, z0, z0', s0, w0, z1, z1', s1, w1]
      exact .mk (i + 1) (by omega) (by omega) (Sub.keep (by simp) (by simp [hsub]) (by simp [hw]))
    · have hi' : i = L.length := by omega
      subst hi'
      simp -dsimp -implicitDefEqProofs [hsub]
end Go.Proofs.YtgophedkejgedaaDoorAi
end

section
/- Plain law: a graph with and without an edge; its opposite. -/
namespace Go.Proofs.YtgophedkejgedaaDoorAi
open Go Go.RowKit
set_option linter.unusedVariables false
set_option linter.unusedSimpArgs false
set_option maxRecDepth 20000

theorem graphOk_mk {n x : Nat} (hn : n ≤ 5) (h : x < 2 ^ (n * (n - 1) / 2)) : graphOk n x = true := by
  have h5 : n = 0 ∨ n = 1 ∨ n = 2 ∨ n = 3 ∨ n = 4 ∨ n = 5 := by omega
  unfold graphOk
  refine decide_eq_true ⟨⟨by omega, by omega⟩, ?_⟩
  have e : (pairsI (n : Int)).toNat = n * (n - 1) / 2 := by rcases h5 with rfl | rfl | rfl | rfl | rfl | rfl <;> decide
  rw [e]
  exact_mod_cast h
theorem graphOk_lt2 {n x : Nat} (h : graphOk n x = true) : x < 2 ^ (n * (n - 1) / 2) := by
  have := (graphOk_lt h (by omega)).2
  simpa using this
theorem tri_10 {n : Nat} (hn : n ≤ 5) : (2 : Nat) ^ (n * (n - 1) / 2) ≤ 1024 := by
  have h5 : n = 0 ∨ n = 1 ∨ n = 2 ∨ n = 3 ∨ n = 4 ∨ n = 5 := by omega
  rcases h5 with rfl | rfl | rfl | rfl | rfl | rfl <;> decide
theorem pair_bit {n i j : Nat} (hi : i < n) (hj : j < n) (h : i ≠ j) : bitI i j < n * (n - 1) / 2 := by
  rcases Nat.lt_or_gt_of_ne h with h | h
  · exact bitI_tri h hj
  · rw [bitI_c]; exact bitI_tri h hi
theorem offE_bit {m : Nat} (hm : m < 1024) {i j : Int} (hb : bitI i.toNat j.toNat < 10) (k : Nat) : (offE m i j).testBit k = (m.testBit k && !decide (bitI i.toNat j.toNat = k)) := by
  unfold offE
  rw [Nat.testBit_and]
  by_cases hk : k < 10
  · have hlt : 2 ^ bitI i.toNat j.toNat < 2 ^ 32 := Nat.pow_lt_pow_right (by decide) (by omega)
    have := Nat.testBit_two_pow_sub_succ hlt k
    rw [show (2 : Nat) ^ 32 - 1 - 2 ^ bitI i.toNat j.toNat = 2 ^ 32 - (2 ^ bitI i.toNat j.toNat + 1) by omega, this, Nat.testBit_two_pow, decide_eq_true (by omega : k < 32)]
    simp
  · have h1 : (2 : Nat) ^ 10 ≤ 2 ^ k := Nat.pow_le_pow_right (by decide) (by omega)
    have : m.testBit k = false := Nat.testBit_lt_two_pow (by omega)
    rw [this]; simp
theorem withE_bit {m : Nat} (hm : m < 1024) {i j : Int} (hb : bitI i.toNat j.toNat < 10) (on : Bool) (k : Nat) : (withE m i j on).testBit k = ((m.testBit k && !decide (bitI i.toNat j.toNat = k)) || (on && decide (bitI i.toNat j.toNat = k))) := by
  unfold withE
  cases on with
  | false => simp [offE_bit hm hb]
  | true => simp [offE_bit hm hb, Nat.testBit_or, Nat.testBit_two_pow]
theorem edge_facts {n m i j : Nat} (hg : graphOk n m = true) (hi : i < n) (hj : j < n) (hij : i ≠ j) :
    pairI n i j = true ∧ pairI n j i = true ∧ hasB (notE m n : Nat) j i = (!hasB m i j) ∧ graphOk n (notE m n : Nat) = true ∧ graphOk n (withE m i j true) = true ∧ withE m i j true < 1024 ∧ graphOk n (withE (withE m i j true) j i false) = true ∧
    hasB (withE m i j true : Nat) i j = true ∧ hasB (withE (withE m i j true) j i false : Nat) i j = false ∧ (hasB m i j = true → withE m i j true = m) ∧ (hasB m i j = false → withE (withE m i j true) j i false = m) := by
  have hn := graphOk_in hg
  have hn5 : n ≤ 5 := by omega
  have hm := graphOk_lt2 hg
  have h10 := tri_10 hn5
  have hm10 : m < 1024 := by omega
  have hb := pair_bit hi hj hij
  have hc : bitI j i = bitI i j := bitI_c
  have hb10 : bitI i j < 10 := bitI_10 (by omega) (by omega) hij
  have hon : withE m i j true < 2 ^ (n * (n - 1) / 2) := by
    have := offE_le m i j
    unfold withE
    rw [if_pos rfl]
    simp only [Int.toNat_natCast]
    exact Nat.or_lt_two_pow (by omega) (Nat.pow_lt_pow_right (by decide) hb)
  have hon10 : withE m i j true < 1024 := by omega
  have hoff : withE (withE m i j true) j i false < 2 ^ (n * (n - 1) / 2) := by
    have := offE_le (withE m i j true) j i
    rw [withE, if_neg (by decide)]
    omega
  have eon : ∀ k, (withE m i j true).testBit k = ((m.testBit k && !decide (bitI i j = k)) || decide (bitI i j = k)) := fun k => by
    have := withE_bit hm10 (i := i) (j := j) (by simpa using hb10) true k
    simpa using this
  have eoff : ∀ k, (withE (withE m i j true) j i false).testBit k = (m.testBit k && !decide (bitI i j = k)) := fun k => by
    have := withE_bit hon10 (i := j) (j := i) (by simp only [Int.toNat_natCast, hc]; exact hb10) false k
    simp only [Int.toNat_natCast, hc] at this
    rw [this, eon k]
    cases decide (bitI i j = k) <;> simp
  refine ⟨?_, ?_, ?_, ?_, graphOk_mk hn5 hon, hon10, graphOk_mk hn5 hoff, ?_, ?_, ?_, ?_⟩
  · unfold pairI; simp; omega
  · unfold pairI; simp; omega
  · unfold hasB notE
    simp only [Int.toNat_natCast]
    rcases Nat.lt_or_gt_of_ne hij with h | h
    · rw [hc, madeE_has _ h hj]
      unfold hasB; simp only [Int.toNat_natCast]
    · rw [madeE_has _ h hi]
      unfold hasB; simp only [Int.toNat_natCast, hc]
  · refine graphOk_mk hn5 ?_
    unfold notE
    simp only [Int.toNat_natCast]
    exact madeE_tri _ n
  · unfold hasB
    simp only [Int.toNat_natCast]
    rw [eon]; simp
  · unfold hasB
    simp only [Int.toNat_natCast]
    rw [eoff]; simp
  · intro h
    unfold hasB at h
    simp only [Int.toNat_natCast] at h
    apply Nat.eq_of_testBit_eq
    intro k
    rw [eon]
    by_cases e : bitI i j = k
    · rw [← e, h]; simp
    · simp [e]
  · intro h
    unfold hasB at h
    simp only [Int.toNat_natCast] at h
    apply Nat.eq_of_testBit_eq
    intro k
    rw [eoff]
    by_cases e : bitI i j = k
    · rw [← e, h]; simp
    · simp [e]
theorem degs_sum {n m : Nat} : (degsE n m).sum = 2 * (pairsE m n).length := by
  unfold degsE
  rw [degF_sum]
  · have : (List.replicate n (0 : Int)).sum = 0 := by
      induction n with
      | zero => rfl
      | succ n ih => rw [List.replicate_succ, List.sum_cons, ih]; rfl
    rw [this]; omega
  · intro x hx
    have := pairsE_lt m n x hx
    rw [List.length_replicate]
    omega
theorem degs_len (n : Nat) (e : Int) : (degsE n e).length = n := by unfold degsE; rw [degF_len, List.length_replicate]
theorem degs_bd {n : Nat} (e : Int) (hn : n ≤ 5) : ∀ x ∈ degsE n e, 0 ≤ x ∧ x ≤ 50 := by
  intro x hx
  have h1 := degF_bd (pairsE e n) (List.replicate n 0) 0 (fun y hy => by rw [(List.mem_replicate.1 hy).2]; omega) x hx
  have h2 := pairsE_len e n
  have h3 : n * n ≤ 25 := Nat.mul_le_mul (by omega : n ≤ 5) (by omega : n ≤ 5)
  omega
theorem sum_snoc (L : List Int) (i : Nat) (h : i < L.length) : (L.take (i + 1)).sum = (L.take i).sum + L[i] := by
  rw [List.take_succ_eq_append_getElem h, List.sum_append]; simp
theorem sum_bd : ∀ (L : List Int) (i : Nat), (∀ x ∈ L, 0 ≤ x ∧ x ≤ 50) → 0 ≤ (L.take i).sum ∧ (L.take i).sum ≤ 50 * i
  | L, 0, _ => by simp
  | [], i + 1, _ => by simp; omega
  | x :: L, i + 1, h => by
    have h1 := h x (List.mem_cons_self ..)
    have h2 := sum_bd L i fun y hy => h y (List.mem_cons_of_mem _ hy)
    rw [List.take_succ_cons, List.sum_cons]
    omega
end Go.Proofs.YtgophedkejgedaaDoorAi
end

section
/- Law: FnEdges. -/
namespace Go.Proofs.YtgophedkejgedaaDoorAi
open Go Go.RowKit
set_option linter.unusedVariables false
set_option linter.unusedSimpArgs false
set_option maxRecDepth 20000

theorem grT_size2 {e : Int} {n : Nat} (h : n ≤ 5) : (grT e n).size ≤ 1200 := by
  have := edT_take (e := e) h (pairsE e n).length
  rw [List.take_length] at this
  exact this
noncomputable def sp_a2Graph : List AV → Option (AV) := pf (ι := (List Int) × (Int)) (α := AV) (fun ⟨l, n⟩ => inB8 l ∧ 0 ≤ n ∧ n ≤ 5) (fun ⟨l, n⟩ => [.sl (bysA l) false, .int .i64 n]) (fun ⟨l, n⟩ => .agg [.int .i64 n, .int .u32 (gE l (0, 0) n)])
theorem sp_a2Graph_eq (l : List Int) (n : Int) (h : inB8 l ∧ 0 ≤ n ∧ n ≤ 5) : sp_a2Graph [.sl (bysA l) false, .int .i64 n] = some (.agg [.int .i64 n, .int .u32 (gE l (0, 0) n)]) := by
  unfold sp_a2Graph
  exact pf_eq (ι := (List Int) × (Int)) (α := AV) (l, n) h (by rintro ⟨l', n'⟩ _ e; simp_all [Int.natCast_inj])
theorem q_spec_A2Graph : QP PP 28 sp_a2Graph := by
  refine QP_pf (fun i h => ?_) fun i h => ?_
  · obtain ⟨l, n⟩ := i; exact ⟨by first | rfl | simp, by first | rfl | simp⟩
  obtain ⟨l, n⟩ := i
  replace h : inB8 l ∧ 0 ≤ n ∧ n ≤ 5 := h
  refine P_code (Quiet.e1 n_spec_l00From.toE (Quiet.e1 m_spec_l01Drawn.toE Quiet.nil)) hmix k_spec_A2Graph rfl ?_ ?_
  · first | rfl | simp
  show wpc 0 PP _ c_spec_A2Graph (initSt [.sl (bysA l) false, .int .i64 n] .nil) (endP r_spec_A2Graph (.agg [.int .i64 n, .int .u32 (gE l (0, 0) n)]))
  have e := sp_gdrawn_eq l 0 0 n ⟨⟨h.1, by decide, by decide, by decide⟩, h.2⟩
  have e0 : ((0 : Nat) : Int) = 0 := rfl
  rw [e0] at e
  simp -dsimp -implicitDefEqProofs [c_spec_A2Graph, r_spec_A2Graph, sp_l00From_eq l h.1, e]
set_option maxHeartbeats 4000000 in
theorem law_edges (xs : List AV) (h : WtA [tyBytes, tyBytes] xs) : T PP 6 xs .nil fun r _ => r = .bool true := by
  simp only [WtA_cons, WtA_nil] at h
  obtain ⟨x, _, rfl, hx, y, _, rfl, hy, rfl⟩ := h
  obtain ⟨l, rfl, hl, hll⟩ := wt_bytes hx
  obtain ⟨k, rfl, hk, hkl⟩ := wt_bytes hy
  refine (P_code (r := .bool true) (Quiet.q1 q_laws_a2Long (Quiet.q1 q_laws_a2At (Quiet.q1 q_spec_A2Graph (Quiet.q1 q_impl_ReadGraph (Quiet.q1 q_impl_GraphText (Quiet.q1 q_impl_OppositeGraph (Quiet.q1 q_impl_ValidGraph (Quiet.q1 q_impl_HasEdge (Quiet.q1 q_impl_WithEdge (Quiet.e1 n_impl_PairsOf.toE (Quiet.e1 q_impl_GraphOf.toR (Quiet.e1 n_impl_DegreesOf.toE Quiet.nil)))))))))))) hmix k_laws_FnEdges rfl rfl ?_).mono fun r A' h => h.1
  have hlong := sp_long2_eq l k ⟨hll, hkl⟩
  cases hv : (decide (3000 < l.length) || decide (3000 < k.length)) with
  | true =>
    rw [hv] at hlong
    simp -dsimp -implicitDefEqProofs [c_laws_FnEdges, r_laws_FnEdges, hlong]
  | false =>
    rw [hv] at hlong
    simp only [Bool.or_eq_false_iff, decide_eq_false_iff_not] at hv
    have il : inB8 l := ⟨hl, by omega⟩
    have ik : inB8 k := ⟨hk, by omega⟩
    have hat := sp_at6_eq k ik
    have hbk := byteAt_in ik 0
    obtain ⟨n, hn⟩ := Int.eq_ofNat_of_zero_le (Int.tmod_nonneg (a := byteAt k 0) 6 (by omega))
    have hn5 : n ≤ 5 := by
      have := Int.tmod_lt_of_pos (byteAt k 0) (b := 6) (by omega)
      omega
    rw [hn] at hat
    have hdr := sp_a2Graph_eq l n ⟨il, by omega, by omega⟩
    have hg := gE_ok (l := l) (q := (0, 0)) (k := 0) ⟨il, by decide, by decide, by decide⟩ (n := n) ⟨by omega, by omega⟩
    generalize gE l (0, 0) n = m at *
    have hmlt := graphOk_lt2 hg
    have h10 := tri_10 hn5
    have hpo := sp_pairsOf_eq n m ⟨hg, by omega, by omega⟩
    have hpl := pairsE_lt m n
    have hplen := pairsE_len m n
    have hnn : n * n ≤ 25 := Nat.mul_le_mul hn5 hn5
    have hgf : ∀ t, sp_graphOf [.int .i64 n, .sl (frsA (pairsE m n)) t] = some (.tup [.agg [.int .i64 n, .int .u32 m], .int .i64 0]) := fun t => by
      have := sp_graphOf_eq n (pairsE m n) t ⟨hn5, by omega, fun x hx => by
        have := hpl x hx
        unfold pairI; simp; omega⟩
      rw [orF_pairs hg] at this
      exact this
    have hgt := sp_graphText_eq n m (by omega)
    have eT : graphT n m = grT m n := by unfold graphT; rw [if_pos hg, Int.toNat_natCast]
    rw [eT] at hgt
    have hrd := sp_readGr_eq (grT m n) (by have := grT_size2 (e := m) hn5; omega)
    rw [(reads_graph hg).1] at hrd
    have hop := sp_oppOf_eq n m ⟨by omega, hg⟩
    have hgo := sp_graphOk_eq (n : Int) m (by omega)
    rw [hg] at hgo
    have hde := sp_degrees_eq n m ⟨hg, by omega, by omega⟩
    have hEF : ∀ i j : Nat, i < n → j < n → i ≠ j → _ := fun i j hi hj hij => edge_facts hg hi hj hij
    have hds := degs_sum (n := n) (m := m)
    have hdl := degs_len n m
    have hdb := degs_bd (n := n) (m : Int) hn5
    generalize degsE n m = D at *
    generalize pairsE m n = L at *
    by_cases hL : L = []
    · subst hL
      rw [lvE_nil, obE_nil] at hpo
      have hgf' : sp_graphOf [.int .i64 n, .sl [] false] = some (.tup [.agg [.int .i64 n, .int .u32 m], .int .i64 0]) := hgf false
      simp -dsimp -implicitDefEqProofs [c_laws_FnEdges, r_laws_FnEdges, hlong, hat, hdr, hpo, hgf', hgt, hrd, rgA, hop, hgo, hde]
      refine wpLoop_st (fun (i : Nat) => ⟨tl [(5, .ptr 0 0), (6, .sl [] true), (12, .ptr 3 0), (14, .ref 4 1 0 n .tight), (16, .int .i64 (D.take i).sum), (17, .int .i64 i)], ⟨[some [.int .i64 n, .int .u32 m], some [.int .i64 n, .int .u32 m], some [.int .i64 n, .int .u32 m], some [.int .i64 n, .int .u32 (notE m n : Nat)], some (flatA (insA D))]⟩⟩) (fun i => i ≤ n) (fun i => n - i) 0 (by omega) (Sub.keep (by simp) (by simp [hsub]) (by simp)) ?_
      rintro i hi
      simp -dsimp -implicitDefEqProofs
      refine brW_of (fun h => ?_) (fun h => ?_) <;> simp only [decide_eq_true_eq, decide_eq_false_iff_not] at h
      · have hx : i < n := by omega
        have hw := wrapNat (i := i) (by omega)
        have hxD : i < D.length := by omega
        have z0 := get_in D i hxD
        have z0' : ∀ h2, (flatA (insA D))[i]'h2 = .int .i64 D[i] := fun h2 => by rw [List.getElem?_eq_getElem h2] at z0; exact Option.some.inj z0
        have hsn := sum_snoc D i hxD
        have hs1 := sum_bd D (i + 1) hdb
        have wS : IntKind.wrap .i64 ((D.take i).sum + D[i]) = (D.take (i + 1)).sum := by rw [← hsn]; exact wrapI64 (by omega) (by omega)
        generalize D[i] = v at *
        simp -dsimp -implicitDefEqProofs [hx, hxD, hdl, z0, z0', wS]
        refine wpLoop_st (fun (j : Nat) => ⟨tl [(5, .ptr 0 0), (6, .sl [] true), (12, .ptr 3 0), (14, .ref 4 1 0 n .tight), (16, .int .i64 (D.take (i + 1)).sum), (17, .int .i64 i), (18, .int .i64 j)], ⟨[some [.int .i64 n, .int .u32 m], some [.int .i64 n, .int .u32 m], some [.int .i64 n, .int .u32 m], some [.int .i64 n, .int .u32 (notE m n : Nat)], some (flatA (insA D))]⟩⟩) (fun j => j ≤ n) (fun j => n - j) 0 (by omega) (Sub.keep (by simp) (by simp [hsub]) (by simp)) ?_
        rintro j hj
        simp -dsimp -implicitDefEqProofs
        refine brW_of (fun h => ?_) (fun h => ?_) <;> simp only [decide_eq_true_eq, decide_eq_false_iff_not] at h
        · have hy : j < n := by omega
          have hwj := wrapNat (i := j) (by omega)
          by_cases hij : i = j
          · subst hij
            simp -dsimp -implicitDefEqProofs [hwj]
            exact .mk (i + 1) (by omega) (by omega) (Sub.keep (by simp) (by simp [hsub]) (by simp [hwj]))
          · have hij2 : ¬ (i : Int) = j := by omega
            have hij' : ((i : Int) == (j : Int)) = false := by simpa using hij2
            obtain ⟨e1, e2, e3, e4, e5, e6, e7, e8, e9, e10, e11⟩ := hEF i j hx hy hij
            have ho1 := graphOk_lt2 e4
            have ho2 := graphOk_lt2 e7
            have h1 := sp_hasEdge_eq n m i j ⟨by omega, hg, e1⟩
            have h2 := sp_hasEdge_eq n (notE m n : Nat) j i ⟨by omega, e4, e2⟩
            have h3 := sp_withEdge_eq n m i j true ⟨by omega, hg, e1⟩
            have h4 := sp_withEdge_eq n (withE m i j true) j i false ⟨e6, e5, e2⟩
            have h5 := sp_hasEdge_eq n (withE m i j true : Nat) i j ⟨by omega, e5, e1⟩
            have h6 := sp_hasEdge_eq n (withE (withE m i j true) j i false : Nat) i j ⟨by omega, e7, e1⟩
            rw [e3] at h2
            rw [e8] at h5
            rw [e9] at h6
            generalize withE (withE m i j true) j i false = off at *
            generalize withE m i j true = on at *
            cases hb : hasB m i j with
            | true =>
              rw [hb] at h1 h2
              have hon := e10 hb
              subst hon
              simp -dsimp -implicitDefEqProofs [hij, hij2, hij', h1, h2, h3, h4, h5, h6, hwj]
              exact .mk (j + 1) (by omega) (by omega) (Sub.keep (by simp) (by simp [hsub]) (by simp [hwj]))
            | false =>
              rw [hb] at h1 h2
              have hof := e11 hb
              subst hof
              simp -dsimp -implicitDefEqProofs [hij, hij2, hij', h1, h2, h3, h4, h5, h6, hwj]
              exact .mk (j + 1) (by omega) (by omega) (Sub.keep (by simp) (by simp [hsub]) (by simp [hwj]))
        · simp -dsimp -implicitDefEqProofs [hw]
          exact .mk (i + 1) (by omega) (by omega) (Sub.keep (by simp) (by simp [hsub]) (by simp [hw]))
      · have hi' : i = D.length := by omega
        have hT : (D.take i).sum = 2 * (0 : Nat) := by rw [hi', List.take_length, hds]; rfl
        have wL : IntKind.wrap .i64 (2 * ((0 : Nat) : Int)) = 2 * ((0 : Nat) : Int) := wrapI64 (by omega) (by omega)
        rw [hT]
        have w0 : IntKind.wrap .i64 0 = 0 := rfl
        simp -dsimp -implicitDefEqProofs [wL, w0]
    · rw [lvE_cons hL, obE_cons hL] at hpo
      simp -dsimp -implicitDefEqProofs [c_laws_FnEdges, r_laws_FnEdges, hlong, hat, hdr, hpo, hgf, hgt, hrd, rgA, hop, hgo, hde]
      refine wpLoop_st (fun (i : Nat) => ⟨tl [(5, .ptr 0 0), (6, .ref 1 2 0 L.length .full), (12, .ptr 4 0), (14, .ref 5 1 0 n .tight), (16, .int .i64 (D.take i).sum), (17, .int .i64 i)], ⟨[some [.int .i64 n, .int .u32 m], some (flatA (frsA L)), some [.int .i64 n, .int .u32 m], some [.int .i64 n, .int .u32 m], some [.int .i64 n, .int .u32 (notE m n : Nat)], some (flatA (insA D))]⟩⟩) (fun i => i ≤ n) (fun i => n - i) 0 (by omega) (Sub.keep (by simp) (by simp [hsub]) (by simp)) ?_
      rintro i hi
      simp -dsimp -implicitDefEqProofs
      refine brW_of (fun h => ?_) (fun h => ?_) <;> simp only [decide_eq_true_eq, decide_eq_false_iff_not] at h
      · have hx : i < n := by omega
        have hw := wrapNat (i := i) (by omega)
        have hxD : i < D.length := by omega
        have z0 := get_in D i hxD
        have z0' : ∀ h2, (flatA (insA D))[i]'h2 = .int .i64 D[i] := fun h2 => by rw [List.getElem?_eq_getElem h2] at z0; exact Option.some.inj z0
        have hsn := sum_snoc D i hxD
        have hs1 := sum_bd D (i + 1) hdb
        have wS : IntKind.wrap .i64 ((D.take i).sum + D[i]) = (D.take (i + 1)).sum := by rw [← hsn]; exact wrapI64 (by omega) (by omega)
        generalize D[i] = v at *
        simp -dsimp -implicitDefEqProofs [hx, hxD, hdl, z0, z0', wS]
        refine wpLoop_st (fun (j : Nat) => ⟨tl [(5, .ptr 0 0), (6, .ref 1 2 0 L.length .full), (12, .ptr 4 0), (14, .ref 5 1 0 n .tight), (16, .int .i64 (D.take (i + 1)).sum), (17, .int .i64 i), (18, .int .i64 j)], ⟨[some [.int .i64 n, .int .u32 m], some (flatA (frsA L)), some [.int .i64 n, .int .u32 m], some [.int .i64 n, .int .u32 m], some [.int .i64 n, .int .u32 (notE m n : Nat)], some (flatA (insA D))]⟩⟩) (fun j => j ≤ n) (fun j => n - j) 0 (by omega) (Sub.keep (by simp) (by simp [hsub]) (by simp)) ?_
        rintro j hj
        simp -dsimp -implicitDefEqProofs
        refine brW_of (fun h => ?_) (fun h => ?_) <;> simp only [decide_eq_true_eq, decide_eq_false_iff_not] at h
        · have hy : j < n := by omega
          have hwj := wrapNat (i := j) (by omega)
          by_cases hij : i = j
          · subst hij
            simp -dsimp -implicitDefEqProofs [hwj]
            exact .mk (i + 1) (by omega) (by omega) (Sub.keep (by simp) (by simp [hsub]) (by simp [hwj]))
          · have hij2 : ¬ (i : Int) = j := by omega
            have hij' : ((i : Int) == (j : Int)) = false := by simpa using hij2
            obtain ⟨e1, e2, e3, e4, e5, e6, e7, e8, e9, e10, e11⟩ := hEF i j hx hy hij
            have ho1 := graphOk_lt2 e4
            have ho2 := graphOk_lt2 e7
            have h1 := sp_hasEdge_eq n m i j ⟨by omega, hg, e1⟩
            have h2 := sp_hasEdge_eq n (notE m n : Nat) j i ⟨by omega, e4, e2⟩
            have h3 := sp_withEdge_eq n m i j true ⟨by omega, hg, e1⟩
            have h4 := sp_withEdge_eq n (withE m i j true) j i false ⟨e6, e5, e2⟩
            have h5 := sp_hasEdge_eq n (withE m i j true : Nat) i j ⟨by omega, e5, e1⟩
            have h6 := sp_hasEdge_eq n (withE (withE m i j true) j i false : Nat) i j ⟨by omega, e7, e1⟩
            rw [e3] at h2
            rw [e8] at h5
            rw [e9] at h6
            generalize withE (withE m i j true) j i false = off at *
            generalize withE m i j true = on at *
            cases hb : hasB m i j with
            | true =>
              rw [hb] at h1 h2
              have hon := e10 hb
              subst hon
              simp -dsimp -implicitDefEqProofs [hij, hij2, hij', h1, h2, h3, h4, h5, h6, hwj]
              exact .mk (j + 1) (by omega) (by omega) (Sub.keep (by simp) (by simp [hsub]) (by simp [hwj]))
            | false =>
              rw [hb] at h1 h2
              have hof := e11 hb
              subst hof
              simp -dsimp -implicitDefEqProofs [hij, hij2, hij', h1, h2, h3, h4, h5, h6, hwj]
              exact .mk (j + 1) (by omega) (by omega) (Sub.keep (by simp) (by simp [hsub]) (by simp [hwj]))
        · simp -dsimp -implicitDefEqProofs [hw]
          exact .mk (i + 1) (by omega) (by omega) (Sub.keep (by simp) (by simp [hsub]) (by simp [hw]))
      · have hi' : i = D.length := by omega
        have hT : (D.take i).sum = 2 * (L.length : Nat) := by rw [hi', List.take_length, hds]
        have wL : IntKind.wrap .i64 (2 * ((L.length : Nat) : Int)) = 2 * ((L.length : Nat) : Int) := wrapI64 (by omega) (by omega)
        rw [hT]
        have w0 : IntKind.wrap .i64 0 = 0 := rfl
        simp -dsimp -implicitDefEqProofs [wL, w0]
end Go.Proofs.YtgophedkejgedaaDoorAi
end
