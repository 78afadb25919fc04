/- Contracts, joined. -/
import Derived.Test.YtgiakpeneckgfaaGreatDoorMrst3
import Derived.Test.YtgiakpeneckgfaaGreatDoorAiX
import Derived.Test.YtgiakpeneckgfaaGreatDoorProg
import Derived.Test.YtgiakpeneckgfaaGreatDoorShelfD
section
/- MADE BY PROGRAM (wip/tools/gen.py): the abstract code of functions. -/
namespace Go.Proofs.YtgiakpeneckgfaaGreatDoorAi
open Go AC AOp Opd
set_option linter.unusedVariables false
set_option maxRecDepth 100000
def c_spec_l05Cut : AC := seq (reg [⟨(some 4), mv (c (.int .i64 0)), none⟩]) (seq (seq (reg [⟨(some 5), mv (c (.int .i64 0)), none⟩]) (block 0 (loop (seq (seq (reg [⟨(some 6), mv (t 5), none⟩, ⟨(some 7), mv (t 0), none⟩, ⟨(some 8), lens (t 7), none⟩, ⟨(some 9), bin .lss (t 6) (t 8), none⟩]) (cond (t 9) (skip) (exit 0))) (seq (block 1 (seq (reg [⟨(some 12), mv (t 0), none⟩, ⟨(some 13), mv (t 5), none⟩, ⟨(some 14), idx (t 12) (t 13), none⟩, ⟨(some 15), bin .eql (t 14) (c (.int .u8 32)), none⟩]) (cond (t 15) (seq (reg [⟨(some 16), mv (t 1), none⟩, ⟨(some 17), bin .sub (t 16) (c (.int .i64 1)), none⟩, ⟨(some 1), mv (t 17), none⟩]) (seq (reg [⟨(some 18), mv (t 1), none⟩, ⟨(some 19), bin .eql (t 18) (c (.int .i64 0)), none⟩]) (cond (t 19) (seq (reg [⟨(some 20), mv (t 5), none⟩, ⟨(some 4), mv (t 20), none⟩]) (ret)) (skip)))) (skip)))) (reg [⟨(some 10), mv (t 5), none⟩, ⟨(some 11), bin .add (t 10) (c (.int .i64 1)), none⟩, ⟨(some 5), mv (t 11), none⟩])))))) (seq (reg [⟨(some 4), mv (c (.int .i64 (-1))), none⟩]) (ret)))
def r_spec_l05Cut : List ARes := [.tmp 4]
theorem k_spec_l05Cut : acLin Go.Proofs.Tryz.prog 39 2 (inQ [] []) [] = some (c_spec_l05Cut, r_spec_l05Cut) := by kernel_rfl
def c_impl_ReadSum : AC := seq (reg [⟨(some 2), alloc [.int .i64 0, .int .u32 0, .int .i64 0, .sl [] true], none⟩, ⟨(some 3), mv (c (.int .i64 0)), none⟩]) (seq (reg [⟨(some 13), bld [.int .i64 0, .int .u32 0, .int .i64 0, .sl [] true] [], none⟩, ⟨(some 4), alloc [.int .i64 0, .int .u32 0, .int .i64 0, .sl [] true], none⟩, ⟨none, st (t 4) 4 (t 13), none⟩]) (seq (seq (reg [⟨(some 14), mv (t 0), none⟩, ⟨(some 15), callq (c (.fn 55 [])) [t 14, c (.str ⟨#[10]⟩)], none⟩, ⟨(some 16), calle (c (.fn 50 [])) [t 15, c (.str ⟨#[10]⟩)] [], none⟩, ⟨(some 17), len (t 16), none⟩, ⟨(some 18), mv (c (.int .i64 0)), none⟩]) (block 0 (loop (seq (reg [⟨(some 19), bin .lss (t 18) (t 17), none⟩]) (seq (cond (t 19) (skip) (exit 0)) (seq (block 1 (seq (reg [⟨(some 20), mv (t 18), none⟩, ⟨(some 21), iad 1 (t 16) (t 18), none⟩, ⟨(some 22), ld (t 21) 1 false, none⟩, ⟨(some 5), mv (t 20), none⟩, ⟨(some 6), mv (t 22), none⟩]) (seq (seq (reg [⟨(some 23), mv (t 5), none⟩, ⟨(some 24), bin .eql (t 23) (c (.int .i64 0)), none⟩]) (cond (t 24) (reg [⟨(some 25), mv (t 6), none⟩, ⟨(some 26), callq (c (.fn 19 [])) [t 25, c (.str ⟨#[115, 117, 109, 32]⟩)], none⟩, ⟨(some 6), mv (t 26), none⟩]) (skip))) (seq (reg [⟨(some 28), mv (t 6), none⟩, ⟨(some 29), callq (c (.fn 17 [])) [t 28, c (.str ⟨#[32]⟩)], none⟩, ⟨(some 27), mv (t 29), none⟩, ⟨(some 30), ext (t 27) 0, none⟩, ⟨(some 31), ext (t 27) 1, none⟩, ⟨(some 32), ext (t 27) 2, none⟩, ⟨(some 7), mv (t 30), none⟩, ⟨(some 8), mv (t 31), none⟩, ⟨(some 9), mv (t 32), none⟩]) (seq (reg [⟨(some 34), mv (t 8), none⟩, ⟨(some 35), callq (c (.fn 21 [])) [t 34], none⟩, ⟨(some 33), mv (t 35), none⟩, ⟨(some 36), ext (t 33) 0, none⟩, ⟨(some 37), ext (t 33) 1, none⟩, ⟨(some 10), alloc [.int .i64 0, .int .u32 0], none⟩, ⟨none, st (t 10) 2 (t 36), none⟩, ⟨(some 11), mv (t 37), none⟩]) (seq (seq (reg [⟨(some 38), mv (t 11), none⟩, ⟨(some 39), bin .neq (t 38) (c (.int .i64 0)), none⟩, ⟨(some 40), mv (t 39), none⟩, ⟨(some 41), mv (t 5), some (40, false)⟩, ⟨(some 42), bin .gtr (t 41) (c (.int .i64 64)), some (40, false)⟩, ⟨(some 43), pick (t 40) (c (.bool true)) (t 42), none⟩]) (cond (t 43) (seq (reg [⟨(some 44), bld [.int .i64 0, .int .u32 0, .int .i64 0, .sl [] true] [], none⟩, ⟨none, st (t 2) 4 (t 44), none⟩, ⟨(some 3), mv (c (.int .i64 5)), none⟩]) (ret)) (skip))) (seq (seq (reg [⟨(some 45), mv (t 5), none⟩, ⟨(some 46), bin .eql (t 45) (c (.int .i64 0)), none⟩]) (cond (t 46) (seq (reg [⟨(some 48), mv (t 7), none⟩, ⟨(some 49), callq (c (.fn 44 [])) [t 48], none⟩, ⟨(some 47), mv (t 49), none⟩, ⟨(some 50), ext (t 47) 0, none⟩, ⟨(some 51), ext (t 47) 1, none⟩, ⟨(some 52), fad (t 4) 2, none⟩, ⟨none, st (t 52) 1 (t 50), none⟩]) (seq (reg [⟨(some 53), ld (t 10) 2 true, none⟩, ⟨(some 54), fad (t 4) 0, none⟩, ⟨none, st (t 54) 2 (t 53), none⟩]) (exit 1))) (skip))) (seq (reg [⟨(some 56), mv (t 7), none⟩, ⟨(some 57), callq (c (.fn 18 [])) [t 56], none⟩, ⟨(some 55), mv (t 57), none⟩, ⟨(some 58), ext (t 55) 0, none⟩, ⟨(some 59), ext (t 55) 1, none⟩, ⟨(some 12), alloc [.int .i64 0, .int .i64 0], none⟩, ⟨none, st (t 12) 2 (t 58), none⟩, ⟨(some 11), mv (t 59), none⟩]) (seq (seq (reg [⟨(some 60), mv (t 11), none⟩, ⟨(some 61), bin .neq (t 60) (c (.int .i64 0)), none⟩]) (cond (t 61) (seq (reg [⟨(some 62), bld [.int .i64 0, .int .u32 0, .int .i64 0, .sl [] true] [], none⟩, ⟨none, st (t 2) 4 (t 62), none⟩, ⟨(some 3), mv (c (.int .i64 5)), none⟩]) (ret)) (skip))) (reg [⟨(some 63), fad (t 4) 3, none⟩, ⟨(some 64), ld (t 63) 1 false, none⟩, ⟨(some 65), fad (t 4) 0, none⟩, ⟨(some 66), fad (t 65) 0, none⟩, ⟨(some 67), ld (t 66) 1 false, none⟩, ⟨(some 68), ld (t 10) 2 true, none⟩, ⟨(some 69), bld [.int .i64 0, .int .i64 0, .int .u32 0] [(0, 1, t 67), (1, 2, t 68)], none⟩, ⟨(some 70), ld (t 12) 2 true, none⟩, ⟨(some 71), bld [.int .i64 0, .int .i64 0, .int .u32 0, .int .i64 0, .int .i64 0] [(0, 3, t 69), (3, 2, t 70)], none⟩, ⟨(some 72), bsl 5 1 [.int .i64 0, .int .i64 0, .int .u32 0, .int .i64 0, .int .i64 0] [(0, t 71)], none⟩, ⟨(some 73), app 5 40 (t 64) (t 72), none⟩, ⟨(some 74), fad (t 4) 3, none⟩, ⟨none, st (t 74) 1 (t 73), none⟩])))))))))) (reg [⟨(some 75), bin .add (t 18) (c (.int .i64 1)), none⟩, ⟨(some 18), mv (t 75), none⟩]))))))) (seq (seq (reg [⟨(some 76), ld (t 4) 4 true, none⟩, ⟨(some 77), calle (c (.fn 56 [])) [t 76] [], none⟩, ⟨(some 78), un .not (t 77), none⟩, ⟨(some 79), mv (t 78), none⟩, ⟨(some 80), ld (t 4) 4 true, some (79, false)⟩, ⟨(some 81), calle (c (.fn 57 [])) [t 80] [], some (79, false)⟩, ⟨(some 82), mv (t 0), some (79, false)⟩, ⟨(some 83), bin .neq (t 81) (t 82), some (79, false)⟩, ⟨(some 84), pick (t 79) (c (.bool true)) (t 83), none⟩]) (cond (t 84) (seq (reg [⟨(some 85), bld [.int .i64 0, .int .u32 0, .int .i64 0, .sl [] true] [], none⟩, ⟨none, st (t 2) 4 (t 85), none⟩, ⟨(some 3), mv (c (.int .i64 5)), none⟩]) (ret)) (skip))) (seq (reg [⟨(some 86), ld (t 4) 4 true, none⟩, ⟨none, st (t 2) 4 (t 86), none⟩, ⟨(some 3), mv (c (.int .i64 0)), none⟩]) (ret)))))
def r_impl_ReadSum : List ARes := [.cell 2 4 true, .tmp 3]
theorem k_impl_ReadSum : acLin Go.Proofs.Tryz.prog 22 1 (inQ [17, 18, 19, 21, 44, 55] [50, 56, 57]) [] = some (c_impl_ReadSum, r_impl_ReadSum) := by kernel_rfl
def c_spec_ReadSum : AC := seq (reg [⟨(some 2), alloc [.int .i64 0, .int .u32 0, .int .i64 0, .sl [] true], none⟩, ⟨(some 3), mv (c (.int .i64 0)), none⟩]) (seq (reg [⟨(some 17), mv (t 0), none⟩, ⟨(some 18), calle (c (.fn 9 [])) [t 17, c (.int .u8 10)] [], none⟩, ⟨(some 4), mv (t 18), none⟩]) (seq (reg [⟨(some 19), mv (t 4), none⟩, ⟨(some 20), iad 1 (t 19) (c (.int .i64 0)), none⟩, ⟨(some 21), ld (t 20) 1 false, none⟩, ⟨(some 22), callq (c (.fn 39 [])) [t 21, c (.int .i64 2)], none⟩, ⟨(some 5), mv (t 22), none⟩]) (seq (seq (reg [⟨(some 23), mv (t 5), none⟩, ⟨(some 24), bin .lss (t 23) (c (.int .i64 4)), none⟩, ⟨(some 25), mv (t 24), none⟩, ⟨(some 26), mv (t 4), some (25, false)⟩, ⟨(some 27), iad 1 (t 26) (c (.int .i64 0)), some (25, false)⟩, ⟨(some 28), ld (t 27) 1 false, some (25, false)⟩, ⟨(some 29), sls (t 28) none (some (c (.int .i64 4))), some (25, false)⟩, ⟨(some 30), bin .neq (t 29) (c (.str ⟨#[115, 117, 109, 32]⟩)), some (25, false)⟩, ⟨(some 31), pick (t 25) (c (.bool true)) (t 30), none⟩, ⟨(some 32), mv (t 31), none⟩, ⟨(some 33), mv (t 4), some (32, false)⟩, ⟨(some 34), len (t 33), some (32, false)⟩, ⟨(some 35), bin .gtr (t 34) (c (.int .i64 66)), some (32, false)⟩, ⟨(some 36), pick (t 32) (c (.bool true)) (t 35), none⟩]) (cond (t 36) (seq (reg [⟨(some 37), bld [.int .i64 0, .int .u32 0, .int .i64 0, .sl [] true] [], none⟩, ⟨none, st (t 2) 4 (t 37), none⟩, ⟨(some 3), mv (c (.int .i64 5)), none⟩]) (ret)) (skip))) (seq (reg [⟨(some 39), mv (t 4), none⟩, ⟨(some 40), iad 1 (t 39) (c (.int .i64 0)), none⟩, ⟨(some 41), ld (t 40) 1 false, none⟩, ⟨(some 42), mv (t 5), none⟩, ⟨(some 43), sls (t 41) (some (c (.int .i64 4))) (some (t 42)), none⟩, ⟨(some 44), callq (c (.fn 35 [])) [t 43], none⟩, ⟨(some 38), mv (t 44), none⟩, ⟨(some 45), ext (t 38) 0, none⟩, ⟨(some 46), ext (t 38) 1, none⟩, ⟨(some 6), mv (t 45), none⟩, ⟨(some 7), mv (t 46), none⟩]) (seq (reg [⟨(some 48), mv (t 4), none⟩, ⟨(some 49), iad 1 (t 48) (c (.int .i64 0)), none⟩, ⟨(some 50), ld (t 49) 1 false, none⟩, ⟨(some 51), mv (t 5), none⟩, ⟨(some 52), bin .add (t 51) (c (.int .i64 1)), none⟩, ⟨(some 53), sls (t 50) (some (t 52)) none, none⟩, ⟨(some 54), callq (c (.fn 12 [])) [t 53], none⟩, ⟨(some 47), mv (t 54), none⟩, ⟨(some 55), ext (t 47) 0, none⟩, ⟨(some 56), ext (t 47) 1, none⟩, ⟨(some 8), alloc [.int .i64 0, .int .u32 0], none⟩, ⟨none, st (t 8) 2 (t 55), none⟩, ⟨(some 9), mv (t 56), none⟩]) (seq (seq (reg [⟨(some 57), mv (t 7), none⟩, ⟨(some 58), un .not (t 57), none⟩, ⟨(some 59), mv (t 58), none⟩, ⟨(some 60), mv (t 9), some (59, false)⟩, ⟨(some 61), bin .neq (t 60) (c (.int .i64 0)), some (59, false)⟩, ⟨(some 62), pick (t 59) (c (.bool true)) (t 61), none⟩]) (cond (t 62) (seq (reg [⟨(some 63), bld [.int .i64 0, .int .u32 0, .int .i64 0, .sl [] true] [], none⟩, ⟨none, st (t 2) 4 (t 63), none⟩, ⟨(some 3), mv (c (.int .i64 5)), none⟩]) (ret)) (skip))) (seq (reg [⟨(some 64), ld (t 8) 2 true, none⟩, ⟨(some 65), mv (t 6), none⟩, ⟨(some 66), bld [.int .i64 0, .int .u32 0, .int .i64 0, .sl [] true] [(0, 2, t 64), (2, 1, t 65)], none⟩, ⟨(some 10), alloc [.int .i64 0, .int .u32 0, .int .i64 0, .sl [] true], none⟩, ⟨none, st (t 10) 4 (t 66), none⟩]) (seq (seq (reg [⟨(some 11), mv (c (.int .i64 1)), none⟩]) (block 0 (loop (seq (seq (reg [⟨(some 67), mv (t 11), none⟩, ⟨(some 68), bin .add (t 67) (c (.int .i64 1)), none⟩, ⟨(some 69), mv (t 4), none⟩, ⟨(some 70), len (t 69), none⟩, ⟨(some 71), bin .lss (t 68) (t 70), none⟩]) (cond (t 71) (skip) (exit 0))) (seq (block 1 (seq (reg [⟨(some 74), mv (t 4), none⟩, ⟨(some 75), mv (t 11), none⟩, ⟨(some 76), iad 1 (t 74) (t 75), none⟩, ⟨(some 77), ld (t 76) 1 false, none⟩, ⟨(some 78), callq (c (.fn 39 [])) [t 77, c (.int .i64 1)], none⟩, ⟨(some 12), mv (t 78), none⟩]) (seq (seq (reg [⟨(some 79), mv (t 12), none⟩, ⟨(some 80), bin .lss (t 79) (c (.int .i64 0)), none⟩]) (cond (t 80) (seq (reg [⟨(some 81), bld [.int .i64 0, .int .u32 0, .int .i64 0, .sl [] true] [], none⟩, ⟨none, st (t 2) 4 (t 81), none⟩, ⟨(some 3), mv (c (.int .i64 5)), none⟩]) (ret)) (skip))) (seq (reg [⟨(some 83), mv (t 4), none⟩, ⟨(some 84), mv (t 11), none⟩, ⟨(some 85), iad 1 (t 83) (t 84), none⟩, ⟨(some 86), ld (t 85) 1 false, none⟩, ⟨(some 87), mv (t 12), none⟩, ⟨(some 88), sls (t 86) none (some (t 87)), none⟩, ⟨(some 89), callq (c (.fn 11 [])) [t 88], none⟩, ⟨(some 82), mv (t 89), none⟩, ⟨(some 90), ext (t 82) 0, none⟩, ⟨(some 91), ext (t 82) 1, none⟩, ⟨(some 13), alloc [.int .i64 0, .int .i64 0], none⟩, ⟨none, st (t 13) 2 (t 90), none⟩, ⟨(some 14), mv (t 91), none⟩]) (seq (reg [⟨(some 93), mv (t 4), none⟩, ⟨(some 94), mv (t 11), none⟩, ⟨(some 95), iad 1 (t 93) (t 94), none⟩, ⟨(some 96), ld (t 95) 1 false, none⟩, ⟨(some 97), mv (t 12), none⟩, ⟨(some 98), bin .add (t 97) (c (.int .i64 1)), none⟩, ⟨(some 99), sls (t 96) (some (t 98)) none, none⟩, ⟨(some 100), callq (c (.fn 12 [])) [t 99], none⟩, ⟨(some 92), mv (t 100), none⟩, ⟨(some 101), ext (t 92) 0, none⟩, ⟨(some 102), ext (t 92) 1, none⟩, ⟨(some 15), alloc [.int .i64 0, .int .u32 0], none⟩, ⟨none, st (t 15) 2 (t 101), none⟩, ⟨(some 16), mv (t 102), none⟩]) (seq (seq (reg [⟨(some 103), mv (t 14), none⟩, ⟨(some 104), un .not (t 103), none⟩, ⟨(some 105), mv (t 104), none⟩, ⟨(some 106), mv (t 16), some (105, false)⟩, ⟨(some 107), bin .neq (t 106) (c (.int .i64 0)), some (105, false)⟩, ⟨(some 108), pick (t 105) (c (.bool true)) (t 107), none⟩]) (cond (t 108) (seq (reg [⟨(some 109), bld [.int .i64 0, .int .u32 0, .int .i64 0, .sl [] true] [], none⟩, ⟨none, st (t 2) 4 (t 109), none⟩, ⟨(some 3), mv (c (.int .i64 5)), none⟩]) (ret)) (skip))) (reg [⟨(some 110), fad (t 10) 3, none⟩, ⟨(some 111), ld (t 110) 1 false, none⟩, ⟨(some 112), fad (t 8) 0, none⟩, ⟨(some 113), ld (t 112) 1 false, none⟩, ⟨(some 114), ld (t 15) 2 true, none⟩, ⟨(some 115), bld [.int .i64 0, .int .i64 0, .int .u32 0] [(0, 1, t 113), (1, 2, t 114)], none⟩, ⟨(some 116), ld (t 13) 2 true, none⟩, ⟨(some 117), bld [.int .i64 0, .int .i64 0, .int .u32 0, .int .i64 0, .int .i64 0] [(0, 3, t 115), (3, 2, t 116)], none⟩, ⟨(some 118), bsl 5 1 [.int .i64 0, .int .i64 0, .int .u32 0, .int .i64 0, .int .i64 0] [(0, t 117)], none⟩, ⟨(some 119), app 5 40 (t 111) (t 118), none⟩, ⟨(some 120), fad (t 10) 3, none⟩, ⟨none, st (t 120) 1 (t 119), none⟩]))))))) (reg [⟨(some 72), mv (t 11), none⟩, ⟨(some 73), bin .add (t 72) (c (.int .i64 1)), none⟩, ⟨(some 11), mv (t 73), none⟩])))))) (seq (seq (seq shift (reg [⟨(some 121), calle (c (.fn 40 [])) [t 10] [], none⟩, ⟨(some 122), un .not (t 121), none⟩, ⟨(some 123), mv (t 122), none⟩, ⟨(some 124), calle (c (.fn 41 [])) [t 10] [], some (123, false)⟩, ⟨(some 125), mv (t 0), some (123, false)⟩, ⟨(some 126), bin .neq (t 124) (t 125), some (123, false)⟩, ⟨(some 127), pick (t 123) (c (.bool true)) (t 126), none⟩])) (cond (t 127) (seq (reg [⟨(some 128), bld [.int .i64 0, .int .u32 0, .int .i64 0, .sl [] true] [], none⟩, ⟨none, st (t 2) 4 (t 128), none⟩, ⟨(some 3), mv (c (.int .i64 5)), none⟩]) (ret)) (skip))) (seq (reg [⟨(some 129), ld (t 10) 4 true, none⟩, ⟨none, st (t 2) 4 (t 129), none⟩, ⟨(some 3), mv (c (.int .i64 0)), none⟩]) (ret)))))))))))
def r_spec_ReadSum : List ARes := [.cell 2 4 true, .tmp 3]
theorem k_spec_ReadSum : acLin Go.Proofs.Tryz.prog 13 1 (inQ [11, 12, 35, 39] [9, 40, 41]) [⟨false, none, [], [], none⟩, ⟨false, none, [], [], none⟩, ⟨false, none, [], [], none⟩, ⟨false, none, [], [], none⟩, ⟨false, none, [], [], none⟩, ⟨false, none, [], [], none⟩, ⟨false, none, [], [], none⟩, ⟨false, none, [], [], none⟩, ⟨false, none, [], [], none⟩, ⟨false, none, [], [], none⟩, ⟨false, none, [], [], none⟩, ⟨false, none, [], [], none⟩, ⟨false, none, [], [], none⟩, ⟨false, none, [], [], none⟩, ⟨false, none, [], [], none⟩, ⟨false, none, [], [], none⟩, ⟨false, none, [], [], none⟩, ⟨false, none, [], [], none⟩, ⟨false, none, [], [], none⟩, ⟨false, none, [], [], none⟩, ⟨false, none, [], [], none⟩, ⟨false, none, [], [], none⟩, ⟨false, none, [], [], none⟩, ⟨false, none, [], [], none⟩, ⟨false, none, [], [], none⟩, ⟨false, none, [], [], none⟩, ⟨true, none, [], [], none⟩] = some (c_spec_ReadSum, r_spec_ReadSum) := by kernel_rfl
def c_laws_markTermS : AC := seq (reg [⟨(some 4), mv (c (.int .i64 0)), none⟩]) (seq (seq (reg [⟨(some 5), mv (c (.int .i64 0)), none⟩]) (block 0 (loop (seq (seq (reg [⟨(some 6), mv (t 5), none⟩, ⟨(some 7), mv (t 0), none⟩, ⟨(some 8), len (t 7), none⟩, ⟨(some 9), bin .lss (t 6) (t 8), none⟩]) (cond (t 9) (skip) (exit 0))) (seq (block 1 (seq (reg [⟨(some 12), mv (t 0), none⟩, ⟨(some 13), mv (t 5), none⟩, ⟨(some 14), mv (t 1), none⟩, ⟨(some 15), iad 5 (t 12) (t 13), none⟩, ⟨(some 16), fad (t 15) 0, none⟩, ⟨(some 17), fad (t 16) 0, none⟩, ⟨none, st (t 17) 1 (t 14), none⟩]) (seq (reg [⟨(some 18), mv (t 1), none⟩, ⟨(some 19), bin .add (t 18) (c (.int .i64 1)), none⟩, ⟨(some 1), mv (t 19), none⟩]) (seq (reg [⟨(some 20), mv (t 0), none⟩, ⟨(some 21), mv (t 5), none⟩, ⟨(some 22), mv (t 1), none⟩, ⟨(some 23), iad 5 (t 20) (t 21), none⟩, ⟨(some 24), fad (t 23) 0, none⟩, ⟨(some 25), fad (t 24) 1, none⟩, ⟨(some 26), fad (t 25) 0, none⟩, ⟨none, st (t 26) 1 (t 22), none⟩]) (seq (reg [⟨(some 27), mv (t 1), none⟩, ⟨(some 28), bin .add (t 27) (c (.int .i64 1)), none⟩, ⟨(some 1), mv (t 28), none⟩]) (seq (reg [⟨(some 29), mv (t 0), none⟩, ⟨(some 30), mv (t 5), none⟩, ⟨(some 31), mv (t 1), none⟩, ⟨(some 32), conv .u32 (t 31), none⟩, ⟨(some 33), iad 5 (t 29) (t 30), none⟩, ⟨(some 34), fad (t 33) 0, none⟩, ⟨(some 35), fad (t 34) 1, none⟩, ⟨(some 36), fad (t 35) 1, none⟩, ⟨none, st (t 36) 1 (t 32), none⟩]) (seq (reg [⟨(some 37), mv (t 1), none⟩, ⟨(some 38), bin .add (t 37) (c (.int .i64 1)), none⟩, ⟨(some 1), mv (t 38), none⟩]) (seq (reg [⟨(some 39), mv (t 0), none⟩, ⟨(some 40), mv (t 5), none⟩, ⟨(some 41), mv (t 1), none⟩, ⟨(some 42), iad 5 (t 39) (t 40), none⟩, ⟨(some 43), fad (t 42) 3, none⟩, ⟨(some 44), fad (t 43) 0, none⟩, ⟨none, st (t 44) 1 (t 41), none⟩]) (seq (reg [⟨(some 45), mv (t 1), none⟩, ⟨(some 46), bin .add (t 45) (c (.int .i64 1)), none⟩, ⟨(some 1), mv (t 46), none⟩]) (seq (reg [⟨(some 47), mv (t 0), none⟩, ⟨(some 48), mv (t 5), none⟩, ⟨(some 49), mv (t 1), none⟩, ⟨(some 50), iad 5 (t 47) (t 48), none⟩, ⟨(some 51), fad (t 50) 3, none⟩, ⟨(some 52), fad (t 51) 1, none⟩, ⟨none, st (t 52) 1 (t 49), none⟩]) (reg [⟨(some 53), mv (t 1), none⟩, ⟨(some 54), bin .add (t 53) (c (.int .i64 1)), none⟩, ⟨(some 1), mv (t 54), none⟩]))))))))))) (reg [⟨(some 10), mv (t 5), none⟩, ⟨(some 11), bin .add (t 10) (c (.int .i64 1)), none⟩, ⟨(some 5), mv (t 11), none⟩])))))) (seq (reg [⟨(some 55), mv (t 1), none⟩, ⟨(some 4), mv (t 55), none⟩]) (ret)))
def r_laws_markTermS : List ARes := [.tmp 4]
theorem k_laws_markTermS : acLin Go.Proofs.Tryz.prog 61 2 (inQ [] []) [] = some (c_laws_markTermS, r_laws_markTermS) := by kernel_rfl
def c_laws_heldTermS : AC := seq (reg [⟨(some 4), mv (c (.int .i64 0)), none⟩]) (seq (seq (reg [⟨(some 5), mv (c (.int .i64 0)), none⟩]) (block 0 (loop (seq (seq (reg [⟨(some 6), mv (t 5), none⟩, ⟨(some 7), mv (t 0), none⟩, ⟨(some 8), len (t 7), none⟩, ⟨(some 9), bin .lss (t 6) (t 8), none⟩]) (cond (t 9) (skip) (exit 0))) (seq (block 1 (seq (seq (reg [⟨(some 12), mv (t 0), none⟩, ⟨(some 13), mv (t 5), none⟩, ⟨(some 14), iad 5 (t 12) (t 13), none⟩, ⟨(some 15), fad (t 14) 0, none⟩, ⟨(some 16), fad (t 15) 0, none⟩, ⟨(some 17), ld (t 16) 1 false, none⟩, ⟨(some 18), mv (t 1), none⟩, ⟨(some 19), bin .neq (t 17) (t 18), none⟩]) (cond (t 19) (seq (reg [⟨(some 4), mv (c (.int .i64 (-1))), none⟩]) (ret)) (skip))) (seq (reg [⟨(some 20), mv (t 1), none⟩, ⟨(some 21), bin .add (t 20) (c (.int .i64 1)), none⟩, ⟨(some 1), mv (t 21), none⟩]) (seq (seq (reg [⟨(some 22), mv (t 0), none⟩, ⟨(some 23), mv (t 5), none⟩, ⟨(some 24), iad 5 (t 22) (t 23), none⟩, ⟨(some 25), fad (t 24) 0, none⟩, ⟨(some 26), fad (t 25) 1, none⟩, ⟨(some 27), fad (t 26) 0, none⟩, ⟨(some 28), ld (t 27) 1 false, none⟩, ⟨(some 29), mv (t 1), none⟩, ⟨(some 30), bin .neq (t 28) (t 29), none⟩]) (cond (t 30) (seq (reg [⟨(some 4), mv (c (.int .i64 (-1))), none⟩]) (ret)) (skip))) (seq (reg [⟨(some 31), mv (t 1), none⟩, ⟨(some 32), bin .add (t 31) (c (.int .i64 1)), none⟩, ⟨(some 1), mv (t 32), none⟩]) (seq (seq (reg [⟨(some 33), mv (t 0), none⟩, ⟨(some 34), mv (t 5), none⟩, ⟨(some 35), iad 5 (t 33) (t 34), none⟩, ⟨(some 36), fad (t 35) 0, none⟩, ⟨(some 37), fad (t 36) 1, none⟩, ⟨(some 38), fad (t 37) 1, none⟩, ⟨(some 39), ld (t 38) 1 false, none⟩, ⟨(some 40), mv (t 1), none⟩, ⟨(some 41), conv .u32 (t 40), none⟩, ⟨(some 42), bin .neq (t 39) (t 41), none⟩]) (cond (t 42) (seq (reg [⟨(some 4), mv (c (.int .i64 (-1))), none⟩]) (ret)) (skip))) (seq (reg [⟨(some 43), mv (t 1), none⟩, ⟨(some 44), bin .add (t 43) (c (.int .i64 1)), none⟩, ⟨(some 1), mv (t 44), none⟩]) (seq (seq (reg [⟨(some 45), mv (t 0), none⟩, ⟨(some 46), mv (t 5), none⟩, ⟨(some 47), iad 5 (t 45) (t 46), none⟩, ⟨(some 48), fad (t 47) 3, none⟩, ⟨(some 49), fad (t 48) 0, none⟩, ⟨(some 50), ld (t 49) 1 false, none⟩, ⟨(some 51), mv (t 1), none⟩, ⟨(some 52), bin .neq (t 50) (t 51), none⟩]) (cond (t 52) (seq (reg [⟨(some 4), mv (c (.int .i64 (-1))), none⟩]) (ret)) (skip))) (seq (reg [⟨(some 53), mv (t 1), none⟩, ⟨(some 54), bin .add (t 53) (c (.int .i64 1)), none⟩, ⟨(some 1), mv (t 54), none⟩]) (seq (seq (reg [⟨(some 55), mv (t 0), none⟩, ⟨(some 56), mv (t 5), none⟩, ⟨(some 57), iad 5 (t 55) (t 56), none⟩, ⟨(some 58), fad (t 57) 3, none⟩, ⟨(some 59), fad (t 58) 1, none⟩, ⟨(some 60), ld (t 59) 1 false, none⟩, ⟨(some 61), mv (t 1), none⟩, ⟨(some 62), bin .neq (t 60) (t 61), none⟩]) (cond (t 62) (seq (reg [⟨(some 4), mv (c (.int .i64 (-1))), none⟩]) (ret)) (skip))) (reg [⟨(some 63), mv (t 1), none⟩, ⟨(some 64), bin .add (t 63) (c (.int .i64 1)), none⟩, ⟨(some 1), mv (t 64), none⟩]))))))))))) (reg [⟨(some 10), mv (t 5), none⟩, ⟨(some 11), bin .add (t 10) (c (.int .i64 1)), none⟩, ⟨(some 5), mv (t 11), none⟩])))))) (seq (reg [⟨(some 65), mv (t 1), none⟩, ⟨(some 4), mv (t 65), none⟩]) (ret)))
def r_laws_heldTermS : List ARes := [.tmp 4]
theorem k_laws_heldTermS : acLin Go.Proofs.Tryz.prog 62 2 (inQ [] []) [] = some (c_laws_heldTermS, r_laws_heldTermS) := by kernel_rfl
def c_laws_markFlagSum : AC := seq (reg [⟨(some 2), box 4 (t 0), none⟩, ⟨(some 4), mv (c (.int .i64 0)), none⟩]) (seq (reg [⟨(some 5), fad (t 2) 3, none⟩, ⟨(some 6), ld (t 5) 1 false, none⟩, ⟨(some 7), mv (t 1), none⟩, ⟨(some 8), calle (c (.fn 61 [])) [t 6, t 7] [], none⟩, ⟨(some 1), mv (t 8), none⟩]) (seq (reg [⟨(some 9), mv (t 1), none⟩, ⟨(some 4), mv (t 9), none⟩]) (ret)))
def r_laws_markFlagSum : List ARes := [.tmp 4]
theorem k_laws_markFlagSum : acLin Go.Proofs.Tryz.prog 29 2 (inQ [] [61]) [] = some (c_laws_markFlagSum, r_laws_markFlagSum) := by kernel_rfl
def c_laws_heldFlagSum : AC := seq (reg [⟨(some 2), box 4 (t 0), none⟩, ⟨(some 4), mv (c (.int .i64 0)), none⟩]) (seq (reg [⟨(some 5), fad (t 2) 3, none⟩, ⟨(some 6), ld (t 5) 1 false, none⟩, ⟨(some 7), mv (t 1), none⟩, ⟨(some 8), calle (c (.fn 62 [])) [t 6, t 7] [], none⟩, ⟨(some 1), mv (t 8), none⟩]) (seq (seq (reg [⟨(some 9), mv (t 1), none⟩, ⟨(some 10), bin .lss (t 9) (c (.int .i64 0)), none⟩]) (cond (t 10) (seq (reg [⟨(some 4), mv (c (.int .i64 (-1))), none⟩]) (ret)) (skip))) (seq (reg [⟨(some 11), mv (t 1), none⟩, ⟨(some 4), mv (t 11), none⟩]) (ret))))
def r_laws_heldFlagSum : List ARes := [.tmp 4]
theorem k_laws_heldFlagSum : acLin Go.Proofs.Tryz.prog 31 2 (inQ [] [62]) [] = some (c_laws_heldFlagSum, r_laws_heldFlagSum) := by kernel_rfl
end Go.Proofs.YtgiakpeneckgfaaGreatDoorAi
end

section
/- Contracts: ReadSum of the program. -/
namespace Go.Proofs.YtgiakpeneckgfaaGreatDoorAi
open Go Go.RowKit
set_option linter.unusedVariables false
set_option linter.unusedSimpArgs false
set_option maxRecDepth 20000

/-! ### trimmed texts -/
noncomputable def sp_trimP : List AV → Option (AV) := pf (ι := (ByteArray) × (ByteArray)) (α := AV) (fun ⟨s, p⟩ => s.size ≤ 1048576) (fun ⟨s, p⟩ => [.str s, .str p]) (fun ⟨s, p⟩ => .str (cpA s p))
theorem sp_trimP_eq (s p : ByteArray) (h : s.size ≤ 1048576) : sp_trimP [.str s, .str p] = some (.str (cpA s p)) := by
  unfold sp_trimP
  exact pf_eq (ι := (ByteArray) × (ByteArray)) (α := AV) (s, p) h (by rintro ⟨s', p'⟩ _ e; simp_all [Int.natCast_inj])
theorem q_strings_TrimPrefix : QP PP 19 sp_trimP := by
  refine QP_pf (fun i h => ?_) fun i h => ?_
  · obtain ⟨s, p⟩ := i; exact ⟨by first | rfl | simp, by first | rfl | simp⟩
  obtain ⟨s, p⟩ := i
  refine T.lib ⟨_, Tryz.func19, by kernel_rfl, by kernel_rfl⟩ (fun σ w vs hr hG => ?_) .nil
  obtain ⟨v1, us, rfl, h1, h2⟩ := hr.head
  obtain ⟨v2, us2, rfl, h3, h4⟩ := h2.head
  obtain rfl : us2 = [] := List.eq_nil_of_length_eq_zero h4.1.symm
  cases h1; cases h3
  refine (Tryz.strings_TrimPrefix s p w).mono ?_
  rintro e w' ⟨rfl, rfl⟩
  exact ⟨_, rfl, Below.refl _ _, .str _⟩
def csA (s p : ByteArray) : ByteArray := ⟨(Go.Lib.trimSuffix s.data.toList p.data.toList).toArray⟩
noncomputable def sp_trimS : List AV → Option (AV) := pf (ι := (ByteArray) × (ByteArray)) (α := AV) (fun ⟨s, p⟩ => s.size ≤ 1048576) (fun ⟨s, p⟩ => [.str s, .str p]) (fun ⟨s, p⟩ => .str (csA s p))
theorem sp_trimS_eq (s p : ByteArray) (h : s.size ≤ 1048576) : sp_trimS [.str s, .str p] = some (.str (csA s p)) := by
  unfold sp_trimS
  exact pf_eq (ι := (ByteArray) × (ByteArray)) (α := AV) (s, p) h (by rintro ⟨s', p'⟩ _ e; simp_all [Int.natCast_inj])
theorem q_strings_TrimSuffix : QP PP 55 sp_trimS := by
  refine QP_pf (fun i h => ?_) fun i h => ?_
  · obtain ⟨s, p⟩ := i; exact ⟨by first | rfl | simp, by first | rfl | simp⟩
  obtain ⟨s, p⟩ := i
  replace h : s.size ≤ 1048576 := h
  refine T.lib ⟨_, Tryz.func55, by kernel_rfl, by kernel_rfl⟩ (fun σ w vs hr hG => ?_) .nil
  obtain ⟨v1, us, rfl, h1, h2⟩ := hr.head
  obtain ⟨v2, us2, rfl, h3, h4⟩ := h2.head
  obtain rfl : us2 = [] := List.eq_nil_of_length_eq_zero h4.1.symm
  cases h1; cases h3
  refine (Tryz.strings_TrimSuffix s p w (by omega)).mono ?_
  rintro e w' ⟨rfl, rfl⟩
  exact ⟨_, rfl, Below.refl _ _, .str _⟩
theorem csA_size (s p : ByteArray) : (csA s p).size ≤ s.size := by
  have e : s.size = s.data.toList.length := by rw [Array.length_toList]; rfl
  unfold csA Go.Lib.trimSuffix
  rw [e]
  split
  · simp only [ba_size, List.size_toArray, List.length_take]; omega
  · simp only [ba_size, List.size_toArray]; omega
/-! ### lists of terms that grow -/
@[simp] theorem gath_tm (l : List Tm) (n : Nat) (h : n = l.length) : gath 5 n (flatA (mapA tmA l)) = mapA tmA l := flatA_gath l n h
def lvT (N : Nat) (L : List Tm) : AV := if L = [] then .sl [] true else .ref N 5 0 L.length .full
def obT (L : List Tm) : List (Option (List AV)) := if L = [] then [] else [some (flatA (tmsA L))]
theorem lvT_nil (N : Nat) : lvT N [] = .sl [] true := rfl
theorem obT_nil : obT [] = [] := rfl
theorem lvT_cons {N : Nat} {L : List Tm} (h : L ≠ []) : lvT N L = .ref N 5 0 L.length .full := if_neg h
theorem obT_cons {L : List Tm} (h : L ≠ []) : obT L = [some (flatA (tmsA L))] := if_neg h
theorem tmE_snoc (L : List Tm) (k n e p q : Int) : flatA (tmsA L) ++ [.int .i64 k, .int .i64 n, .int .u32 e, .int .i64 p, .int .i64 q] = flatA (tmsA (L ++ [⟨k, n, e, p, q⟩])) := by
  rw [flatA_append]; rfl
/-! ### what is read -/
def lineI (w : ByteArray) : Option (Nat × Nat × Int × Int) := (rgO (cutB w sepB)).bind fun g => if readOk (cutA w sepB) = true then some (g.1, g.2, numV (topS (cutA w sepB)), numV (botS (cutA w sepB))) else none
def goT (tn : Int) : List ByteArray → Nat → List Tm → Option (List Tm)
  | [], _, L => some L
  | w :: r, i, L => if 64 < i then none else (lineI w).bind fun x => goT tn r (i + 1) (L ++ [⟨tn, x.1, x.2.1, x.2.2.1, x.2.2.2⟩])
def rsW (s : ByteArray) : List ByteArray := piecesB (csA s lineB) lineB
def rsH (s : ByteArray) : ByteArray := cpA ((rsW s)[0]?.getD noB) sumWB
def rsF (s : ByteArray) (tn te sz : Int) (L : List Tm) : Prop := sumB tn te sz L = true ∧ (sumX tn te sz L == s) = true
open Classical in
noncomputable def isO (s : ByteArray) : Option (Int × Int × Int × List Tm) := (rgO (cutB (rsH s) sepB)).bind fun g => (goT g.1 (rsW s).tail 1 []).bind fun L => if rsF s g.1 g.2 (numV (cutA (rsH s) sepB)) L then some ((g.1 : Int), (g.2 : Int), numV (cutA (rsH s) sepB), L) else none
def rsA : Option (Int × Int × Int × List Tm) → AV
  | some (n, e, s, L) => .tup [.agg [.int .i64 n, .int .u32 e, .int .i64 s, lvT 0 L], .int .i64 0]
  | none => .tup [.agg [.int .i64 0, .int .u32 0, .int .i64 0, .sl [] true], .int .i64 5]
def rsB : Option (Int × Int × Int × List Tm) → List (Option (List AV))
  | some (_, _, _, L) => obT L
  | none => []
theorem goI_lt {n : Int} (hn : n ≤ 5) : ∀ (W : List ByteArray) (a m : Nat), a < 1024 → goI n W a = some m → m < 1024
  | [], a, m, ha, h => by
    rw [goI] at h; injection h with h; omega
  | w :: r, a, m, ha, h => by
    rw [goI] at h
    split at h
    · rename_i hk
      unfold edgeOk at hk
      simp only [Bool.and_eq_true] at hk
      exact goI_lt hn r _ m (Nat.or_lt_two_pow (n := 10) ha (bit_small (pairI_in hn hk.2))) h
    · cases h
theorem rgO_lt {s : ByteArray} {n m : Nat} (h : rgO s = some (n, m)) : n ≤ 5 ∧ m < 1024 := by
  refine ⟨(rgO_text h).1, ?_⟩
  unfold rgO at h
  split at h
  · rename_i hok
    unfold okI at hok
    simp only [Bool.and_eq_true, decide_eq_true_eq] at hok
    cases hg : goI (nI s) ((wdI s).drop 1) 0 with
    | none => rw [hg] at h; cases h
    | some k =>
      rw [hg, Option.bind_some] at h
      split at h
      · injection h with h
        injection h with h1 h2
        subst h2
        exact goI_lt hok.2.2 _ 0 k (by decide) hg
      · cases h
  · cases h
theorem rsB_inj (f : Nat → Nat) (o : Option (Int × Int × Int × List Tm)) : injB f (rsB o).length = true := by
  cases o with
  | none => rfl
  | some x =>
    obtain ⟨n, e, s, L⟩ := x
    by_cases hL : L = []
    · subst hL; rfl
    · show injB f (obT L).length = true
      rw [obT_cons hL]; rfl
theorem rsA_lt0 (o : Option (Int × Int × Int × List Tm)) : AV.lt (rsB o).length (rsA o) = true := by
  cases o with
  | none => rfl
  | some x =>
    obtain ⟨n, e, s, L⟩ := x
    by_cases hL : L = []
    · subst hL; rfl
    · show AV.lt (obT L).length (.tup [.agg [.int .i64 n, .int .u32 e, .int .i64 s, lvT 0 L], .int .i64 0]) = true
      rw [obT_cons hL, lvT_cons hL]; rfl
def rsSt (s : ByteArray) (W : List ByteArray) (tn te sz : Int) : Nat × List Tm → St
  | (0, _) => ⟨tl [(0, .str s), (2, .ptr 0 0), (4, .ptr 1 0), (16, .ref 2 1 0 W.length .tight), (17, .int .i64 W.length), (18, .int .i64 0)], ⟨[some [.int .i64 0, .int .u32 0, .int .i64 0, .sl [] true], some [.int .i64 0, .int .u32 0, .int .i64 0, .sl [] true], some (strsA W)]⟩⟩
  | (i + 1, L) => ⟨tl [(0, .str s), (2, .ptr 0 0), (4, .ptr 1 0), (16, .ref 2 1 0 W.length .tight), (17, .int .i64 W.length), (18, .int .i64 ((i : Int) + 1))], ⟨some [.int .i64 0, .int .u32 0, .int .i64 0, .sl [] true] :: some [.int .i64 tn, .int .u32 te, .int .i64 sz, lvT 3 L] :: some (strsA W) :: obT L⟩⟩
noncomputable def sp_readSm : List AV → Option (AV × List (Option (List AV))) := pf (ι := (ByteArray)) (α := AV × List (Option (List AV))) (fun s => s.size ≤ 1048576) (fun s => [.str s]) (fun s => (rsA (isO s), rsB (isO s)))
theorem sp_readSm_eq (s : ByteArray) (h : s.size ≤ 1048576) : sp_readSm [.str s] = some ((rsA (isO s), rsB (isO s))) := by
  unfold sp_readSm
  exact pf_eq (ι := (ByteArray)) (α := AV × List (Option (List AV))) s h (by rintro s' _ e; simp_all [Int.natCast_inj])
set_option maxHeartbeats 4000000 in
theorem n_impl_ReadSum : QN PP 22 sp_readSm := by
  refine QN_pf (fun s h => ?_) fun s h => ?_
  · first | rfl | simp
  replace h : s.size ≤ 1048576 := h
  show T PP 22 [.str s] .nil fun r' A' => r' = (((rsA (isO s), rsB (isO s)) : AV × List (Option (List AV)))).1 ∧ A' = ⟨(((rsA (isO s), rsB (isO s)) : AV × List (Option (List AV)))).2⟩
  have hcs := csA_size s lineB
  have hts : sp_trimS [.str s, .str ⟨#[10]⟩] = some (.str (csA s lineB)) := sp_trimS_eq s lineB h
  have hsp : sp_pieces [.str (csA s lineB), .str ⟨#[10]⟩] = some (.ref 0 1 0 (rsW s).length .tight, [some (flatA (strsA (rsW s)))]) := sp_pieces_eq (csA s lineB) lineB ⟨by omega, rfl⟩
  rw [flat_strs] at hsp
  have hlen : 0 < (rsW s).length := by unfold rsW; rw [pieces_len _ _ (by decide)]; omega
  have hmost : (rsW s).length ≤ 1048577 := by
    unfold rsW; rw [pieces_len _ _ (by decide)]
    have := count_le (csA s lineB) lineB (by decide)
    omega
  have hsz : ∀ w ∈ rsW s, w.size ≤ 1048576 := fun w hw => by
    have := splitB_size lineB _ _ w hw
    omega
  refine H_code (Quiet.q1 q_strings_TrimSuffix (Quiet.q1 q_strings_TrimPrefix (Quiet.q1 q_strings_Cut (Quiet.q1 q_impl_ReadGraph (Quiet.q1 q_impl_number (Quiet.q1 q_impl_ReadFraction (Quiet.e1 n_strings_Split.toE (Quiet.e1 q_impl_ValidSum.toR (Quiet.e1 q_impl_FlagSum_text.toR Quiet.nil))))))))) hmix k_impl_ReadSum rfl (fun _ => 3) (by simp [AHeap.n, AHeap.nil]) (by intro b hb; simp [AHeap.n, AHeap.nil] at hb) (rsB_inj _ _) (rsA_lt0 _) ?_
  obtain ⟨R, hR⟩ : ∃ R, R = isO s := ⟨_, rfl⟩
  rw [← hR]
  unfold isO at hR
  have e0 : (rsW s)[0]'hlen = (rsW s)[0]?.getD noB := by rw [List.getElem?_eq_getElem hlen]; rfl
  have hw0 := hsz _ (List.getElem_mem hlen)
  have hH : rsH s = cpA ((rsW s)[0]'hlen) sumWB := by unfold rsH; rw [e0]
  have htp : sp_trimP [.str ((rsW s)[0]'hlen), .str ⟨#[115, 117, 109, 32]⟩] = some (.str (rsH s)) := by rw [hH]; exact sp_trimP_eq _ sumWB hw0
  have hHs : (rsH s).size ≤ 1048576 := by rw [hH]; have := cpA_size ((rsW s)[0]'hlen) sumWB; omega
  have hcH : sp_cutS [.str (rsH s), .str ⟨#[32]⟩] = some (.tup [.str (cutA (rsH s) sepB), .str (cutB (rsH s) sepB), .bool (cutI (rsH s) sepB)]) := sp_cutS_eq (rsH s) sepB hHs
  have hcz := cut_sizes (rsH s) sepB
  have hgH := sp_readGr_eq (cutB (rsH s) sepB) (by omega)
  have hnH := sp_numI_eq (cutA (rsH s) sepB) (by omega)
  generalize hW : rsW s = W at *
  generalize rsH s = H at *
  have q0 : W[0]? = some (W[0]'hlen) := List.getElem?_eq_getElem hlen
  have r3 : ∀ n, ltL n (strsA W) = true := fun n => by rw [← flat_strs]; simp
  have rr : ∀ f, renL f (strsA W) = strsA W := fun f => by rw [← flat_strs]; simp
  generalize hw0' : W[0]'hlen = w0 at *
  generalize numV (cutA H sepB) = sz at *
  cases hh : rgO (cutB H sepB) with
  | none =>
    rw [hh] at hR hgH
    have hR : R = none := hR
    subst hR
    simp -dsimp -implicitDefEqProofs [c_impl_ReadSum, r_impl_ReadSum, hts, hsp, rr]
    refine wpLoop_st (rsSt s W 0 0 0) (fun q => q.1 = 0) (fun q => 0) (0, []) rfl (Sub.keep (by simp [rsSt]) (by simp [hsub, rsSt, r3, rr]) (by simp [rsSt])) ?_
    rintro ⟨i, L⟩ hi
    simp only at hi
    subst hi
    simp -dsimp -implicitDefEqProofs [rsSt, hlen, q0, hw0', htp, hcH, hgH, rgA, rsA, rsB, hsub]
  | some g =>
    obtain ⟨n, m⟩ := g
    rw [hh] at hR hgH
    have hnm := rgO_lt hh
    rw [Option.bind_some] at hR
    simp -dsimp -implicitDefEqProofs [c_impl_ReadSum, r_impl_ReadSum, hts, hsp, rr]
    refine wpLoop_st (rsSt s W n m sz) (fun q => q.1 ≤ W.length ∧ (1 ≤ q.1 → q.2.length = q.1 - 1 ∧ u32L q.2 ∧ goT n (W.drop q.1) q.1 q.2 = goT n W.tail 1 [])) (fun q => W.length - q.1) (0, []) ⟨by omega, fun h => by omega⟩ (Sub.keep (by simp [rsSt]) (by simp [hsub, rsSt, r3, rr]) (by simp [rsSt])) ?_
    rintro ⟨i, L⟩ ⟨hi, hp⟩
    simp only at hi hp
    rcases i with _ | i
    · simp -dsimp -implicitDefEqProofs [rsSt, hlen, q0, hw0', htp, hcH, hgH, rgA, hnH]
      have w1 : IntKind.wrap .i64 1 = 1 := rfl
      exact .mk (1, []) ⟨by simp only; omega, fun _ => ⟨rfl, (fun x hx => (by cases hx)), (by simp)⟩⟩ (by simp only; omega) (Sub.keep (by simp [rsSt, obT_nil]) (by simp [hsub, rsSt, r3, rr, obT_nil, lvT_nil]) (by simp [rsSt, w1]))
    obtain ⟨hLl, hu, hg⟩ := hp (by omega)
    have hwi : IntKind.wrap .i64 ((i : Int) + 1 + 1) = (i : Int) + 1 + 1 := wrapI64 (by omega) (by omega)
    have hv := sp_sumOk_eq n m sz L ⟨by omega, by simp only [maxLen]; omega, hu⟩
    have ht : sumB n m sz L = true → sp_sumX [.agg [.int .i64 n, .int .u32 m, .int .i64 sz, .sl (tmsA L) false]] = some (.str (sumX n m sz L)) := fun hb => sp_sumX_eq n m sz L (sumB_in hb (by omega) hu)
    by_cases hL : L = []
    · subst hL
      have l1 : 1 * 41 ≤ mostBytes := by decide
      simp -dsimp -implicitDefEqProofs [rsSt, obT_nil, lvT_nil]
      refine brW_of (fun h => ?_) (fun h => ?_) <;> simp only [decide_eq_true_eq, decide_eq_false_iff_not] at h
      · have hx : i + 1 < W.length := by omega
        have hxi : (i : Int) + 1 < W.length := by omega
        have hi0 : (0 : Int) ≤ (i : Int) + 1 := by omega
        have hiz : ((i : Int) + 1 == 0) = false := by simp; omega
        have q1 : W[i + 1]? = some W[i + 1] := List.getElem?_eq_getElem hx
        have hwsz := hsz _ (List.getElem_mem hx)
        rw [drop_cons hx, goT] at hg
        generalize hww : W[i + 1] = w at *
        have hct : sp_cutS [.str w, .str ⟨#[32]⟩] = some (.tup [.str (cutA w sepB), .str (cutB w sepB), .bool (cutI w sepB)]) := sp_cutS_eq w sepB hwsz
        have hcz2 := cut_sizes w sepB
        have hgr := sp_readGr_eq (cutB w sepB) (by omega)
        have hfr := sp_readFr_eq (cutA w sepB) (by omega)
        cases hl : rgO (cutB w sepB) with
        | none =>
          have hn : goT n W.tail 1 [] = none := by
            rw [← hg]
            split
            · rfl
            · unfold lineI; rw [hl]; rfl
          rw [hn] at hR
          have hR : R = none := hR
          subst hR
          rw [hl] at hgr
          simp -dsimp -implicitDefEqProofs [hx, hxi, hi0, hiz, q1, hww, hct, hgr, rgA, rsA, rsB, hsub]
        | some g2 =>
          obtain ⟨n2, m2⟩ := g2
          have hnm2 := rgO_lt hl
          rw [hl] at hgr
          by_cases c64 : 64 < i + 1
          · have c64i : (64 : Int) < (i : Int) + 1 := by omega
            rw [if_pos c64] at hg
            rw [← hg] at hR
            have hR : R = none := hR
            subst hR
            simp -dsimp -implicitDefEqProofs [hx, hxi, hi0, hiz, q1, hww, hct, hgr, rgA, c64, c64i, rsA, rsB, hsub]
          have c64i : ¬ (64 : Int) < (i : Int) + 1 := by omega
          rw [if_neg c64] at hg
          cases hrd : readOk (cutA w sepB) with
          | false =>
            have hli : lineI w = none := by unfold lineI; rw [hl, Option.bind_some, hrd]; rfl
            rw [hli] at hg
            rw [← hg] at hR
            have hR : R = none := hR
            subst hR
            unfold readR at hfr
            rw [hrd, if_neg (by decide)] at hfr
            simp -dsimp -implicitDefEqProofs [hx, hxi, hi0, hiz, q1, hww, hct, hgr, rgA, c64, c64i, hfr, rsA, rsB, hsub]
          | true =>
            have hli : lineI w = some (n2, m2, numV (topS (cutA w sepB)), numV (botS (cutA w sepB))) := by unfold lineI; rw [hl, Option.bind_some, hrd]; rfl
            rw [hli, Option.bind_some] at hg
            unfold readR at hfr
            rw [hrd, if_pos rfl] at hfr
            generalize numV (topS (cutA w sepB)) = P at *
            generalize numV (botS (cutA w sepB)) = Q at *
            have e5 : [(⟨n, n2, m2, P, Q⟩ : Tm)] ≠ [] := by simp
            simp -dsimp -implicitDefEqProofs [hx, hxi, hi0, hiz, q1, hww, hct, hgr, rgA, c64, c64i, hfr, l1]
            refine .mk (i + 1 + 1, [⟨n, n2, m2, P, Q⟩]) ⟨by simp only; omega, fun _ => ⟨by simp at hLl ⊢; omega, ?_, hg⟩⟩ (by simp only; omega) (Sub.mk' (fun b => if b = 3 then 6 else b) (by simp [rsSt, obT_cons e5]) (by intro b hb; simp [rsSt, obT_cons e5] at hb <;> omega) (by first | rfl | (rw [obT_cons e5]; rfl)) (by simp [hsub, rsSt, obT_cons e5, lvT_cons e5, r3, rr, flatA_cons]) (by simp [rsSt, hwi]))
            intro x hx'
            obtain rfl := List.mem_singleton.1 hx'
            simp only; omega
      · have hiW : i + 1 = W.length := by omega
        rw [hiW, List.drop_length, goT] at hg
        rw [← hg, Option.bind_some] at hR
        cases hb : sumB n m sz [] with
        | false =>
          rw [hb] at hv
          have hv : sp_sumOk [.agg [.int .i64 n, .int .u32 m, .int .i64 sz, .sl [] false]] = _ := hv
          have hR2 : R = none := by rw [hR, if_neg]; intro hF; rw [rsF, hb] at hF; exact absurd hF.1 (by decide)
          subst hR2
          simp -dsimp -implicitDefEqProofs [hv, rsA, rsB, hsub]
        | true =>
          rw [hb] at hv
          have hv : sp_sumOk [.agg [.int .i64 n, .int .u32 m, .int .i64 sz, .sl [] false]] = _ := hv
          have ht : sp_sumX [.agg [.int .i64 n, .int .u32 m, .int .i64 sz, .sl [] false]] = _ := ht hb
          cases hq : (sumX n m sz [] == s) with
          | false =>
            have hq' : (sumX n m sz [] != s) = true := by unfold bne; rw [hq]; rfl
            have hR2 : R = none := by rw [hR, if_neg]; intro hF; rw [rsF, hq] at hF; exact absurd hF.2 (by decide)
            subst hR2
            simp -dsimp -implicitDefEqProofs [hv, ht, hq, hq', rsA, rsB, hsub]
          | true =>
            have hq' : (sumX n m sz [] != s) = false := by unfold bne; rw [hq]; rfl
            have hR2 : R = some ((n : Int), (m : Int), sz, []) := by rw [hR, if_pos]; exact ⟨hb, hq⟩
            subst hR2
            simp -dsimp -implicitDefEqProofs [hv, ht, hq, hq', rsA, rsB, obT_nil, lvT_nil, hsub]
    · have l1 : (L.length + 1) * 41 ≤ mostBytes := by simp only [mostBytes]; omega
      have l2 : ¬ ((L.length + 1) * 5 ≤ L.length * 5) := by omega
      have l3 : (flatA (tmsA L)).take (L.length * 5) = flatA (tmsA L) := List.take_of_length_le (by simp)
      simp -dsimp -implicitDefEqProofs [rsSt, obT_cons hL, lvT_cons hL]
      refine brW_of (fun h => ?_) (fun h => ?_) <;> simp only [decide_eq_true_eq, decide_eq_false_iff_not] at h
      · have hx : i + 1 < W.length := by omega
        have hxi : (i : Int) + 1 < W.length := by omega
        have hi0 : (0 : Int) ≤ (i : Int) + 1 := by omega
        have hiz : ((i : Int) + 1 == 0) = false := by simp; omega
        have q1 : W[i + 1]? = some W[i + 1] := List.getElem?_eq_getElem hx
        have hwsz := hsz _ (List.getElem_mem hx)
        rw [drop_cons hx, goT] at hg
        generalize hww : W[i + 1] = w at *
        have hct : sp_cutS [.str w, .str ⟨#[32]⟩] = some (.tup [.str (cutA w sepB), .str (cutB w sepB), .bool (cutI w sepB)]) := sp_cutS_eq w sepB hwsz
        have hcz2 := cut_sizes w sepB
        have hgr := sp_readGr_eq (cutB w sepB) (by omega)
        have hfr := sp_readFr_eq (cutA w sepB) (by omega)
        cases hl : rgO (cutB w sepB) with
        | none =>
          have hn : goT n W.tail 1 [] = none := by
            rw [← hg]
            split
            · rfl
            · unfold lineI; rw [hl]; rfl
          rw [hn] at hR
          have hR : R = none := hR
          subst hR
          rw [hl] at hgr
          simp -dsimp -implicitDefEqProofs [hx, hxi, hi0, hiz, q1, hww, hct, hgr, rgA, rsA, rsB, hsub]
        | some g2 =>
          obtain ⟨n2, m2⟩ := g2
          have hnm2 := rgO_lt hl
          rw [hl] at hgr
          by_cases c64 : 64 < i + 1
          · have c64i : (64 : Int) < (i : Int) + 1 := by omega
            rw [if_pos c64] at hg
            rw [← hg] at hR
            have hR : R = none := hR
            subst hR
            simp -dsimp -implicitDefEqProofs [hx, hxi, hi0, hiz, q1, hww, hct, hgr, rgA, c64, c64i, rsA, rsB, hsub]
          have c64i : ¬ (64 : Int) < (i : Int) + 1 := by omega
          rw [if_neg c64] at hg
          cases hrd : readOk (cutA w sepB) with
          | false =>
            have hli : lineI w = none := by unfold lineI; rw [hl, Option.bind_some, hrd]; rfl
            rw [hli] at hg
            rw [← hg] at hR
            have hR : R = none := hR
            subst hR
            unfold readR at hfr
            rw [hrd, if_neg (by decide)] at hfr
            simp -dsimp -implicitDefEqProofs [hx, hxi, hi0, hiz, q1, hww, hct, hgr, rgA, c64, c64i, hfr, rsA, rsB, hsub]
          | true =>
            have hli : lineI w = some (n2, m2, numV (topS (cutA w sepB)), numV (botS (cutA w sepB))) := by unfold lineI; rw [hl, Option.bind_some, hrd]; rfl
            rw [hli, Option.bind_some] at hg
            unfold readR at hfr
            rw [hrd, if_pos rfl] at hfr
            have e2 := tmE_snoc L n n2 m2 (numV (topS (cutA w sepB))) (numV (botS (cutA w sepB)))
            generalize numV (topS (cutA w sepB)) = P at *
            generalize numV (botS (cutA w sepB)) = Q at *
            have e5 : L ++ [(⟨n, n2, m2, P, Q⟩ : Tm)] ≠ [] := by simp
            simp -dsimp -implicitDefEqProofs [hx, hxi, hi0, hiz, q1, hww, hct, hgr, rgA, c64, c64i, hfr, l1, l2, l3, e2]
            refine .mk (i + 1 + 1, L ++ [⟨n, n2, m2, P, Q⟩]) ⟨by simp only; omega, fun _ => ⟨by simp at hLl ⊢; omega, ?_, hg⟩⟩ (by simp only; omega) (Sub.mk' (fun b => if b = 3 then 7 else b) (by simp [rsSt, obT_cons e5]) (by intro b hb; simp [rsSt, obT_cons e5] at hb <;> omega) (by first | rfl | (rw [obT_cons e5]; rfl)) (by simp [hsub, rsSt, obT_cons e5, lvT_cons e5, r3, rr]) (by simp [rsSt, hwi]))
            intro x hx'
            rcases List.mem_append.1 hx' with hx' | hx'
            · exact hu x hx'
            · obtain rfl := List.mem_singleton.1 hx'
              simp only; omega
      · have hiW : i + 1 = W.length := by omega
        rw [hiW, List.drop_length, goT] at hg
        rw [← hg, Option.bind_some] at hR
        cases hb : sumB n m sz L with
        | false =>
          rw [hb] at hv
          have hR2 : R = none := by rw [hR, if_neg]; intro hF; rw [rsF, hb] at hF; exact absurd hF.1 (by decide)
          subst hR2
          simp -dsimp -implicitDefEqProofs [hv, rsA, rsB, hsub]
        | true =>
          rw [hb] at hv
          have ht := ht hb
          cases hq : (sumX n m sz L == s) with
          | false =>
            have hq' : (sumX n m sz L != s) = true := by unfold bne; rw [hq]; rfl
            have hR2 : R = none := by rw [hR, if_neg]; intro hF; rw [rsF, hq] at hF; exact absurd hF.2 (by decide)
            subst hR2
            simp -dsimp -implicitDefEqProofs [hv, ht, hq, hq', rsA, rsB, hsub]
          | true =>
            have hq' : (sumX n m sz L != s) = false := by unfold bne; rw [hq]; rfl
            have hR2 : R = some ((n : Int), (m : Int), sz, L) := by rw [hR, if_pos]; exact ⟨hb, hq⟩
            subst hR2
            simp -dsimp -implicitDefEqProofs [hv, ht, hq, hq', rsA, rsB, obT_cons hL, lvT_cons hL, hsub]
end Go.Proofs.YtgiakpeneckgfaaGreatDoorAi
end

section
/- Contracts: ReadSum of the reference. -/
namespace Go.Proofs.YtgiakpeneckgfaaGreatDoorAi
open Go Go.RowKit
set_option linter.unusedVariables false
set_option linter.unusedSimpArgs false
set_option maxRecDepth 20000

def cutF (s : ByteArray) : Nat → Nat → Int → Int
  | 0, _, _ => -1
  | k + 1, i, n => if bAt s i = 32 then (if n - 1 = 0 then (i : Int) else cutF s k (i + 1) (n - 1)) else cutF s k (i + 1) n
def cutN (s : ByteArray) (n : Int) : Int := cutF s s.size 0 n
theorem cutF_in (s : ByteArray) : ∀ k i n, -1 ≤ cutF s k i n ∧ cutF s k i n < (i + k : Nat) ∧ (0 ≤ cutF s k i n → (i : Int) ≤ cutF s k i n)
  | 0, i, n => by simp [cutF]; omega
  | k + 1, i, n => by
    rw [cutF]
    split
    · split
      · refine ⟨by omega, by omega, fun _ => by omega⟩
      · obtain ⟨h1, h2, h3⟩ := cutF_in s k (i + 1) (n - 1)
        refine ⟨h1, by omega, fun h => by have := h3 h; omega⟩
    · obtain ⟨h1, h2, h3⟩ := cutF_in s k (i + 1) n
      refine ⟨h1, by omega, fun h => by have := h3 h; omega⟩
theorem cutN_in (s : ByteArray) (n : Int) : -1 ≤ cutN s n ∧ (cutN s n < s.size ∨ cutN s n = -1) := by
  obtain ⟨h1, h2, h3⟩ := cutF_in s s.size 0 n
  unfold cutN
  exact ⟨h1, .inl (by omega)⟩
noncomputable def sp_l05Cut : List AV → Option (AV) := pf (ι := (ByteArray) × (Int)) (α := AV) (fun ⟨s, n⟩ => s.size ≤ 1048576 ∧ 1 ≤ n ∧ n ≤ 2) (fun ⟨s, n⟩ => [.str s, .int .i64 n]) (fun ⟨s, n⟩ => .int .i64 (cutN s n))
theorem sp_l05Cut_eq (s : ByteArray) (n : Int) (h : s.size ≤ 1048576 ∧ 1 ≤ n ∧ n ≤ 2) : sp_l05Cut [.str s, .int .i64 n] = some (.int .i64 (cutN s n)) := by
  unfold sp_l05Cut
  exact pf_eq (ι := (ByteArray) × (Int)) (α := AV) (s, n) h (by rintro ⟨s', n'⟩ _ e; simp_all [Int.natCast_inj])
theorem q_spec_l05Cut : QP PP 39 sp_l05Cut := by
  refine QP_pf (fun i h => ?_) fun i h => ?_
  · obtain ⟨s, n⟩ := i; exact ⟨by first | rfl | simp, by first | rfl | simp⟩
  obtain ⟨s, n⟩ := i
  replace h : s.size ≤ 1048576 ∧ 1 ≤ n ∧ n ≤ 2 := h
  refine P_code Quiet.nil hmix k_spec_l05Cut rfl ?_ ?_
  · first | rfl | simp
  show wpc 0 PP _ c_spec_l05Cut (initSt [.str s, .int .i64 n] .nil) (endP r_spec_l05Cut (.int .i64 (cutN s n)))
  obtain ⟨hs, h1, h2⟩ := h
  simp -dsimp -implicitDefEqProofs [c_spec_l05Cut, r_spec_l05Cut]
  refine wpLoop_st (fun (q : Nat × Int) => ⟨tl [(0, .str s), (1, .int .i64 q.2), (5, .int .i64 q.1)], ⟨[]⟩⟩) (fun q => q.1 ≤ s.size ∧ (1 ≤ q.2 ∧ q.2 ≤ 2) ∧ cutF s (s.size - q.1) q.1 q.2 = cutN s n) (fun q => s.size - q.1) (0, n) ⟨by simp, ⟨h1, h2⟩, rfl⟩ (Sub.keep (by simp) (by simp [hsub]) (by simp)) ?_
  rintro ⟨i, m⟩ ⟨hi, hm, hc⟩
  simp only at hi hm hc
  simp -dsimp -implicitDefEqProofs
  refine brW_of (fun h => ?_) (fun h => ?_) <;> simp only [decide_eq_true_eq, decide_eq_false_iff_not] at h
  · have hx : i < s.size := by omega
    have hw := wrapNat (i := i) (by omega)
    have hg := idx_at s i hx
    have w1 : IntKind.wrap .i64 (m - 1) = m - 1 := wrapI64 (by omega) (by omega)
    rw [show s.size - i = (s.size - (i + 1)) + 1 by omega, cutF] at hc
    by_cases hb : bAt s i = 32
    · have hb' : (bAt s i == 32) = true := by simpa using hb
      rw [if_pos hb] at hc
      by_cases hz : m - 1 = 0
      · have hz' : (m - 1 == 0) = true := by simpa using hz
        rw [if_pos hz] at hc
        rw [← hc]
        have w0 : IntKind.wrap .i64 0 = 0 := rfl
        simp -dsimp -implicitDefEqProofs [hx, hg, hb, hb', w1, w0, hz, hz']
      · have hz' : (m - 1 == 0) = false := by simpa using hz
        rw [if_neg hz] at hc
        simp -dsimp -implicitDefEqProofs [hx, hg, hb, hb', w1, hz, hz', hw]
        exact .mk (i + 1, m - 1) ⟨by simp only; omega, ⟨by simp only; omega, by simp only; omega⟩, hc⟩ (by simp only; omega) (Sub.keep (by simp) (by simp [hsub]) (by simp [hw]))
    · have hb' : (bAt s i == 32) = false := by simpa using hb
      rw [if_neg hb] at hc
      simp -dsimp -implicitDefEqProofs [hx, hg, hb, hb', hw]
      exact .mk (i + 1, m) ⟨by simp only; omega, hm, hc⟩ (by simp only; omega) (Sub.keep (by simp) (by simp [hsub]) (by simp [hw]))
  · have : i = s.size := by omega
    subst this
    rw [Nat.sub_self, cutF] at hc
    simp -dsimp -implicitDefEqProofs [← hc]
def lineS (w : ByteArray) : Option (Nat × Nat × Int × Int) := if cutN w 1 < 0 then none else if rdOk (w.extract 0 (cutN w 1).toNat) = true then (rsO (w.extract ((cutN w 1).toNat + 1) w.size)).bind fun g => some (g.1, g.2, rdP (w.extract 0 (cutN w 1).toNat), rdQ (w.extract 0 (cutN w 1).toNat)) else none
def goU (tn : Int) : List ByteArray → List Tm → Option (List Tm)
  | [], L => some L
  | w :: r, L => (lineS w).bind fun x => goU tn r (L ++ [⟨tn, x.1, x.2.1, x.2.2.1, x.2.2.2⟩])
def ssW (s : ByteArray) : List ByteArray := splitL s 10
def ss0 (s : ByteArray) : ByteArray := (ssW s)[0]?.getD noB
def ssT (s : ByteArray) : Int := cutN (ss0 s) 2
def ssK (s : ByteArray) : Bool := (!(decide (ssT s < 4)) && ((ss0 s).extract 0 4 == sumWB)) && !(decide (66 < (ssW s).length))
def ssN (s : ByteArray) : ByteArray := (ss0 s).extract 4 (ssT s).toNat
def ssG (s : ByteArray) : ByteArray := (ss0 s).extract ((ssT s).toNat + 1) (ss0 s).size
open Classical in
noncomputable def ssO (s : ByteArray) : Option (Int × Int × Int × List Tm) := if ssK s = true ∧ l01B (ssN s) = true then (rsO (ssG s)).bind fun g => (goU g.1 (ssW s).tail.dropLast []).bind fun L => if rsF s g.1 g.2 (l01V (ssN s)) L then some ((g.1 : Int), (g.2 : Int), l01V (ssN s), L) else none else none
def ssA : Option (Int × Int × Int × List Tm) → AV
  | some (n, e, s, L) => .tup [.agg [.int .i64 n, .int .u32 e, .int .i64 s, .sl (tmsA L) false], .int .i64 0]
  | none => .tup [.agg [.int .i64 0, .int .u32 0, .int .i64 0, .sl [] true], .int .i64 5]
@[simp] theorem ssA_lt (o : Option (Int × Int × Int × List Tm)) (k : Nat) : (ssA o).lt k = true := by
  cases o with
  | none => rfl
  | some x =>
    obtain ⟨n, e, s, L⟩ := x
    simp [ssA]
theorem dl_cons {α : Type} {W : List α} {i : Nat} (h : i + 1 < W.length) : (W.drop i).dropLast = W[i] :: (W.drop (i + 1)).dropLast := by
  rw [List.drop_eq_getElem_cons (by omega), List.dropLast_cons_of_ne_nil]
  intro e
  have := congrArg List.length e
  simp at this
  omega
theorem dl_nil {α : Type} {W : List α} {i : Nat} (h : W.length ≤ i + 1) : (W.drop i).dropLast = [] := by
  apply List.eq_nil_of_length_eq_zero
  simp; omega
/-- The terms are seen by value from here on. -/
theorem Shift.terms {N : Nat} {t : Nat → AV} {o0 o1 o2 : Option (List AV)} {x y z : AV} {L : List Tm} : Shift N ⟨t, ⟨[o0, o1, o2, some [x, y, z, .ref 4 5 0 L.length .full], some (flatA (tmsA L))]⟩⟩ ⟨t, ⟨[o0, o1, o2, some [x, y, z, .sl (tmsA L) false], none]⟩⟩ := by
  refine Shift.freeze (b := 4) (cs := flatA (tmsA L)) rfl (fun i => .inr (Fz.refl _ _ _)) rfl (fun i l' h => ?_)
  match i, h with
  | 0, h => exact ⟨by decide, l', h, rfl, fun i x x' e1 e2 => .inl (by rw [e1] at e2; exact (Option.some.inj e2).symm)⟩
  | 1, h => exact ⟨by decide, l', h, rfl, fun i x x' e1 e2 => .inl (by rw [e1] at e2; exact (Option.some.inj e2).symm)⟩
  | 2, h => exact ⟨by decide, l', h, rfl, fun i x x' e1 e2 => .inl (by rw [e1] at e2; exact (Option.some.inj e2).symm)⟩
  | 3, h =>
    have h : some [x, y, z, .sl (tmsA L) false] = some l' := h
    injection h with h
    subst h
    refine ⟨by decide, _, rfl, rfl, fun i u u' e1 e2 => ?_⟩
    match i, e1, e2 with
    | 0, e1, e2 => cases e1; cases e2; exact .inl rfl
    | 1, e1, e2 => cases e1; cases e2; exact .inl rfl
    | 2, e1, e2 => cases e1; cases e2; exact .inl rfl
    | 3, e1, e2 =>
      cases e1; cases e2
      exact .inr (.inr ⟨5, 0, L.length, .full, tmsA L, false, rfl, rfl, (fun h => by cases h), by simp, by simp, tmsA_cells L, .inl (by simp; exact (List.take_of_length_le (by simp)).symm)⟩)
    | k + 4, e1, e2 => cases e1
  | 4, h => cases h
  | k + 5, h => cases h
theorem Shift.noTerms {N : Nat} {t : Nat → AV} {o0 o1 : Option (List AV)} {a b x y z : AV} : Shift N ⟨t, ⟨[o0, o1, some [a, b], some [x, y, z, .sl [] true]]⟩⟩ ⟨t, ⟨[o0, o1, none, some [x, y, z, .sl [] false]]⟩⟩ := by
  refine Shift.freeze (b := 2) (cs := [a, b]) rfl (fun i => .inr (Fz.refl _ _ _)) rfl (fun i l' h => ?_)
  match i, h with
  | 0, h => exact ⟨by decide, l', h, rfl, fun i x x' e1 e2 => .inl (by rw [e1] at e2; exact (Option.some.inj e2).symm)⟩
  | 1, h => exact ⟨by decide, l', h, rfl, fun i x x' e1 e2 => .inl (by rw [e1] at e2; exact (Option.some.inj e2).symm)⟩
  | 2, h => cases h
  | 3, h =>
    have h : some [x, y, z, .sl [] false] = some l' := h
    injection h with h
    subst h
    refine ⟨by decide, _, rfl, rfl, fun i u u' e1 e2 => ?_⟩
    match i, e1, e2 with
    | 0, e1, e2 => cases e1; cases e2; exact .inl rfl
    | 1, e1, e2 => cases e1; cases e2; exact .inl rfl
    | 2, e1, e2 => cases e1; cases e2; exact .inl rfl
    | 3, e1, e2 => cases e1; cases e2; exact .inr (.inl rfl)
    | k + 4, e1, e2 => cases e1
  | k + 4, h => cases h
noncomputable def sp_readSmS : List AV → Option (AV) := pf (ι := (ByteArray)) (α := AV) (fun s => s.size ≤ 1048576) (fun s => [.str s]) (fun s => ssA (ssO s))
theorem sp_readSmS_eq (s : ByteArray) (h : s.size ≤ 1048576) : sp_readSmS [.str s] = some (ssA (ssO s)) := by
  unfold sp_readSmS
  exact pf_eq (ι := (ByteArray)) (α := AV) s h (by rintro s' _ e; simp_all [Int.natCast_inj])
set_option maxHeartbeats 8000000 in
theorem q_spec_ReadSum : QP PP 13 sp_readSmS := by
  refine QP_pf (fun s h => ?_) fun s h => ?_
  · exact ⟨by first | rfl | simp, by first | rfl | simp⟩
  replace h : s.size ≤ 1048576 := h
  refine P_code (Quiet.q1 q_spec_l05Cut (Quiet.q1 q_spec_l01Number (Quiet.q1 q_spec_ReadGraph (Quiet.q1 q_spec_l02Read (Quiet.e1 n_spec_l01Split.toE (Quiet.e1 m_spec_l05Ok.toE (Quiet.e1 m_spec_l05Text.toE Quiet.nil))))))) hmix k_spec_ReadSum rfl ?_ ?_
  · first | rfl | simp
  show wpc 0 PP _ c_spec_ReadSum (initSt [.str s] .nil) (endP r_spec_ReadSum (ssA (ssO s)))
  have hsp := sp_split_eq s 10 ⟨h, by omega, by omega⟩
  rw [flat_strs] at hsp
  have hne : splitL s 10 ≠ [] := (splF_len s 10 _ _ _ _).2
  have hsz := splitL_size s 10
  have hlen : 0 < (splitL s 10).length := List.length_pos_iff.2 hne
  have hleni : (0 : Int) < (splitL s 10).length := by omega
  have hmost := (splF_len s 10 s.size 0 0 []).1
  change (splitL s 10).length ≤ _ at hmost
  simp only [List.length_nil] at hmost
  obtain ⟨R, hR⟩ : ∃ R, R = ssO s := ⟨_, rfl⟩
  rw [← hR]
  unfold ssO at hR
  have hK : ssK s = ((!(decide (ssT s < 4)) && ((ss0 s).extract 0 4 == sumWB)) && !(decide (66 < (ssW s).length))) := rfl
  have hT := cutN_in (ss0 s) 2
  have q0 : (splitL s 10)[0]? = some (ss0 s) := by unfold ss0 ssW; rw [List.getElem?_eq_getElem hlen]; rfl
  have z0 : (ss0 s).size ≤ 1048576 := by have := hsz _ (List.mem_of_getElem? q0); omega
  have hc0 := sp_l05Cut_eq (ss0 s) 2 ⟨z0, by omega, by omega⟩
  have hTd : cutN (ss0 s) 2 = ssT s := rfl
  rw [hTd] at hT hc0
  have hN := sp_l01Num_eq (ssN s) (by unfold ssN; rw [ByteArray.size_extract]; omega)
  have hG := sp_readGrS_eq (ssG s) (by unfold ssG; rw [ByteArray.size_extract]; omega)
  have dN : (ss0 s).extract 4 (ssT s).toNat = ssN s := rfl
  have dG : (ss0 s).extract ((ssT s).toNat + 1) (ss0 s).size = ssG s := rfl
  have eW : ssW s = splitL s 10 := rfl
  rw [eW] at hR hK
  generalize hW : splitL s 10 = W at *
  have r3 : ∀ n, ltL n (strsA W) = true := fun n => by rw [← flat_strs]; simp
  have rr : ∀ f, renL f (strsA W) = strsA W := fun f => by rw [← flat_strs]; simp
  have g0 : (strsA W)[0]? = some (.str (ss0 s)) := by simp [q0]
  generalize hS : strsA W = V at *
  generalize ss0 s = w0 at *
  generalize ssN s = wN at *
  generalize ssG s = wG at *
  generalize ssT s = T at *
  have hbad : ∀ {X : Prop}, True := trivial
  by_cases c1 : T < 4
  · have hk : ssK s = false := by rw [hK, decide_eq_true c1]; rfl
    rw [hk] at hR
    have hR : R = none := by rw [hR]; simp
    subst hR
    simp -dsimp -implicitDefEqProofs [c_spec_ReadSum, r_spec_ReadSum, hsp, rr, hlen, hleni, g0, hc0, c1, ssA]
  obtain ⟨a, rfl⟩ := Int.eq_ofNat_of_zero_le (show 0 ≤ T by omega)
  rw [Int.toNat_natCast] at dN dG
  have ha4 : 4 ≤ a := by omega
  have haz : a < w0.size := by omega
  have s4 : 4 ≤ w0.size := by omega
  cases c2 : (w0.extract 0 4 == sumWB) with
  | false =>
    have hk : ssK s = false := by rw [hK, c2]; simp
    rw [hk] at hR
    have hR : R = none := by rw [hR]; simp
    subst hR
    have c2' : (w0.extract 0 4 != (⟨#[115, 117, 109, 32]⟩ : ByteArray)) = true := by
      show (!(w0.extract 0 4 == sumWB)) = true
      rw [c2]; rfl
    simp -dsimp -implicitDefEqProofs [c_spec_ReadSum, r_spec_ReadSum, hsp, rr, hlen, hleni, g0, hc0, c1, s4, c2', ssA]
  | true =>
    have c2' : (w0.extract 0 4 != (⟨#[115, 117, 109, 32]⟩ : ByteArray)) = false := by
      show (!(w0.extract 0 4 == sumWB)) = false
      rw [c2]; rfl
    by_cases c3 : 66 < W.length
    · have c3i : (66 : Int) < W.length := by omega
      have hk : ssK s = false := by rw [hK, decide_eq_true c3]; simp
      rw [hk] at hR
      have hR : R = none := by rw [hR]; simp
      subst hR
      simp -dsimp -implicitDefEqProofs [c_spec_ReadSum, r_spec_ReadSum, hsp, rr, hlen, hleni, g0, hc0, c1, s4, c2', c3, c3i, ssA]
    have c3i : ¬ (66 : Int) < W.length := by omega
    have hk : ssK s = true := by rw [hK, decide_eq_false c1, decide_eq_false c3, c2]; rfl
    have hw1 : IntKind.wrap .i64 ((a : Int) + 1) = (a : Int) + 1 := wrapI64 (by omega) (by omega)
    have haz1 : a + 1 ≤ w0.size := by omega
    have haz2 : a ≤ w0.size := by omega
    have a4i : (4 : Int) ≤ (a : Int) := by omega
    have a1i : (0 : Int) ≤ (a : Int) + 1 := by omega
    cases c4 : l01B wN with
    | false =>
      rw [hk, c4] at hR
      have hR : R = none := by rw [hR]; simp
      subst hR
      rw [c4] at hN
      cases c5 : rsO wG with
      | none =>
        rw [c5] at hG
        simp -dsimp -implicitDefEqProofs [c_spec_ReadSum, r_spec_ReadSum, hsp, rr, hlen, hleni, g0, hc0, c1, s4, c2', c3, c3i, hw1, haz1, haz2, ha4, a4i, a1i, dN, dG, hN, hG, rgA, ssA]
      | some g =>
        obtain ⟨n, m⟩ := g
        rw [c5] at hG
        simp -dsimp -implicitDefEqProofs [c_spec_ReadSum, r_spec_ReadSum, hsp, rr, hlen, hleni, g0, hc0, c1, s4, c2', c3, c3i, hw1, haz1, haz2, ha4, a4i, a1i, dN, dG, hN, hG, rgA, ssA]
    | true =>
      rw [hk, c4, if_pos ⟨rfl, rfl⟩] at hR
      rw [c4] at hN
      cases c5 : rsO wG with
      | none =>
        rw [c5] at hG hR
        have hR : R = none := hR
        subst hR
        simp -dsimp -implicitDefEqProofs [c_spec_ReadSum, r_spec_ReadSum, hsp, rr, hlen, hleni, g0, hc0, c1, s4, c2', c3, c3i, hw1, haz1, haz2, ha4, a4i, a1i, dN, dG, hN, hG, rgA, ssA]
      | some g =>
        obtain ⟨n, m⟩ := g
        rw [c5] at hG hR
        rw [Option.bind_some] at hR
        have hnm : n ≤ 5 ∧ m < 1024 := rgO_lt (by rw [graph_same]; exact c5)
        generalize l01V wN = sz at *
        simp -dsimp -implicitDefEqProofs [c_spec_ReadSum, r_spec_ReadSum, hsp, rr, hlen, hleni, g0, hc0, c1, s4, c2', c3, c3i, hw1, haz1, haz2, ha4, a4i, a1i, dN, dG, hN, hG, rgA]
        have w2 : IntKind.wrap .i64 2 = 2 := rfl
        refine wpLoop_st (fun (q : Nat × List Tm) => ⟨tl [(0, .str s), (2, .ptr 0 0), (4, .ref 1 1 0 W.length .full), (8, .ptr 2 0), (10, .ptr 3 0), (11, .int .i64 ((q.1 : Int) + 1))], ⟨some [.int .i64 0, .int .u32 0, .int .i64 0, .sl [] true] :: some V :: some [.int .i64 n, .int .u32 m] :: some [.int .i64 n, .int .u32 m, .int .i64 sz, lvT 4 q.2] :: obT q.2⟩⟩) (fun q => q.1 + 1 ≤ W.length ∧ q.2.length = q.1 ∧ u32L q.2 ∧ goU n (W.drop (q.1 + 1)).dropLast q.2 = goU n W.tail.dropLast []) (fun q => W.length - q.1) (0, []) ⟨by simp only; omega, rfl, (fun x hx => (by cases hx)), (by simp)⟩ (Sub.keep (by simp [obT_nil]) (by simp [hsub, r3, rr, obT_nil, lvT_nil]) (by simp)) ?_
        rintro ⟨j, L⟩ ⟨hj, hLl, hu, hg⟩
        simp only at hj hLl hu hg
        have hwi : IntKind.wrap .i64 ((j : Int) + 1 + 1) = (j : Int) + 1 + 1 := wrapI64 (by omega) (by omega)
        have hv := sp_l05Ok_eq n m sz L ⟨by omega, by simp only [maxLen]; omega, hu⟩
        have ht : sumB n m sz L = true → sp_l05Text [.int .i64 n, .int .u32 m, .int .i64 sz, .sl (tmsA L) false] [] = some (.str (sumX n m sz L), [.int .i64 n, .int .u32 m, .int .i64 sz, .sl (tmsA L) false]) := fun hb => sp_l05Text_eq n m sz L (sumB_in hb (by omega) hu)
        by_cases hL : L = []
        · subst hL
          have l1 : 1 * 41 ≤ mostBytes := by decide
          simp -dsimp -implicitDefEqProofs [obT_nil, lvT_nil]
          refine brW_of (fun h => ?_) (fun h => ?_) <;> simp only [decide_eq_true_eq, decide_eq_false_iff_not] at h
          · have hx : j + 1 + 1 < W.length := by omega
            have hx1 : j + 1 < W.length := by omega
            have hxi : (j : Int) + 1 < W.length := by omega
            have hi0 : (0 : Int) ≤ (j : Int) + 1 := by omega
            have q1 : W[j + 1]? = some W[j + 1] := List.getElem?_eq_getElem hx1
            have gq : V[j + 1]? = some (.str W[j + 1]) := by rw [← hS]; simp [hx1]
            have hwsz := hsz _ (List.getElem_mem hx1)
            rw [dl_cons hx, goU] at hg
            generalize W[j + 1] = w at *
            have hc1 := sp_l05Cut_eq w 1 ⟨by omega, by omega, by omega⟩
            have hci := cutN_in w 1
            by_cases c6 : cutN w 1 < 0
            · have hls : lineS w = none := by unfold lineS; rw [if_pos c6]
              rw [hls] at hg
              rw [← hg] at hR
              have hR : R = none := hR
              subst hR
              simp -dsimp -implicitDefEqProofs [obT_nil, lvT_nil, hx1, hxi, hi0, gq, hc1, c6, ssA]
            · have hls : lineS w = if rdOk (w.extract 0 (cutN w 1).toNat) = true then (rsO (w.extract ((cutN w 1).toNat + 1) w.size)).bind fun g => some (g.1, g.2, rdP (w.extract 0 (cutN w 1).toNat), rdQ (w.extract 0 (cutN w 1).toNat)) else none := by unfold lineS; rw [if_neg c6]
              obtain ⟨k, hk2⟩ := Int.eq_ofNat_of_zero_le (show 0 ≤ cutN w 1 by omega)
              rw [hk2] at hc1 hci hls
              rw [Int.toNat_natCast] at hls
              have k1 : k ≤ w.size := by omega
              have k2 : k + 1 ≤ w.size := by omega
              have k3 : (0 : Int) ≤ (k : Int) + 1 := by omega
              have wk : IntKind.wrap .i64 ((k : Int) + 1) = (k : Int) + 1 := wrapI64 (by omega) (by omega)
              have hk0 : ¬ (k : Int) < 0 := by omega
              have hrd := sp_l02Read_eq (w.extract 0 k) (by rw [ByteArray.size_extract]; omega)
              have hgr := sp_readGrS_eq (w.extract (k + 1) w.size) (by rw [ByteArray.size_extract]; omega)
              cases hd : rdOk (w.extract 0 k) with
              | false =>
                rw [hd] at hls hrd
                rw [if_neg (by decide)] at hls
                rw [hls] at hg
                rw [← hg] at hR
                have hR : R = none := hR
                subst hR
                cases c7 : rsO (w.extract (k + 1) w.size) with
                | none =>
                  rw [c7] at hgr
                  simp -dsimp -implicitDefEqProofs [obT_nil, lvT_nil, hx1, hxi, hi0, gq, hc1, hk0, k1, k2, k3, wk, hrd, hgr, rgA, ssA]
                | some g2 =>
                  obtain ⟨n2, m2⟩ := g2
                  rw [c7] at hgr
                  simp -dsimp -implicitDefEqProofs [obT_nil, lvT_nil, hx1, hxi, hi0, gq, hc1, hk0, k1, k2, k3, wk, hrd, hgr, rgA, ssA]
              | true =>
                rw [hd] at hls hrd
                rw [if_pos rfl] at hls
                cases c7 : rsO (w.extract (k + 1) w.size) with
                | none =>
                  rw [c7] at hgr hls
                  rw [hls] at hg
                  rw [← hg] at hR
                  have hR : R = none := hR
                  subst hR
                  simp -dsimp -implicitDefEqProofs [obT_nil, lvT_nil, hx1, hxi, hi0, gq, hc1, hk0, k1, k2, k3, wk, hrd, hgr, rgA, ssA]
                | some g2 =>
                  obtain ⟨n2, m2⟩ := g2
                  have hnm2 : n2 ≤ 5 ∧ m2 < 1024 := rgO_lt (by rw [graph_same]; exact c7)
                  rw [c7] at hgr hls
                  rw [hls, Option.bind_some, Option.bind_some] at hg
                  generalize rdP (w.extract 0 k) = P at *
                  generalize rdQ (w.extract 0 k) = Q at *
                  have e5 : [(⟨n, n2, m2, P, Q⟩ : Tm)] ≠ [] := by simp
                  simp -dsimp -implicitDefEqProofs [obT_nil, lvT_nil, hx1, hxi, hi0, gq, hc1, hk0, k1, k2, k3, wk, hrd, hgr, rgA, hwi, l1]
                  refine .mk (j + 1, [⟨n, n2, m2, P, Q⟩]) ⟨by simp only; omega, by simp at hLl ⊢; omega, ?_, hg⟩ (by simp only; omega) (Sub.mk' (fun b => if b = 4 then 7 else b) (by simp [obT_cons e5]) (by intro b hb; simp [obT_cons e5] at hb <;> omega) (by first | rfl | (rw [obT_cons e5]; rfl)) (by simp [hsub, obT_cons e5, lvT_cons e5, r3, rr, flatA_cons]) (by simp [hwi]))
                  intro x hx'
                  obtain rfl := List.mem_singleton.1 hx'
                  simp only; omega
          · rw [dl_nil (by omega), goU] at hg
            rw [← hg, Option.bind_some] at hR
            simp -dsimp -implicitDefEqProofs [obT_nil, lvT_nil]
            refine ⟨_, Shift.noTerms, ?_⟩
            have hv : sp_l05Ok [.int .i64 n, .int .u32 m, .int .i64 sz, .sl [] false] [] = _ := hv
            have ht0 := ht
            have ht : sumB n m sz [] = true → sp_l05Text [.int .i64 n, .int .u32 m, .int .i64 sz, .sl [] false] [] = _ := ht
            cases hb : sumB n m sz [] with
            | false =>
              rw [hb] at hv
              have hR2 : R = none := by rw [hR, if_neg]; intro hF; rw [rsF, hb] at hF; exact absurd hF.1 (by decide)
              subst hR2
              simp -dsimp -implicitDefEqProofs [obT_nil, lvT_nil, hv, ssA]
            | true =>
              rw [hb] at hv
              have ht := ht hb
              have ht9 := ht0 hb
              cases hq : (sumX n m sz [] == s) with
              | false =>
                have hq' : (sumX n m sz [] != s) = true := by unfold bne; rw [hq]; rfl
                have hR2 : R = none := by rw [hR, if_neg]; intro hF; rw [rsF, hq] at hF; exact absurd hF.2 (by decide)
                subst hR2
                simp -dsimp -implicitDefEqProofs [obT_nil, lvT_nil, hv, ht, ht9, hq, hq', ssA]
              | true =>
                have hq' : (sumX n m sz [] != s) = false := by unfold bne; rw [hq]; rfl
                have hR2 : R = some ((n : Int), (m : Int), sz, []) := by rw [hR, if_pos]; exact ⟨hb, hq⟩
                subst hR2
                simp -dsimp -implicitDefEqProofs [obT_nil, lvT_nil, hv, ht, ht9, hq, hq', ssA]
        · have l1 : (L.length + 1) * 41 ≤ mostBytes := by simp only [mostBytes]; omega
          have l2 : ¬ ((L.length + 1) * 5 ≤ L.length * 5) := by omega
          have l3 : (flatA (tmsA L)).take (L.length * 5) = flatA (tmsA L) := List.take_of_length_le (by simp)
          simp -dsimp -implicitDefEqProofs [obT_cons hL, lvT_cons hL]
          refine brW_of (fun h => ?_) (fun h => ?_) <;> simp only [decide_eq_true_eq, decide_eq_false_iff_not] at h
          · have hx : j + 1 + 1 < W.length := by omega
            have hx1 : j + 1 < W.length := by omega
            have hxi : (j : Int) + 1 < W.length := by omega
            have hi0 : (0 : Int) ≤ (j : Int) + 1 := by omega
            have q1 : W[j + 1]? = some W[j + 1] := List.getElem?_eq_getElem hx1
            have gq : V[j + 1]? = some (.str W[j + 1]) := by rw [← hS]; simp [hx1]
            have hwsz := hsz _ (List.getElem_mem hx1)
            rw [dl_cons hx, goU] at hg
            generalize W[j + 1] = w at *
            have hc1 := sp_l05Cut_eq w 1 ⟨by omega, by omega, by omega⟩
            have hci := cutN_in w 1
            by_cases c6 : cutN w 1 < 0
            · have hls : lineS w = none := by unfold lineS; rw [if_pos c6]
              rw [hls] at hg
              rw [← hg] at hR
              have hR : R = none := hR
              subst hR
              simp -dsimp -implicitDefEqProofs [obT_cons hL, lvT_cons hL, hx1, hxi, hi0, gq, hc1, c6, ssA]
            · have hls : lineS w = if rdOk (w.extract 0 (cutN w 1).toNat) = true then (rsO (w.extract ((cutN w 1).toNat + 1) w.size)).bind fun g => some (g.1, g.2, rdP (w.extract 0 (cutN w 1).toNat), rdQ (w.extract 0 (cutN w 1).toNat)) else none := by unfold lineS; rw [if_neg c6]
              obtain ⟨k, hk2⟩ := Int.eq_ofNat_of_zero_le (show 0 ≤ cutN w 1 by omega)
              rw [hk2] at hc1 hci hls
              rw [Int.toNat_natCast] at hls
              have k1 : k ≤ w.size := by omega
              have k2 : k + 1 ≤ w.size := by omega
              have k3 : (0 : Int) ≤ (k : Int) + 1 := by omega
              have wk : IntKind.wrap .i64 ((k : Int) + 1) = (k : Int) + 1 := wrapI64 (by omega) (by omega)
              have hk0 : ¬ (k : Int) < 0 := by omega
              have hrd := sp_l02Read_eq (w.extract 0 k) (by rw [ByteArray.size_extract]; omega)
              have hgr := sp_readGrS_eq (w.extract (k + 1) w.size) (by rw [ByteArray.size_extract]; omega)
              cases hd : rdOk (w.extract 0 k) with
              | false =>
                rw [hd] at hls hrd
                rw [if_neg (by decide)] at hls
                rw [hls] at hg
                rw [← hg] at hR
                have hR : R = none := hR
                subst hR
                cases c7 : rsO (w.extract (k + 1) w.size) with
                | none =>
                  rw [c7] at hgr
                  simp -dsimp -implicitDefEqProofs [obT_cons hL, lvT_cons hL, hx1, hxi, hi0, gq, hc1, hk0, k1, k2, k3, wk, hrd, hgr, rgA, ssA]
                | some g2 =>
                  obtain ⟨n2, m2⟩ := g2
                  rw [c7] at hgr
                  simp -dsimp -implicitDefEqProofs [obT_cons hL, lvT_cons hL, hx1, hxi, hi0, gq, hc1, hk0, k1, k2, k3, wk, hrd, hgr, rgA, ssA]
              | true =>
                rw [hd] at hls hrd
                rw [if_pos rfl] at hls
                cases c7 : rsO (w.extract (k + 1) w.size) with
                | none =>
                  rw [c7] at hgr hls
                  rw [hls] at hg
                  rw [← hg] at hR
                  have hR : R = none := hR
                  subst hR
                  simp -dsimp -implicitDefEqProofs [obT_cons hL, lvT_cons hL, hx1, hxi, hi0, gq, hc1, hk0, k1, k2, k3, wk, hrd, hgr, rgA, ssA]
                | some g2 =>
                  obtain ⟨n2, m2⟩ := g2
                  have hnm2 : n2 ≤ 5 ∧ m2 < 1024 := rgO_lt (by rw [graph_same]; exact c7)
                  rw [c7] at hgr hls
                  rw [hls, Option.bind_some, Option.bind_some] at hg
                  have e2 := tmE_snoc L n n2 m2 (rdP (w.extract 0 k)) (rdQ (w.extract 0 k))
                  generalize rdP (w.extract 0 k) = P at *
                  generalize rdQ (w.extract 0 k) = Q at *
                  have e5 : L ++ [(⟨n, n2, m2, P, Q⟩ : Tm)] ≠ [] := by simp
                  simp -dsimp -implicitDefEqProofs [obT_cons hL, lvT_cons hL, hx1, hxi, hi0, gq, hc1, hk0, k1, k2, k3, wk, hrd, hgr, rgA, hwi, l1, l2, l3, e2]
                  refine .mk (j + 1, L ++ [⟨n, n2, m2, P, Q⟩]) ⟨by simp only; omega, by simp at hLl ⊢; omega, ?_, hg⟩ (by simp only; omega) (Sub.mk' (fun b => if b = 4 then 8 else b) (by simp [obT_cons e5]) (by intro b hb; simp [obT_cons e5] at hb <;> omega) (by first | rfl | (rw [obT_cons e5]; rfl)) (by simp [hsub, obT_cons e5, lvT_cons e5, r3, rr]) (by simp [hwi]))
                  intro x hx'
                  rcases List.mem_append.1 hx' with hx' | hx'
                  · exact hu x hx'
                  · obtain rfl := List.mem_singleton.1 hx'
                    simp only; omega
          · rw [dl_nil (by omega), goU] at hg
            rw [← hg, Option.bind_some] at hR
            simp -dsimp -implicitDefEqProofs [obT_cons hL, lvT_cons hL]
            refine ⟨_, Shift.terms, ?_⟩
            cases hb : sumB n m sz L with
            | false =>
              rw [hb] at hv
              have hR2 : R = none := by rw [hR, if_neg]; intro hF; rw [rsF, hb] at hF; exact absurd hF.1 (by decide)
              subst hR2
              simp -dsimp -implicitDefEqProofs [obT_cons hL, lvT_cons hL, hv, ssA]
            | true =>
              rw [hb] at hv
              have ht := ht hb
              cases hq : (sumX n m sz L == s) with
              | false =>
                have hq' : (sumX n m sz L != s) = true := by unfold bne; rw [hq]; rfl
                have hR2 : R = none := by rw [hR, if_neg]; intro hF; rw [rsF, hq] at hF; exact absurd hF.2 (by decide)
                subst hR2
                simp -dsimp -implicitDefEqProofs [obT_cons hL, lvT_cons hL, hv, ht, hq, hq', ssA]
              | true =>
                have hq' : (sumX n m sz L != s) = false := by unfold bne; rw [hq]; rfl
                have hR2 : R = some ((n : Int), (m : Int), sz, L) := by rw [hR, if_pos]; exact ⟨hb, hq⟩
                subst hR2
                simp -dsimp -implicitDefEqProofs [obT_cons hL, lvT_cons hL, hv, ht, hq, hq', ssA]
end Go.Proofs.YtgiakpeneckgfaaGreatDoorAi
end

section
/- Plain law: both readings of sums agree. -/
namespace Go.Proofs.YtgiakpeneckgfaaGreatDoorAi
open Go Go.RowKit
set_option linter.unusedVariables false
set_option linter.unusedSimpArgs false
set_option maxRecDepth 20000

/-! ### bytes -/
def geB (a : ByteArray) (m : Nat) : Prop := ∀ b ∈ a.data.toList, m ≤ b.toNat
theorem geB_app {a b : ByteArray} {m : Nat} (ha : geB a m) (hb : geB b m) : geB (a ++ b) m := by
  intro x hx
  rw [ByteArray.data_append, Array.toList_append] at hx
  rcases List.mem_append.1 hx with hx | hx
  · exact ha x hx
  · exact hb x hx
theorem geB_le {a : ByteArray} {m k : Nat} (h : geB a m) (hk : k ≤ m) : geB a k := fun b hb => Nat.le_trans hk (h b hb)
theorem geB_lacks {a : ByteArray} {m : Nat} (h : geB a m) {c : UInt8} (hc : c.toNat < m) : lacks a c := by
  intro b hb e
  subst e
  have := h b hb
  omega
theorem geB_dec (n : Int) : geB (decB n) 45 := by
  intro b hb
  have e : (decB n).data.toList = Go.Lib.itoa n := by simp [decB]
  rw [e] at hb
  unfold Go.Lib.itoa at hb
  split at hb
  · rcases List.mem_cons.1 hb with rfl | hb
    · decide
    · have := (decD_dig _ b hb).1; omega
  · have := (decD_dig _ b hb).1; omega
theorem geB_fr (p q : Int) : geB (frT p q) 45 := by
  unfold frT
  split
  · exact geB_dec p
  · exact geB_app (geB_app (geB_dec p) (by intro b hb; have : b = 47 := by simpa [slashB] using hb
                                           subst this; decide)) (geB_dec q)
theorem geB_sep : geB sepB 32 := by
  intro b hb
  have : b = 32 := by simpa [sepB] using hb
  subst this; decide
theorem geB_tail : ∀ (L : List Fr), geB (tailT L) 32
  | [] => by intro b hb; rw [tailT] at hb; simp [noB] at hb
  | x :: L => by
    rw [tailT]
    refine geB_app (geB_app geB_sep ?_) (geB_tail L)
    unfold edgeW
    exact geB_le (geB_app (geB_app (geB_dec _) (by intro b hb; have : b = 45 := by simpa [dashB] using hb
                                                   subst this; decide)) (geB_dec _)) (by omega)
theorem geB_gr (e : Int) (n : Nat) : geB (grT e n) 32 := by
  have eg : grT e n = graphB ++ (decB n ++ tailT (pairsE e n)) := by unfold grT; rw [edT_tail, ByteArray.append_assoc]
  rw [eg]
  refine geB_app ?_ (geB_app (geB_le (geB_dec _) (by omega)) (geB_tail _))
  unfold geB
  decide
/-! ### lines -/
def tlL (A : ByteArray) : List ByteArray → ByteArray
  | [] => A
  | x :: M => A ++ lineB ++ tlL x M
theorem pieces_lines : ∀ (M : List ByteArray) (A : ByteArray), lacks A 10 → (∀ x ∈ M, lacks x 10) → piecesB (tlL A M) lineB = A :: M
  | [], A, hA, _ => pieces_miss hA
  | x :: M, A, hA, hM => by
    have h1 := pieces_hit hA (tlL x M)
    have h2 := pieces_lines M x (hM x (List.mem_cons_self ..)) fun y hy => hM y (List.mem_cons_of_mem _ hy)
    have e : (⟨#[10]⟩ : ByteArray) = lineB := rfl
    rw [e, h2] at h1
    exact h1
theorem split_lines : ∀ (M : List ByteArray) (A : ByteArray), lacks A 10 → (∀ x ∈ M, lacks x 10) → splitL (tlL A M ++ lineB) 10 = (A :: M) ++ [noB]
  | [], A, hA, _ => by
    have h1 := splitL_hit hA noB
    have e10 : (((10 : UInt8).toNat : Nat) : Int) = 10 := rfl
    rw [e10, app_noB] at h1
    have h2 : splitL noB 10 = [noB] := by decide
    rw [h2] at h1
    exact h1
  | x :: M, A, hA, hM => by
    have h1 := splitL_hit hA (tlL x M ++ lineB)
    have h2 := split_lines M x (hM x (List.mem_cons_self ..)) fun y hy => hM y (List.mem_cons_of_mem _ hy)
    have e10 : (((10 : UInt8).toNat : Nat) : Int) = 10 := rfl
    rw [e10, h2] at h1
    have e : tlL A (x :: M) ++ lineB = A ++ ⟨#[10]⟩ ++ (tlL x M ++ lineB) := by
      show A ++ lineB ++ tlL x M ++ lineB = A ++ lineB ++ (tlL x M ++ lineB)
      simp only [ByteArray.append_assoc]
    rw [e, h1]; rfl
theorem csA_line (w : ByteArray) : csA (w ++ lineB) lineB = w := by
  unfold csA Go.Lib.trimSuffix
  have el : (w ++ lineB).data.toList = w.data.toList ++ [10] := by
    rw [ByteArray.data_append, Array.toList_append]; rfl
  have hs : Go.Lib.hasSuffix (w ++ lineB).data.toList lineB.data.toList = true := by
    unfold Go.Lib.hasSuffix
    rw [el]
    exact List.isSuffixOf_iff_suffix.2 (List.suffix_append _ _)
  rw [if_pos hs, el]
  have h1 : lineB.data.toList.length = 1 := rfl
  rw [h1, List.length_append, List.length_singleton, Nat.add_sub_cancel, List.take_left]
theorem cut_blank {A : ByteArray} (h : lacks A 32) (R : ByteArray) : cutA (A ++ sepB ++ R) sepB = A ∧ cutB (A ++ sepB ++ R) sepB = R := by
  have el : (A ++ sepB ++ R).data.toList = A.data.toList ++ 32 :: R.data.toList := by
    rw [ByteArray.data_append, ByteArray.data_append, Array.toList_append, Array.toList_append]
    simp [sepB]
  have hc : Go.Lib.cut (A ++ sepB ++ R).data.toList sepB.data.toList = (A.data.toList, R.data.toList, true) := by
    unfold Go.Lib.cut
    have hi : Go.Lib.index (A ++ sepB ++ R).data.toList sepB.data.toList = (A.data.toList).length := by
      rw [el]; exact index_atC 32 _ _ h
    rw [hi, if_pos (by omega), el]
    have hs : sepB.data.toList.length = 1 := rfl
    rw [hs, Int.toNat_natCast]
    generalize A.data.toList = la
    generalize R.data.toList = lb
    simp
  unfold cutA cutB
  rw [hc]
  exact ⟨ba_back A, ba_back R⟩
theorem cutF_skip (s : ByteArray) (k : Nat) (n : Int) : ∀ (m i : Nat), (∀ j, i ≤ j → j < i + m → bAt s j ≠ 32) → cutF s (m + k) i n = cutF s k (i + m) n
  | 0, i, _ => by rw [Nat.zero_add, Nat.add_zero]
  | m + 1, i, h => by
    rw [show m + 1 + k = (m + k) + 1 by omega, cutF, if_neg (h i (by omega) (by omega)), cutF_skip s k n m (i + 1) (fun j h1 h2 => h j (by omega) (by omega)), show i + 1 + m = i + (m + 1) by omega]
/-- The blank behind a text without blanks. -/
theorem cutF_at {A R : ByteArray} (h : lacks A 32) (P : ByteArray) (n : Int) : cutF (P ++ (A ++ sepB ++ R)) (A.size + (R.size + 1)) P.size n = if n - 1 = 0 then ((P.size + A.size : Nat) : Int) else cutF (P ++ (A ++ sepB ++ R)) R.size (P.size + A.size + 1) (n - 1) := by
  have hb : ∀ j, bAt (P ++ (A ++ sepB ++ R)) (P.size + j) = bAt (A ++ sepB ++ R) j := fun j => bAt_right P _ j
  rw [cutF_skip _ (R.size + 1) n A.size P.size (fun j h1 h2 => by
    obtain ⟨k, rfl⟩ : ∃ k, j = P.size + k := ⟨j - P.size, by omega⟩
    rw [hb, ByteArray.append_assoc, bAt_left A _ k (by omega)]
    exact lacks_bAt h k (by omega)), cutF]
  have hz : bAt (P ++ (A ++ sepB ++ R)) (P.size + A.size) = 32 := by
    have h1 := hb A.size
    rw [h1, ByteArray.append_assoc]
    have h2 := bAt_right A (sepB ++ R) 0
    rw [Nat.add_zero] at h2
    rw [h2, bAt_left sepB R 0 (by decide)]; rfl
  rw [if_pos hz]
theorem cutN_one {A R : ByteArray} (h : lacks A 32) : cutN (A ++ sepB ++ R) 1 = A.size := by
  have h1 := cutF_at (R := R) h noB 1
  have e : noB ++ (A ++ sepB ++ R) = A ++ sepB ++ R := by apply ByteArray.ext; simp [noB]
  have hz : noB.size = 0 := rfl
  have hsz : (A ++ sepB ++ R).size = A.size + (R.size + 1) := by
    rw [ByteArray.size_append, ByteArray.size_append]; have : sepB.size = 1 := rfl
    omega
  rw [e, hz, ← hsz, if_pos (by omega), Nat.zero_add] at h1
  exact h1
theorem ext_cut {A R : ByteArray} : (A ++ sepB ++ R).extract 0 A.size = A ∧ (A ++ sepB ++ R).extract (A.size + 1) (A ++ sepB ++ R).size = R := by
  constructor
  · rw [ByteArray.append_assoc]; exact ext_left _ _
  · have := ext_right (A ++ sepB) R
    rw [ByteArray.size_append (a := A), show sepB.size = 1 from rfl] at this
    exact this
/-! ### terms -/
def tmL (x : Tm) : ByteArray := frT x.p x.q ++ sepB ++ grT x.e x.n.toNat
theorem tmL_lacks (x : Tm) : lacks (tmL x) 10 := geB_lacks (m := 32) (geB_app (geB_app (geB_le (geB_fr _ _) (by omega)) geB_sep) (geB_gr _ _)) (by decide)
def tmOk (tn : Int) (x : Tm) : Prop := TmIn x ∧ x.k = tn ∧ 0 ≤ x.n
theorem tm_eq {tn : Int} {x : Tm} (h : tmOk tn x) : (⟨tn, (x.n.toNat : Int), (x.e.toNat : Int), x.p, x.q⟩ : Tm) = x := by
  obtain ⟨⟨_, _, he⟩, hk, hn⟩ := h
  have e1 : (x.n.toNat : Int) = x.n := by omega
  have e2 : (x.e.toNat : Int) = x.e := by omega
  rw [e1, e2, ← hk]
theorem gr_reads {x : Tm} (h : TmIn x) (hn : 0 ≤ x.n) : rgO (grT x.e x.n.toNat) = some (x.n.toNat, x.e.toNat) := by
  have e1 : (x.n.toNat : Int) = x.n := by omega
  have e2 : (x.e.toNat : Int) = x.e := by have := h.2.2; omega
  have := (reads_graph (n := x.n.toNat) (m := x.e.toNat) (by rw [e1, e2]; exact h.2.1)).1
  rw [e2] at this
  exact this
theorem lineI_tm {tn : Int} {x : Tm} (h : tmOk tn x) : lineI (tmL x) = some (x.n.toNat, x.e.toNat, x.p, x.q) := by
  obtain ⟨h1, hk, hn⟩ := h
  obtain ⟨c1, c2⟩ := cut_blank (geB_lacks (geB_fr x.p x.q) (c := 32) (by decide)) (grT x.e x.n.toNat)
  have hr := impl_reads h1.1
  have hok : readOk (frT x.p x.q) = true := by
    unfold readOk
    rw [hr.1, hr.2.1, hr.2.2.1, hr.2.2.2, h1.1, beq_ba]; rfl
  unfold lineI tmL
  rw [c1, c2, gr_reads h1 hn, Option.bind_some, if_pos hok, hr.1, hr.2.1]
theorem lineS_tm {tn : Int} {x : Tm} (h : tmOk tn x) : lineS (tmL x) = some (x.n.toNat, x.e.toNat, x.p, x.q) := by
  obtain ⟨h1, hk, hn⟩ := h
  have hc := cutN_one (R := grT x.e x.n.toNat) (geB_lacks (geB_fr x.p x.q) (c := 32) (by decide))
  obtain ⟨c1, c2⟩ := ext_cut (A := frT x.p x.q) (R := grT x.e x.n.toNat)
  have hr := spec_reads h1.1
  have ef : fracT x.p x.q = frT x.p x.q := by unfold fracT; rw [if_pos h1.1]
  have hok : rdOk (frT x.p x.q) = true := by
    unfold rdOk
    rw [hr.1, hr.2.1, hr.2.2.1, hr.2.2.2, h1.1, ef, beq_ba]; rfl
  have hg := gr_reads h1 hn
  rw [graph_same] at hg
  unfold lineS tmL
  rw [hc, if_neg (by omega), Int.toNat_natCast, c1, c2, if_pos hok, hg, Option.bind_some, hr.1, hr.2.1]
theorem goT_all {tn : Int} : ∀ (M : List Tm) (i : Nat) (acc : List Tm), (∀ x ∈ M, tmOk tn x) → i + M.length ≤ 65 → goT tn (M.map tmL) i acc = some (acc ++ M)
  | [], i, acc, _, _ => by simp [goT]
  | x :: M, i, acc, h, hl => by
    rw [List.length_cons] at hl
    rw [List.map_cons, goT, if_neg (by omega), lineI_tm (h x (List.mem_cons_self ..)), Option.bind_some, tm_eq (h x (List.mem_cons_self ..)), goT_all M (i + 1) _ (fun y hy => h y (List.mem_cons_of_mem _ hy)) (by omega)]
    simp
theorem goU_all {tn : Int} : ∀ (M : List Tm) (acc : List Tm), (∀ x ∈ M, tmOk tn x) → goU tn (M.map tmL) acc = some (acc ++ M)
  | [], acc, _ => by simp [goU]
  | x :: M, acc, h => by
    rw [List.map_cons, goU, lineS_tm (h x (List.mem_cons_self ..)), Option.bind_some, tm_eq (h x (List.mem_cons_self ..)), goU_all M _ fun y hy => h y (List.mem_cons_of_mem _ hy)]
    simp
theorem tmsW_lines : ∀ (M : List Tm) (A : ByteArray), tmsW (A ++ lineB) M = tlL A (M.map tmL) ++ lineB
  | [], A => rfl
  | x :: M, A => by
    show tmsW (A ++ lineB ++ tmT x) M = A ++ lineB ++ tlL (tmL x) (M.map tmL) ++ lineB
    have e : A ++ lineB ++ tmT x = (A ++ lineB ++ tmL x) ++ lineB := by
      unfold tmT tmL; simp only [ByteArray.append_assoc]
    have e2 : ∀ (B C : ByteArray) (K : List ByteArray), tlL (B ++ C) K = B ++ tlL C K := by
      intro B C K
      cases K with
      | nil => rfl
      | cons y K => simp only [tlL, ByteArray.append_assoc]
    rw [e, tmsW_lines M, e2]
/-! ### agreement -/
def sum3B : ByteArray := ⟨#[115, 117, 109]⟩
theorem reads_sum {n m : Nat} {sz : Int} {L : List Tm} (hb : sumB n m sz L = true) (hm : m ≤ 4294967295) (hu : u32L L) :
    isO (sumX n m sz L) = some ((n : Int), (m : Int), sz, L) ∧ ssO (sumX n m sz L) = some ((n : Int), (m : Int), sz, L) := by
  obtain ⟨⟨hte, hg⟩, hs, hl, hr⟩ := sumB_in hb (by omega) hu
  have hok : ∀ x ∈ L, tmOk n x := by
    intro x hx
    have hxi := hr x hx
    obtain ⟨i, hi, rfl⟩ := List.getElem_of_mem hx
    obtain ⟨_, h4⟩ := sumB_P hb
    have h5 := (h4 i hi hi).1
    unfold termB at h5
    simp only [Bool.and_eq_true] at h5
    have h6 := h5.2.1
    unfold fitTB at h6
    simp only [Bool.and_eq_true, beq_iff_eq] at h6
    exact ⟨hxi, h6.2.1, (graphOk_in hxi.2.1).1⟩
  have hrF : rsF (sumX n m sz L) n m sz L := ⟨hb, beq_ba _⟩
  have hG := reads_graph hg
  have hd32 : lacks (decB sz) 32 := decB_lacks hs.1 (by decide)
  have hnum := num_dec sz (by omega) (by omega)
  have hl01 := l01_dec sz (by omega) (by omega)
  have hsx : sumX n m sz L = tlL (sumWB ++ decB sz ++ sepB ++ grT m n) (L.map tmL) ++ lineB := by
    unfold sumX
    rw [Int.toNat_natCast, tmsW_lines]
  have hdl : lacks (sumWB ++ decB sz ++ sepB ++ grT m n) 10 := by
    refine geB_lacks (m := 32) (geB_app (geB_app (geB_app ?_ (geB_le (geB_dec _) (by omega))) geB_sep) (geB_gr _ _)) (by decide)
    unfold geB; decide
  have hLl : ∀ x ∈ L.map tmL, lacks x 10 := by
    intro x hx
    obtain ⟨y, _, rfl⟩ := List.mem_map.1 hx
    exact tmL_lacks y
  have ehd : sumWB ++ decB sz ++ sepB ++ grT m n = sumWB ++ (decB sz ++ sepB ++ grT m n) := by simp only [ByteArray.append_assoc]
  generalize hS : sumX n m sz L = s at *
  constructor
  · have eW : rsW s = (sumWB ++ decB sz ++ sepB ++ grT m n) :: L.map tmL := by
      unfold rsW
      rw [hsx, csA_line]
      exact pieces_lines _ _ hdl hLl
    have eH : rsH s = decB sz ++ sepB ++ grT m n := by
      unfold rsH
      rw [eW]
      show cpA (sumWB ++ decB sz ++ sepB ++ grT m n) sumWB = _
      rw [ehd]
      have el : (sumWB ++ (decB sz ++ sepB ++ grT m n)).data.toList = sumWB.data.toList ++ (decB sz ++ sepB ++ grT m n).data.toList := by
        rw [ByteArray.data_append, Array.toList_append]
      have hp : Go.Lib.hasPrefix (sumWB ++ (decB sz ++ sepB ++ grT m n)).data.toList sumWB.data.toList = true := by
        unfold Go.Lib.hasPrefix
        rw [el]; exact List.isPrefixOf_iff_prefix.2 (List.prefix_append _ _)
      unfold cpA Go.Lib.trimPrefix
      rw [if_pos hp, el, List.drop_left]
    obtain ⟨c1, c2⟩ := cut_blank hd32 (grT m n)
    unfold isO
    rw [eH, eW, c1, c2, hG.1, Option.bind_some, List.tail_cons, goT_all L 1 [] hok (by omega), Option.bind_some, hnum.1, List.nil_append, if_pos hrF]
  · have eW : ssW s = ((sumWB ++ decB sz ++ sepB ++ grT m n) :: L.map tmL) ++ [noB] := by
      unfold ssW
      rw [hsx]
      exact split_lines _ _ hdl hLl
    have e0 : ss0 s = sumWB ++ decB sz ++ sepB ++ grT m n := by unfold ss0; rw [eW]; rfl
    have sW : sumWB = sum3B ++ sepB := by apply ByteArray.ext; rfl
    have hT : ssT s = ((4 + (decB sz).size : Nat) : Int) := by
      unfold ssT cutN
      rw [e0]
      have h1 := cutF_at (A := sum3B) (R := decB sz ++ sepB ++ grT m n) (geB_lacks (m := 33) (by unfold geB; decide) (by decide)) noB 2
      have h2 := cutF_at (A := decB sz) (R := grT m n) hd32 sumWB 1
      have z3 : sum3B.size = 3 := rfl
      have z4 : sumWB.size = 4 := rfl
      have zs : sepB.size = 1 := rfl
      have zn : noB.size = 0 := rfl
      have ea : noB ++ (sum3B ++ sepB ++ (decB sz ++ sepB ++ grT m n)) = sumWB ++ (decB sz ++ sepB ++ grT m n) := by
        rw [← sW]; apply ByteArray.ext; simp [noB]
      rw [ea, zn, z3, if_neg (by decide)] at h1
      rw [z4, if_pos (by decide)] at h2
      have hsz : (sumWB ++ (decB sz ++ sepB ++ grT m n)).size = 3 + ((decB sz ++ sepB ++ grT m n).size + 1) := by
        rw [ByteArray.size_append, z4]; omega
      have hsz2 : (decB sz ++ sepB ++ grT m n).size = (decB sz).size + ((grT m n).size + 1) := by
        rw [ByteArray.size_append, ByteArray.size_append, zs]; omega
      rw [ehd, hsz, h1, hsz2]
      exact h2
    have hN : ssN s = decB sz := by
      unfold ssN
      rw [hT, e0, ehd, Int.toNat_natCast]
      have := ext_shift sumWB (decB sz ++ sepB ++ grT m n) 0 (decB sz).size
      rw [show sumWB.size = 4 from rfl] at this
      rw [Nat.add_zero] at this
      rw [this]
      exact (ext_cut (A := decB sz) (R := grT m n)).1
    have hGG : ssG s = grT m n := by
      unfold ssG
      rw [hT, e0, Int.toNat_natCast]
      have := (ext_cut (A := sumWB ++ decB sz) (R := grT m n)).2
      rw [ByteArray.size_append (a := sumWB), show sumWB.size = 4 from rfl] at this
      exact this
    have hK : ssK s = true := by
      have d1 : decide (ssT s < 4) = false := decide_eq_false (by rw [hT]; omega)
      have d2 : ((ss0 s).extract 0 4 == sumWB) = true := by
        rw [e0, ehd]
        have := ext_left sumWB (decB sz ++ sepB ++ grT m n)
        rw [show sumWB.size = 4 from rfl] at this
        rw [this, beq_ba]
      have d3 : decide (66 < (ssW s).length) = false := decide_eq_false (by rw [eW]; simp; omega)
      unfold ssK
      rw [d1, d2, d3]; rfl
    unfold ssO
    rw [if_pos ⟨hK, by rw [hN]; exact hl01.2⟩, hGG, hG.2, Option.bind_some, eW]
    have et : (((sumWB ++ decB sz ++ sepB ++ grT m n) :: L.map tmL) ++ [noB]).tail.dropLast = L.map tmL := by simp
    rw [et, goU_all L [] hok, Option.bind_some, hN, hl01.1, List.nil_append, if_pos hrF]
theorem goT_u32 {tn : Int} : ∀ (W : List ByteArray) (i : Nat) (acc L : List Tm), u32L acc → goT tn W i acc = some L → u32L L
  | [], i, acc, L, ha, h => by
    rw [goT] at h; injection h with h; subst h; exact ha
  | w :: r, i, acc, L, ha, h => by
    rw [goT] at h
    split at h
    · cases h
    · cases hl : lineI w with
      | none => rw [hl] at h; cases h
      | some x =>
        rw [hl, Option.bind_some] at h
        refine goT_u32 r (i + 1) _ L ?_ h
        intro y hy
        rcases List.mem_append.1 hy with hy | hy
        · exact ha y hy
        · obtain rfl := List.mem_singleton.1 hy
          unfold lineI at hl
          cases hg : rgO (cutB w sepB) with
          | none => rw [hg] at hl; cases hl
          | some g =>
            have := rgO_lt hg
            rw [hg, Option.bind_some] at hl
            split at hl
            · injection hl with hl
              subst hl
              simp only; omega
            · cases hl
theorem goU_u32 {tn : Int} : ∀ (W : List ByteArray) (acc L : List Tm), u32L acc → goU tn W acc = some L → u32L L
  | [], acc, L, ha, h => by
    rw [goU] at h; injection h with h; subst h; exact ha
  | w :: r, acc, L, ha, h => by
    rw [goU] at h
    cases hl : lineS w with
    | none => rw [hl] at h; cases h
    | some x =>
      rw [hl, Option.bind_some] at h
      refine goU_u32 r _ L ?_ h
      intro y hy
      rcases List.mem_append.1 hy with hy | hy
      · exact ha y hy
      · obtain rfl := List.mem_singleton.1 hy
        unfold lineS at hl
        split at hl
        · cases hl
        · split at hl
          · cases hg : rsO (w.extract ((cutN w 1).toNat + 1) w.size) with
            | none => rw [hg] at hl; cases hl
            | some g =>
              have := rgO_lt (s := w.extract ((cutN w 1).toNat + 1) w.size) (n := g.1) (m := g.2) (by rw [graph_same]; exact hg)
              rw [hg, Option.bind_some] at hl
              injection hl with hl
              subst hl
              simp only; omega
          · cases hl
theorem isO_in {s : ByteArray} {x : Int × Int × Int × List Tm} (h : isO s = some x) : ∃ (n m : Nat) (sz : Int) (L : List Tm), x = ((n : Int), (m : Int), sz, L) ∧ m ≤ 4294967295 ∧ u32L L ∧ rsF s n m sz L := by
  unfold isO at h
  cases hg : rgO (cutB (rsH s) sepB) with
  | none => rw [hg] at h; cases h
  | some g =>
    have := rgO_lt hg
    rw [hg, Option.bind_some] at h
    cases hL : goT g.1 (rsW s).tail 1 [] with
    | none => rw [hL] at h; cases h
    | some L =>
      rw [hL, Option.bind_some] at h
      split at h
      · rename_i hF
        injection h with h
        exact ⟨g.1, g.2, _, L, h.symm, by omega, goT_u32 _ _ _ L (fun x hx => (by cases hx)) hL, hF⟩
      · cases h
theorem ssO_in {s : ByteArray} {x : Int × Int × Int × List Tm} (h : ssO s = some x) : ∃ (n m : Nat) (sz : Int) (L : List Tm), x = ((n : Int), (m : Int), sz, L) ∧ m ≤ 4294967295 ∧ u32L L ∧ rsF s n m sz L := by
  unfold ssO at h
  split at h
  · cases hg : rsO (ssG s) with
    | none => rw [hg] at h; cases h
    | some g =>
      have := rgO_lt (s := ssG s) (n := g.1) (m := g.2) (by rw [graph_same]; exact hg)
      rw [hg, Option.bind_some] at h
      cases hL : goU g.1 (ssW s).tail.dropLast [] with
      | none => rw [hL] at h; cases h
      | some L =>
        rw [hL, Option.bind_some] at h
        split at h
        · rename_i hF
          injection h with h
          exact ⟨g.1, g.2, _, L, h.symm, by omega, goU_u32 _ _ L (fun x hx => (by cases hx)) hL, hF⟩
        · cases h
  · cases h
end Go.Proofs.YtgiakpeneckgfaaGreatDoorAi
end

section
/- MADE BY PROGRAM (wip/tools/gen.py): the abstract code of functions. -/
namespace Go.Proofs.YtgiakpeneckgfaaGreatDoorAi
open Go AC AOp Opd
set_option linter.unusedVariables false
set_option maxRecDepth 100000
def c_impl_ValidStatement : AC := seq (reg [⟨(some 1), box 7 (t 0), none⟩, ⟨(some 2), mv (c (.bool false)), none⟩]) (seq (reg [⟨(some 3), fad (t 1) 0, none⟩, ⟨(some 4), ld (t 3) 1 false, none⟩, ⟨(some 5), callq (c (.fn 58 [])) [t 4], none⟩, ⟨(some 6), bin .eql (t 5) (c (.int .i64 0)), none⟩, ⟨(some 7), mv (t 6), none⟩, ⟨(some 8), fad (t 1) 1, some (7, true)⟩, ⟨(some 9), ld (t 8) 4 true, some (7, true)⟩, ⟨(some 10), callq (c (.fn 56 [])) [t 9], some (7, true)⟩, ⟨(some 11), pick (t 7) (t 10) (c (.bool false)), none⟩, ⟨(some 12), mv (t 11), none⟩, ⟨(some 13), fad (t 1) 1, some (12, true)⟩, ⟨(some 14), fad (t 13) 0, some (12, true)⟩, ⟨(some 15), fad (t 14) 0, some (12, true)⟩, ⟨(some 16), ld (t 15) 1 false, some (12, true)⟩, ⟨(some 17), bin .eql (t 16) (c (.int .i64 0)), some (12, true)⟩, ⟨(some 18), pick (t 12) (t 17) (c (.bool false)), none⟩, ⟨(some 19), mv (t 18), none⟩, ⟨(some 20), fad (t 1) 5, some (19, true)⟩, ⟨(some 21), ld (t 20) 2 true, some (19, true)⟩, ⟨(some 22), callq (c (.fn 45 [])) [t 21], some (19, true)⟩, ⟨(some 23), pick (t 19) (t 22) (c (.bool false)), none⟩, ⟨(some 2), mv (t 23), none⟩]) (ret))
def r_impl_ValidStatement : List ARes := [.tmp 2]
theorem k_impl_ValidStatement : acLin Go.Proofs.Tryz.prog 23 1 (inQ [45, 56, 58] []) [] = some (c_impl_ValidStatement, r_impl_ValidStatement) := by kernel_rfl
def c_impl_statementText : AC := seq (reg [⟨(some 1), box 7 (t 0), none⟩, ⟨(some 2), mv (c (.str ⟨#[]⟩)), none⟩]) (seq (reg [⟨(some 6), fad (t 1) 5, none⟩, ⟨(some 7), ld (t 6) 2 true, none⟩, ⟨(some 8), callq (c (.fn 46 [])) [t 7], none⟩, ⟨(some 9), bin .add (c (.str ⟨#[115, 116, 97, 116, 101, 109, 101, 110, 116, 32]⟩)) (t 8), none⟩, ⟨(some 10), bin .add (t 9) (c (.str ⟨#[10]⟩)), none⟩, ⟨(some 3), mv (t 10), none⟩]) (seq (seq (reg [⟨(some 11), fad (t 1) 0, none⟩, ⟨(some 12), ld (t 11) 1 false, none⟩, ⟨(some 13), len (t 12), none⟩, ⟨(some 14), mv (c (.int .i64 0)), none⟩]) (block 0 (loop (seq (reg [⟨(some 15), bin .lss (t 14) (t 13), none⟩]) (seq (cond (t 15) (skip) (exit 0)) (seq (block 1 (seq (reg [⟨(some 16), iad 2 (t 12) (t 14), none⟩, ⟨(some 17), ld (t 16) 2 true, none⟩, ⟨(some 5), alloc [.int .i64 0, .int .u32 0], none⟩, ⟨none, st (t 5) 2 (t 17), none⟩]) (reg [⟨(some 18), mv (t 3), none⟩, ⟨(some 19), ld (t 5) 2 true, none⟩, ⟨(some 20), callq (c (.fn 54 [])) [t 19], none⟩, ⟨(some 21), bin .add (c (.str ⟨#[119, 105, 116, 104, 111, 117, 116, 32]⟩)) (t 20), none⟩, ⟨(some 22), bin .add (t 21) (c (.str ⟨#[10]⟩)), none⟩, ⟨(some 23), bin .add (t 18) (t 22), none⟩, ⟨(some 3), mv (t 23), none⟩]))) (reg [⟨(some 24), bin .add (t 14) (c (.int .i64 1)), none⟩, ⟨(some 14), mv (t 24), none⟩]))))))) (seq (reg [⟨(some 25), mv (t 3), none⟩, ⟨(some 26), fad (t 1) 1, none⟩, ⟨(some 27), ld (t 26) 4 true, none⟩, ⟨(some 28), callq (c (.fn 57 [])) [t 27], none⟩, ⟨(some 29), bin .add (t 25) (t 28), none⟩, ⟨(some 2), mv (t 29), none⟩]) (ret))))
def r_impl_statementText : List ARes := [.tmp 2]
theorem k_impl_statementText : acLin Go.Proofs.Tryz.prog 24 1 (inQ [46, 54, 57] []) [] = some (c_impl_statementText, r_impl_statementText) := by kernel_rfl
def c_spec_l06Statement : AC := seq (reg [⟨(some 2), mv (c (.bool false)), none⟩]) (seq (reg [⟨(some 3), mv (t 0), none⟩, ⟨(some 4), nilc (t 3), none⟩, ⟨(some 5), fad (t 4) 0, none⟩, ⟨(some 6), ld (t 5) 1 false, none⟩, ⟨(some 7), callq (c (.fn 42 [])) [t 6], none⟩, ⟨(some 8), bin .eql (t 7) (c (.int .i64 0)), none⟩, ⟨(some 9), mv (t 8), none⟩, ⟨(some 10), mv (t 0), some (9, true)⟩, ⟨(some 11), nilc (t 10), some (9, true)⟩, ⟨(some 12), fad (t 11) 1, some (9, true)⟩, ⟨(some 13), calle (c (.fn 40 [])) [t 12] [], some (9, true)⟩, ⟨(some 14), pick (t 9) (t 13) (c (.bool false)), none⟩, ⟨(some 15), mv (t 14), none⟩, ⟨(some 16), mv (t 0), some (15, true)⟩, ⟨(some 17), nilc (t 16), some (15, true)⟩, ⟨(some 18), fad (t 17) 1, some (15, true)⟩, ⟨(some 19), fad (t 18) 0, some (15, true)⟩, ⟨(some 20), fad (t 19) 0, some (15, true)⟩, ⟨(some 21), ld (t 20) 1 false, some (15, true)⟩, ⟨(some 22), bin .eql (t 21) (c (.int .i64 0)), some (15, true)⟩, ⟨(some 23), pick (t 15) (t 22) (c (.bool false)), none⟩, ⟨(some 24), mv (t 23), none⟩, ⟨(some 25), mv (t 0), some (24, true)⟩, ⟨(some 26), nilc (t 25), some (24, true)⟩, ⟨(some 27), fad (t 26) 5, some (24, true)⟩, ⟨(some 28), ld (t 27) 2 true, some (24, true)⟩, ⟨(some 29), callq (c (.fn 33 [])) [t 28], some (24, true)⟩, ⟨(some 30), pick (t 24) (t 29) (c (.bool false)), none⟩, ⟨(some 2), mv (t 30), none⟩]) (ret))
def r_spec_l06Statement : List ARes := [.tmp 2]
theorem k_spec_l06Statement : acLin Go.Proofs.Tryz.prog 15 1 (inQ [33, 42] [40]) [] = some (c_spec_l06Statement, r_spec_l06Statement) := by kernel_rfl
def c_spec_l06Stated : AC := seq (reg [⟨(some 2), mv (c (.str ⟨#[]⟩)), none⟩]) (seq (reg [⟨(some 5), mv (t 0), none⟩, ⟨(some 6), nilc (t 5), none⟩, ⟨(some 7), fad (t 6) 5, none⟩, ⟨(some 8), ld (t 7) 2 true, none⟩, ⟨(some 9), callq (c (.fn 34 [])) [t 8], none⟩, ⟨(some 10), bin .add (c (.str ⟨#[115, 116, 97, 116, 101, 109, 101, 110, 116, 32]⟩)) (t 9), none⟩, ⟨(some 11), bin .add (t 10) (c (.str ⟨#[10]⟩)), none⟩, ⟨(some 3), mv (t 11), none⟩]) (seq (seq (reg [⟨(some 4), mv (c (.int .i64 0)), none⟩]) (block 0 (loop (seq (seq (reg [⟨(some 12), mv (t 4), none⟩, ⟨(some 13), mv (t 0), none⟩, ⟨(some 14), nilc (t 13), none⟩, ⟨(some 15), fad (t 14) 0, none⟩, ⟨(some 16), ld (t 15) 1 false, none⟩, ⟨(some 17), len (t 16), none⟩, ⟨(some 18), bin .lss (t 12) (t 17), none⟩]) (cond (t 18) (skip) (exit 0))) (seq (block 1 (reg [⟨(some 21), mv (t 3), none⟩, ⟨(some 22), mv (t 0), none⟩, ⟨(some 23), nilc (t 22), none⟩, ⟨(some 24), fad (t 23) 0, none⟩, ⟨(some 25), ld (t 24) 1 false, none⟩, ⟨(some 26), mv (t 4), none⟩, ⟨(some 27), iad 2 (t 25) (t 26), none⟩, ⟨(some 28), ld (t 27) 2 true, none⟩, ⟨(some 29), callq (c (.fn 38 [])) [t 28], none⟩, ⟨(some 30), bin .add (c (.str ⟨#[119, 105, 116, 104, 111, 117, 116, 32]⟩)) (t 29), none⟩, ⟨(some 31), bin .add (t 30) (c (.str ⟨#[10]⟩)), none⟩, ⟨(some 32), bin .add (t 21) (t 31), none⟩, ⟨(some 3), mv (t 32), none⟩])) (reg [⟨(some 19), mv (t 4), none⟩, ⟨(some 20), bin .add (t 19) (c (.int .i64 1)), none⟩, ⟨(some 4), mv (t 20), none⟩])))))) (seq (reg [⟨(some 33), mv (t 3), none⟩, ⟨(some 34), mv (t 0), none⟩, ⟨(some 35), nilc (t 34), none⟩, ⟨(some 36), fad (t 35) 1, none⟩, ⟨(some 37), calle (c (.fn 41 [])) [t 36] [], none⟩, ⟨(some 38), bin .add (t 33) (t 37), none⟩, ⟨(some 2), mv (t 38), none⟩]) (ret))))
def r_spec_l06Stated : List ARes := [.tmp 2]
theorem k_spec_l06Stated : acLin Go.Proofs.Tryz.prog 16 1 (inQ [34, 38] [41]) [] = some (c_spec_l06Stated, r_spec_l06Stated) := by kernel_rfl
def c_laws_eqStatement : AC := seq (reg [⟨(some 2), box 7 (t 0), none⟩, ⟨(some 3), box 7 (t 1), none⟩, ⟨(some 4), mv (c (.bool false)), none⟩]) (seq (seq (reg [⟨(some 5), fad (t 2) 0, none⟩, ⟨(some 6), ld (t 5) 1 false, none⟩, ⟨(some 7), fad (t 3) 0, none⟩, ⟨(some 8), ld (t 7) 1 false, none⟩, ⟨(some 9), callq (c (.fn 25 [])) [t 6, t 8], none⟩, ⟨(some 10), un .not (t 9), none⟩]) (cond (t 10) (seq (reg [⟨(some 4), mv (c (.bool false)), none⟩]) (ret)) (skip))) (seq (seq (reg [⟨(some 11), fad (t 2) 1, none⟩, ⟨(some 12), ld (t 11) 4 true, none⟩, ⟨(some 13), fad (t 3) 1, none⟩, ⟨(some 14), ld (t 13) 4 true, none⟩, ⟨(some 15), callq (c (.fn 26 [])) [t 12, t 14], none⟩, ⟨(some 16), un .not (t 15), none⟩]) (cond (t 16) (seq (reg [⟨(some 4), mv (c (.bool false)), none⟩]) (ret)) (skip))) (seq (seq (reg [⟨(some 17), fad (t 2) 5, none⟩, ⟨(some 18), ld (t 17) 2 true, none⟩, ⟨(some 19), fad (t 3) 5, none⟩, ⟨(some 20), ld (t 19) 2 true, none⟩, ⟨(some 21), callq (c (.fn 27 [])) [t 18, t 20], none⟩, ⟨(some 22), un .not (t 21), none⟩]) (cond (t 22) (seq (reg [⟨(some 4), mv (c (.bool false)), none⟩]) (ret)) (skip))) (seq (reg [⟨(some 4), mv (c (.bool true)), none⟩]) (ret)))))
def r_laws_eqStatement : List ARes := [.tmp 4]
theorem k_laws_eqStatement : acLin Go.Proofs.Tryz.prog 6 2 (inQ [25, 26, 27] []) [] = some (c_laws_eqStatement, r_laws_eqStatement) := by kernel_rfl
end Go.Proofs.YtgiakpeneckgfaaGreatDoorAi
end

section
/- Contracts: lists of forbidden parts. -/
namespace Go.Proofs.YtgiakpeneckgfaaGreatDoorAi
open Go Go.RowKit
set_option linter.unusedVariables false
set_option linter.unusedSimpArgs false
set_option maxRecDepth 20000

theorem T_indexG {g : FuncId} {caps : List AV} {os : List (Option (List AV))} (f : Gr → Bool) (l : List Gr) (hl : l.length ≤ maxLen) (ho : ClosedH os) (hc : ltL os.length caps = true)
    (hf : ∀ x ∈ l, T PP g ([grA x] ++ caps) ⟨os⟩ fun r A' => r = .bool (f x) ∧ A' = ⟨os⟩) :
    T PP 115 [.sl (grsA l) false, .fn g caps] ⟨os⟩ fun r A' => r = .int .i64 (idxF f l 0) ∧ A' = ⟨os⟩ := by
  refine H_code Quiet.nil hmix k_slices_IndexFunc_Simpl_Graph_impl_Graph rfl (fun b => b) (Nat.le_refl _) (fun _ _ => rfl) (injB_id _) (by rfl) ?_
  show wpc os.length PP _ c_slices_IndexFunc_Simpl_Graph_impl_Graph (initSt [.sl (grsA l) false, .fn g caps] ⟨os⟩) _
  simp only [maxLen] at hl
  simp -dsimp -implicitDefEqProofs [c_slices_IndexFunc_Simpl_Graph_impl_Graph, r_slices_IndexFunc_Simpl_Graph_impl_Graph]
  refine wpLoop_st (fun (i : Nat) => ⟨tl [(0, .sl (grsA l) false), (1, .fn g caps), (7, .int .i64 l.length), (8, .int .i64 i)], ⟨os⟩⟩) (fun i => i ≤ l.length ∧ idxF f (l.drop i) i = idxF f l 0) (fun i => l.length - i) 0 ⟨by omega, rfl⟩ (Sub.pre0 ho (by simp [hc])) ?_
  rintro i ⟨hi, hx⟩
  simp -dsimp -implicitDefEqProofs
  refine brW_of (fun h => ?_) (fun h => ?_) <;> simp only [decide_eq_true_eq, decide_eq_false_iff_not] at h
  · have hi' : i < l.length := by omega
    have hw := wrapNat (i := i) (by omega)
    simp -dsimp -implicitDefEqProofs [hi', hw]
    refine (hf l[i] (List.getElem_mem hi')).mono ?_
    rintro r A' ⟨rfl, rfl⟩
    rw [drop_cons hi', idxF] at hx
    cases hv : f l[i] with
    | false =>
      simp only [hv, Bool.false_eq_true, if_false] at hx
      simp -dsimp -implicitDefEqProofs [hw]
      exact .mk (i + 1) ⟨by omega, hx⟩ (by omega) (Sub.pre0 ho (by simp [hw, hc]))
    | true =>
      simp only [hv, if_true] at hx
      simp -dsimp -implicitDefEqProofs [← hx, hsub_all ho]
  · have : i = l.length := by omega
    subst this
    simp [idxF] at hx
    simp -dsimp -implicitDefEqProofs [← hx, hsub_all ho]
noncomputable def yesG (sp : List AV → AHeap → Option (AV × AHeap)) (caps : List AV) (A : AHeap) (x : Gr) : Bool := yesOf sp ([grA x] ++ caps) A
open Classical in
noncomputable def spIdxG (g : FuncId) (sp : List AV → AHeap → Option (AV × AHeap)) : List AV → AHeap → Option (AV × AHeap)
  | [.sl xs false, .fn g' caps], A => if h : g' = g ∧ ∃ l : List Gr, xs = grsA l ∧ l.length ≤ maxLen ∧ ∀ x ∈ l, sp ([grA x] ++ caps) A = some (.bool (yesG sp caps A x), A)
      then some (.int .i64 (idxF (yesG sp caps A) h.2.choose 0), A) else none
  | _, _ => none
theorem spIdxG_eq {g : FuncId} {sp : List AV → AHeap → Option (AV × AHeap)} (f : Gr → Bool) {l : List Gr} {caps : List AV} {A : AHeap} (hl : l.length ≤ maxLen) (h : ∀ x ∈ l, sp ([grA x] ++ caps) A = some (.bool (f x), A)) :
    spIdxG g sp [.sl (grsA l) false, .fn g caps] A = some (.int .i64 (idxF f l 0), A) := by
  have hy : ∀ x ∈ l, yesG sp caps A x = f x := by
    intro x hx
    unfold yesG yesOf
    rw [h x hx]
  have hc : g = g ∧ ∃ k : List Gr, grsA l = grsA k ∧ k.length ≤ maxLen ∧ ∀ x ∈ k, sp ([grA x] ++ caps) A = some (.bool (yesG sp caps A x), A) := ⟨rfl, l, rfl, hl, fun x hx => by rw [hy x hx]; exact h x hx⟩
  unfold spIdxG
  dsimp only
  rw [dif_pos hc]
  have e : hc.2.choose = l := (grsA_inj.1 hc.2.choose_spec.1).symm
  rw [e]
  have : ∀ (l : List Gr) (i : Nat), (∀ x ∈ l, yesG sp caps A x = f x) → idxF (yesG sp caps A) l i = idxF f l i := by
    intro l
    induction l with
    | nil => intro _ _; rfl
    | cons x l ih => intro i h; rw [idxF, idxF, h x (List.mem_cons_self ..), ih _ fun y hy => h y (List.mem_cons_of_mem _ hy)]
  rw [this l 0 hy]
theorem QE_idxG {g : FuncId} {sp : List AV → AHeap → Option (AV × AHeap)} (hg : QE PP g sp) : QE PP 115 (spIdxG g sp) := by
  intro args A r A1 e
  unfold spIdxG at e
  split at e
  · rename_i xs g' caps
    split at e
    · rename_i hc
      obtain ⟨rfl, hx⟩ := hc
      injection e with e
      injection e with e1 e2
      subst e1; subst e2
      obtain ⟨h1, h2, h3⟩ := hx.choose_spec
      generalize hx.choose = l at h1 h2 h3
      subst h1
      refine T.of_closed (T_indexG (g := g') (caps := []) (os := []) (fun _ => true) [] (by simp) ClosedH.nil rfl (fun x hx => (by cases hx))).1 fun ho hl => ?_
      exact T_indexG (os := A.l) _ l h2 ho (by simpa [ltL, AV.lt] using hl) fun x hx => hg _ _ _ _ (h3 x hx)
    · cases e
  · cases e
theorem T_anyG {g : FuncId} {sp : List AV → AHeap → Option (AV × AHeap)} (hg : QE PP g sp) {caps : List AV} {os : List (Option (List AV))} (f : Gr → Bool) (l : List Gr) (hl : l.length ≤ maxLen) (ho : ClosedH os) (hc : ltL os.length caps = true) (hcl : looseL caps = caps)
    (hf : ∀ x ∈ l, sp ([grA x] ++ caps) ⟨os⟩ = some (.bool (f x), ⟨os⟩)) :
    T PP 90 [.sl (grsA l) false, .fn g caps] ⟨os⟩ fun r A' => r = .bool (l.any f) ∧ A' = ⟨os⟩ := by
  refine H_code (Quiet.e1 (QE_idxG hg) Quiet.nil) hmix k_slices_ContainsFunc_Simpl_Graph_impl_Graph rfl (fun b => b) (Nat.le_refl _) (fun _ _ => rfl) (injB_id _) (by rfl) ?_
  show wpc os.length PP _ c_slices_ContainsFunc_Simpl_Graph_impl_Graph (initSt [.sl (grsA l) false, .fn g caps] ⟨os⟩) _
  simp -dsimp -implicitDefEqProofs [c_slices_ContainsFunc_Simpl_Graph_impl_Graph, r_slices_ContainsFunc_Simpl_Graph_impl_Graph, hcl, spIdxG_eq f hl hf, hsub_all ho, ← idxF_ge f l 0]
open Classical in
noncomputable def spAnyG (g : FuncId) (sp : List AV → AHeap → Option (AV × AHeap)) : List AV → AHeap → Option (AV × AHeap)
  | [.sl xs false, .fn g' caps], A => if h : g' = g ∧ looseL caps = caps ∧ ∃ l : List Gr, xs = grsA l ∧ l.length ≤ maxLen ∧ ∀ x ∈ l, sp ([grA x] ++ caps) A = some (.bool (yesG sp caps A x), A)
      then some (.bool (h.2.2.choose.any (yesG sp caps A)), A) else none
  | _, _ => none
theorem spAnyG_eq {g : FuncId} {sp : List AV → AHeap → Option (AV × AHeap)} (f : Gr → Bool) {l : List Gr} {caps : List AV} {A : AHeap} (hl : l.length ≤ maxLen) (hcl : looseL caps = caps) (h : ∀ x ∈ l, sp ([grA x] ++ caps) A = some (.bool (f x), A)) :
    spAnyG g sp [.sl (grsA l) false, .fn g caps] A = some (.bool (l.any f), A) := by
  have hy : ∀ x ∈ l, yesG sp caps A x = f x := by
    intro x hx
    unfold yesG yesOf
    rw [h x hx]
  have hc : g = g ∧ looseL caps = caps ∧ ∃ k : List Gr, grsA l = grsA k ∧ k.length ≤ maxLen ∧ ∀ x ∈ k, sp ([grA x] ++ caps) A = some (.bool (yesG sp caps A x), A) := ⟨rfl, hcl, l, rfl, hl, fun x hx => by rw [hy x hx]; exact h x hx⟩
  unfold spAnyG
  dsimp only
  rw [dif_pos hc]
  have e : hc.2.2.choose = l := (grsA_inj.1 hc.2.2.choose_spec.1).symm
  rw [e]
  have : l.any (yesG sp caps A) = l.any f := by
    clear e hc h hl
    induction l with
    | nil => rfl
    | cons x l ih => rw [List.any_cons, List.any_cons, hy x (List.mem_cons_self ..), ih fun y hm => hy y (List.mem_cons_of_mem _ hm)]
  rw [this]
theorem QE_anyG {g : FuncId} {sp : List AV → AHeap → Option (AV × AHeap)} (hg : QE PP g sp) : QE PP 90 (spAnyG g sp) := by
  intro args A r A1 e
  unfold spAnyG at e
  split at e
  · rename_i xs g' caps
    split at e
    · rename_i hc
      obtain ⟨rfl, hcl, hx⟩ := hc
      injection e with e
      injection e with e1 e2
      subst e1; subst e2
      obtain ⟨h1, h2, h3⟩ := hx.choose_spec
      generalize hx.choose = l at h1 h2 h3
      subst h1
      refine T.of_closed (T_anyG hg (caps := []) (os := []) (fun _ => true) [] (by simp) ClosedH.nil rfl rfl (fun x hx => (by cases hx))).1 fun ho hl => ?_
      exact T_anyG hg (os := A.l) _ l h2 ho (by simpa [ltL, AV.lt] using hl) hcl h3
    · cases e
  · cases e


def grsIn (gs : List Gr) : Prop := ∀ x ∈ gs, 0 ≤ x.e ∧ x.e ≤ 4294967295
def allGr (gs : List Gr) : Bool := gs.all fun x => graphOk x.n x.e
def forbC (gs : List Gr) : Int := if allGr gs = false then 1 else if 6 < gs.length then 3 else 0
theorem e_anyG_bad : QE PP 90 (spAnyG 91 (spR sp_badGraph)) := QE_anyG q_impl_badGraph.toR
theorem any_bad (gs : List Gr) : (gs.any fun x => !graphOk x.n x.e) = !allGr gs := by
  unfold allGr
  rw [List.not_all_eq_any_not]
noncomputable def sp_forbP : List AV → Option (AV) := pf (ι := (List Gr)) (α := AV) (fun gs => gs.length ≤ maxLen ∧ grsIn gs) (fun gs => [.sl (grsA gs) false]) (fun gs => .int .i64 (forbC gs))
theorem sp_forbP_eq (gs : List Gr) (h : gs.length ≤ maxLen ∧ grsIn gs) : sp_forbP [.sl (grsA gs) false] = some (.int .i64 (forbC gs)) := by
  unfold sp_forbP
  exact pf_eq (ι := (List Gr)) (α := AV) gs h (by rintro gs' _ e; simp_all [Int.natCast_inj])
theorem q_impl_forbiddenOk : QP PP 58 sp_forbP := by
  refine QP_pf (fun gs h => ?_) fun gs h => ?_
  · exact ⟨by first | rfl | simp, by first | rfl | simp⟩
  replace h : gs.length ≤ maxLen ∧ grsIn gs := h
  refine P_code (Quiet.e1 e_anyG_bad Quiet.nil) hmix k_impl_forbiddenOk rfl ?_ ?_
  · first | rfl | simp
  show wpc 0 PP _ c_impl_forbiddenOk (initSt [.sl (grsA gs) false] .nil) (endP r_impl_forbiddenOk (.int .i64 (forbC gs)))
  have hany := spAnyG_eq (g := 91) (sp := spR sp_badGraph) (fun x => !graphOk x.n x.e) (l := gs) (caps := []) (A := ⟨[]⟩) h.1 rfl (fun x hx => by
    have := sp_badGraph_eq x.n x.e (h.2 x hx)
    simp [spR, seeL_cons, seeL_nil, seeV_int, seeV_agg, this, AV.flat])
  rw [any_bad] at hany
  unfold forbC
  cases ha : allGr gs with
  | false => simp -dsimp -implicitDefEqProofs [c_impl_forbiddenOk, r_impl_forbiddenOk, hany, ha]
  | true =>
    by_cases h6 : 6 < gs.length
    · have h6' : (6 : Int) < gs.length := by omega
      simp -dsimp -implicitDefEqProofs [c_impl_forbiddenOk, r_impl_forbiddenOk, hany, ha, h6, h6']
    · have h6' : ¬ (6 : Int) < gs.length := by omega
      simp -dsimp -implicitDefEqProofs [c_impl_forbiddenOk, r_impl_forbiddenOk, hany, ha, h6, h6']
theorem q_spec_l01Forbidden : QP PP 42 sp_forbP := by
  refine QP_pf (fun gs h => ?_) fun gs h => ?_
  · exact ⟨by first | rfl | simp, by first | rfl | simp⟩
  replace h : gs.length ≤ maxLen ∧ grsIn gs := h
  refine P_code (Quiet.q1 q_spec_l01Ok Quiet.nil) hmix k_spec_l01Forbidden rfl ?_ ?_
  · first | rfl | simp
  show wpc 0 PP _ c_spec_l01Forbidden (initSt [.sl (grsA gs) false] .nil) (endP r_spec_l01Forbidden (.int .i64 (forbC gs)))
  obtain ⟨hl, hg⟩ := h
  simp only [maxLen] at hl
  simp -dsimp -implicitDefEqProofs [c_spec_l01Forbidden, r_spec_l01Forbidden]
  refine wpLoop_st (fun (i : Nat) => ⟨tl [(0, .sl (grsA gs) false), (3, .int .i64 i)], ⟨[]⟩⟩) (fun i => i ≤ gs.length ∧ allGr (gs.take i) = true) (fun i => gs.length - i) 0 ⟨by omega, rfl⟩ (Sub.keep (by simp) (by simp [hsub]) (by simp)) ?_
  rintro i ⟨h1, h2⟩
  simp -dsimp -implicitDefEqProofs
  refine brW_of (fun h => ?_) (fun h => ?_) <;> simp only [decide_eq_true_eq, decide_eq_false_iff_not] at h
  · have hi : i < gs.length := by omega
    have hw := wrapNat (i := i) (by omega)
    have hok := sp_graphOk_eq gs[i].n gs[i].e (hg _ (List.getElem_mem hi))
    cases hv : graphOk gs[i].n gs[i].e with
    | false =>
      have hf : forbC gs = 1 := by
        have : allGr gs = false := by
          unfold allGr; rw [List.all_eq_false]; exact ⟨gs[i], List.getElem_mem hi, by simp [hv]⟩
        unfold forbC; rw [if_pos this]
      simp -dsimp -implicitDefEqProofs [hi, hok, hv, hf]
    | true =>
      simp -dsimp -implicitDefEqProofs [hi, hok, hv, hw]
      refine .mk (i + 1) ⟨by omega, ?_⟩ (by omega) (Sub.keep (by simp) (by simp [hsub]) (by simp [hw]))
      unfold allGr at h2 ⊢
      rw [take_snoc gs i hi, List.all_append, h2]
      simp [hv]
  · have hi : i = gs.length := by omega
    subst hi
    rw [List.take_length] at h2
    unfold forbC
    by_cases h6 : 6 < gs.length
    · have h6' : (6 : Int) < gs.length := by omega
      simp -dsimp -implicitDefEqProofs [h2, h6, h6']
    · have h6' : ¬ (6 : Int) < gs.length := by omega
      simp -dsimp -implicitDefEqProofs [h2, h6, h6']

noncomputable def sp_eqGrs : List AV → Option (AV) := pf (ι := (List Gr) × (List Gr)) (α := AV) (fun ⟨xs, ys⟩ => xs.length ≤ maxLen) (fun ⟨xs, ys⟩ => [.sl (grsA xs) false, .sl (grsA ys) false]) (fun ⟨xs, ys⟩ => .bool (decide (xs = ys)))
theorem sp_eqGrs_eq (xs ys : List Gr) (h : xs.length ≤ maxLen) : sp_eqGrs [.sl (grsA xs) false, .sl (grsA ys) false] = some (.bool (decide (xs = ys))) := by
  unfold sp_eqGrs
  exact pf_eq (ι := (List Gr) × (List Gr)) (α := AV) (xs, ys) h (by rintro ⟨xs', ys'⟩ _ e; simp_all [Int.natCast_inj])
theorem q_laws_eqGraphS : QP PP 25 sp_eqGrs := by
  refine QP_pf (fun i h => ?_) fun i h => ?_
  · obtain ⟨xs, ys⟩ := i; exact ⟨by first | rfl | simp, by first | rfl | simp⟩
  obtain ⟨xs, ys⟩ := i
  replace h : xs.length ≤ maxLen := h
  refine P_code (Quiet.q1 q_laws_eqGraph Quiet.nil) hmix k_laws_eqGraphS rfl ?_ ?_
  · first | rfl | simp
  show wpc 0 PP _ c_laws_eqGraphS (initSt [.sl (grsA xs) false, .sl (grsA ys) false] .nil) (endP r_laws_eqGraphS (.bool (decide (xs = ys))))
  simp only [maxLen] at h
  by_cases hl : xs.length = ys.length
  · have hl' : ((xs.length : Int) != ys.length) = false := by simp [hl]
    simp -dsimp -implicitDefEqProofs [c_laws_eqGraphS, r_laws_eqGraphS, hl']
    refine wpLoop_st (fun (i : Nat) => ⟨tl [(0, .sl (grsA xs) false), (1, .sl (grsA ys) false), (5, .int .i64 i)], ⟨[]⟩⟩) (fun i => i ≤ xs.length ∧ xs.take i = ys.take i) (fun i => xs.length - i) 0 ⟨by omega, rfl⟩ (Sub.keep (by simp) (by simp [hsub]) (by simp)) ?_
    rintro i ⟨h1, h2⟩
    simp -dsimp -implicitDefEqProofs
    refine brW_of (fun h => ?_) (fun h => ?_) <;> simp only [decide_eq_true_eq, decide_eq_false_iff_not] at h
    · have hi : i < xs.length := by omega
      have hj : i < ys.length := by omega
      have hw := wrapNat (i := i) (by omega)
      by_cases he : xs[i] = ys[i]
      · have he' : (xs[i].n == ys[i].n && xs[i].e == ys[i].e) = true := by simp [he]
        simp -dsimp -implicitDefEqProofs [hi, hj, he', hw]
        refine .mk (i + 1) ⟨by omega, ?_⟩ (by omega) (Sub.keep (by simp) (by simp [hsub]) (by simp [hw]))
        rw [take_snoc xs i hi, take_snoc ys i hj, h2, he]
      · have he' : (xs[i].n == ys[i].n && xs[i].e == ys[i].e) = false := by
          cases hv : (xs[i].n == ys[i].n && xs[i].e == ys[i].e) with
          | false => rfl
          | true =>
            exfalso; apply he
            simp only [Bool.and_eq_true, beq_iff_eq] at hv
            cases hx : xs[i]; cases hy : ys[i]
            simp_all
        have hne : ¬ xs = ys := fun e => he (by subst e; rfl)
        simp -dsimp -implicitDefEqProofs [hi, hj, he', hne]
    · have hi : i = xs.length := by omega
      subst hi
      rw [List.take_length, hl, List.take_length] at h2
      simp -dsimp -implicitDefEqProofs [h2]
  · have hl' : ((xs.length : Int) != ys.length) = true := by simp; omega
    have hne : ¬ xs = ys := fun e => hl (by rw [e])
    simp -dsimp -implicitDefEqProofs [c_laws_eqGraphS, r_laws_eqGraphS, hl', hne]
theorem forb_zero {gs : List Gr} (h : forbC gs = 0) : allGr gs = true ∧ gs.length ≤ 6 := by
  unfold forbC at h
  split at h
  · cases h
  · rename_i h1
    split at h
    · cases h
    · exact ⟨by simpa using h1, by omega⟩
theorem grsA_cells (l : List Gr) : ∀ x ∈ grsA l, x.cells.length = 2 ∧ ltL 0 x.cells = true := by
  intro x hx
  obtain ⟨p, _, rfl⟩ := List.mem_map.1 hx
  exact ⟨rfl, rfl⟩
end Go.Proofs.YtgiakpeneckgfaaGreatDoorAi
end

section
/- Contracts: sums inside statements (the reference hands on a pointer into a statement). -/
namespace Go.Proofs.YtgiakpeneckgfaaGreatDoorAi
open Go Go.RowKit
set_option linter.unusedVariables false
set_option linter.unusedSimpArgs false
set_option maxRecDepth 20000

noncomputable def sp_l05OkS : List (Option (List AV)) → List AV → Option (AV × List (Option (List AV))) := pv (pf (ι := (List Gr) × (Int) × (Int) × (Int) × (List Tm) × (Int) × (Int)) (α := AV × List (Option (List AV))) (fun ⟨gs, tn, te, s, L, p, q⟩ => (0 ≤ te ∧ te ≤ 4294967295) ∧ L.length ≤ maxLen ∧ u32L L) (fun i => .agg (((fun ⟨gs, tn, te, s, L, p, q⟩ => [some [.sl (grsA gs) false, .int .i64 tn, .int .u32 te, .int .i64 s, .sl (tmsA L) false, .int .i64 p, .int .i64 q]] : (List Gr) × (Int) × (Int) × (Int) × (List Tm) × (Int) × (Int) → List (Option (List AV))) i).map enO) :: (fun ⟨gs, tn, te, s, L, p, q⟩ => [.ptr 0 1] : (List Gr) × (Int) × (Int) × (Int) × (List Tm) × (Int) × (Int) → List AV) i) (fun ⟨gs, tn, te, s, L, p, q⟩ => (.bool (sumB tn te s L), [some [.sl (grsA gs) false, .int .i64 tn, .int .u32 te, .int .i64 s, .sl (tmsA L) false, .int .i64 p, .int .i64 q]])))
theorem sp_l05OkS_eq (gs : List Gr) (tn te s : Int) (L : List Tm) (p q : Int) (h : (0 ≤ te ∧ te ≤ 4294967295) ∧ L.length ≤ maxLen ∧ u32L L) : sp_l05OkS [some [.sl (grsA gs) false, .int .i64 tn, .int .u32 te, .int .i64 s, .sl (tmsA L) false, .int .i64 p, .int .i64 q]] [.ptr 0 1] = some (.bool (sumB tn te s L), [some [.sl (grsA gs) false, .int .i64 tn, .int .u32 te, .int .i64 s, .sl (tmsA L) false, .int .i64 p, .int .i64 q]]) := by
  unfold sp_l05OkS pv
  exact pf_eq (ι := (List Gr) × (Int) × (Int) × (Int) × (List Tm) × (Int) × (Int)) (α := AV × List (Option (List AV))) (gs, tn, te, s, L, p, q) h (by rintro ⟨gs', tn', te', s', L', p', q'⟩ _ e; simp_all [enO, Int.natCast_inj])
namespace Stm
set_option maxHeartbeats 4000000 in
theorem v_spec_l05Ok : QV PP 40 sp_l05OkS := by
  refine QV_pf fun i h => ?_
  obtain ⟨gs, tn, te, s, L, p, q⟩ := i
  replace h : (0 ≤ te ∧ te ≤ 4294967295) ∧ L.length ≤ maxLen ∧ u32L L := h
  refine H_code (Quiet.q1 q_spec_l01Ok (Quiet.q1 q_spec_l05Frame (Quiet.q1 q_spec_l03Ok (Quiet.q1 q_spec_l05Fits (Quiet.q1 q_spec_l03Least (Quiet.q1 q_spec_l02Ok Quiet.nil)))))) hmix k_spec_l05Ok rfl (fun b => b) (by simp [AHeap.n]) (fun _ _ => rfl) (by rfl) (by first | rfl | simp) ?_
  show wpc _ PP _ c_spec_l05Ok (initSt [.ptr 0 1] ⟨[some [.sl (grsA gs) false, .int .i64 tn, .int .u32 te, .int .i64 s, .sl (tmsA L) false, .int .i64 p, .int .i64 q]]⟩) (endH (fun b => b) r_spec_l05Ok (.bool (sumB tn te s L)) [some [.sl (grsA gs) false, .int .i64 tn, .int .u32 te, .int .i64 s, .sl (tmsA L) false, .int .i64 p, .int .i64 q]])
  obtain ⟨hte, hl, hu⟩ := h
  simp only [maxLen] at hl
  have hg := sp_graphOk_eq tn te hte
  have hs := sp_span_eq tn te s hte
  cases h1 : graphOk tn te with
  | false =>
    rw [h1] at hg
    have hm := sumB_false (tn := tn) (te := te) (s := s) (L := L) (fun h => by have := h.1.1; rw [h1] at this; cases this)
    simp -dsimp -implicitDefEqProofs [hsub, c_spec_l05Ok, r_spec_l05Ok, hg, hm]
  | true =>
    rw [h1] at hg
    cases h2 : spanB tn s with
    | false =>
      rw [h2] at hs
      have hm := sumB_false (tn := tn) (te := te) (s := s) (L := L) (fun h => by have := h.1.2.1; rw [h2] at this; cases this)
      simp -dsimp -implicitDefEqProofs [hsub, c_spec_l05Ok, r_spec_l05Ok, hg, hs, hm]
    | true =>
      rw [h2] at hs
      by_cases h64 : L.length ≤ 64
      · have h64' : ¬ (64 : Int) < L.length := by omega
        simp -dsimp -implicitDefEqProofs [hsub, c_spec_l05Ok, r_spec_l05Ok, hg, hs, h64']
        refine wpLoop_st (fun (i : Nat) => ⟨tl [(0, .ptr 0 1), (3, .int .i64 i)], ⟨[some [.sl (grsA gs) false, .int .i64 tn, .int .u32 te, .int .i64 s, .sl (tmsA L) false, .int .i64 p, .int .i64 q]]⟩⟩) (fun i => i ≤ L.length ∧ ∀ i', i' < i → okTm tn te s L i') (fun i => L.length - i) 0 ⟨by omega, fun i' h => by omega⟩ (Sub.keep (by simp) (by simp [hsub]) (by simp)) ?_
        rintro i ⟨hi, hok⟩
        simp -dsimp -implicitDefEqProofs
        refine brW_of (fun h => ?_) (fun h => ?_) <;> simp only [decide_eq_true_eq, decide_eq_false_iff_not] at h
        · have hx : i < L.length := by omega
          have hwi := wrapNat (i := i) (by omega)
          have hue := hu L[i] (List.getElem_mem hx)
          have hf := sp_flagOk_eq L[i].k L[i].n L[i].e hue
          have hbad := sum_bad (tn := tn) (te := te) (s := s) hx
          unfold termB at hbad
          cases c1 : flagOk L[i].k L[i].n L[i].e with
          | false =>
            rw [c1] at hf hbad
            simp -dsimp -implicitDefEqProofs [hsub, hx, hf, hbad rfl]
          | true =>
            rw [c1] at hf hbad
            have hft := fits_of tn te s c1 hue
            have hls := leastF_of c1 hue
            cases c2 : fitTB L[i].k L[i].n L[i].e tn te s with
            | false =>
              rw [c2] at hft hbad
              simp -dsimp -implicitDefEqProofs [hsub, hx, hf, hft, hbad rfl]
            | true =>
              rw [c2] at hft hbad
              cases c3 : (((leastE L[i].n.toNat L[i].k.toNat L[i].e.toNat : Nat) : Int) == L[i].e) with
              | false =>
                rw [c3] at hbad
                simp -dsimp -implicitDefEqProofs [hsub, hx, hf, hft, hls, c3, hbad rfl]
              | true =>
                rw [c3] at hbad
                rcases i with _ | j
                · cases c4 : frOk L[0].p L[0].q with
                  | false =>
                    rw [c4] at hbad
                    simp -dsimp -implicitDefEqProofs [hsub, hx, hf, hft, hls, c3, c4, hbad rfl]
                  | true =>
                    rw [c4] at hbad
                    cases c5 : (L[0].p == 0) with
                    | true =>
                      rw [c5] at hbad
                      simp -dsimp -implicitDefEqProofs [hsub, hx, hf, hft, hls, c3, c4, c5, hbad rfl]
                    | false =>
                      have hgood : termB tn te s L[0] = true := by unfold termB; rw [c1, c2, c3, c4, c5]; rfl
                      simp -dsimp -implicitDefEqProofs [hsub, hx, hf, hft, hls, c3, c4, c5, hwi]
                      have w1 : IntKind.wrap .i64 1 = 1 := rfl
                      exact .mk 1 ⟨by omega, fun i' h' => by
                        obtain rfl : i' = 0 := by omega
                        exact fun _ => ⟨hgood, fun j hj => by omega⟩⟩ (by omega) (Sub.keep (by simp) (by simp [hsub]) (by simp [w1]))
                · have hj : j < L.length := by omega
                  have hp : (0 : Int) < ((j : Int) + 1) := by omega
                  have hp0 : (0 : Int) ≤ ((j : Int) + 1) := by omega
                  have hwj : IntKind.wrap .i64 (j : Int) = j := wrapI64 (by omega) (by omega)
                  by_cases c6 : L[j + 1].e ≤ L[j].e
                  · have hm := sum_bad2 (tn := tn) (te := te) (s := s) hx (by omega)
                    simp -dsimp -implicitDefEqProofs [hsub, hx, hf, hft, hls, c3, hj, hp, hp0, hwj, c6, hm]
                  · cases c4 : frOk L[j + 1].p L[j + 1].q with
                    | false =>
                      rw [c4] at hbad
                      simp -dsimp -implicitDefEqProofs [hsub, hx, hf, hft, hls, c3, c4, hj, hp, hp0, hwj, c6, hbad rfl]
                    | true =>
                      rw [c4] at hbad
                      cases c5 : (L[j + 1].p == 0) with
                      | true =>
                        rw [c5] at hbad
                        simp -dsimp -implicitDefEqProofs [hsub, hx, hf, hft, hls, c3, c4, c5, hj, hp, hp0, hwj, c6, hbad rfl]
                      | false =>
                        have hgood : termB tn te s L[j + 1] = true := by unfold termB; rw [c1, c2, c3, c4, c5]; rfl
                        simp -dsimp -implicitDefEqProofs [hsub, hx, hf, hft, hls, c3, c4, c5, hj, hp, hp0, hwj, c6, hwi]
                        have hw2 : IntKind.wrap .i64 ((j : Int) + 1 + 1) = (j : Int) + 1 + 1 := wrapI64 (by omega) (by omega)
                        exact .mk (j + 1 + 1) ⟨by omega, fun i' h' => by
                          by_cases e : i' = j + 1
                          · subst e; exact fun _ => ⟨hgood, fun j' hj' => by
                              obtain rfl : j' = j := by omega
                              omega⟩
                          · exact hok i' (by omega)⟩ (by omega) (Sub.keep (by simp) (by simp [hsub]) (by simp [hw2]))
        · have : i = L.length := by omega
          subst this
          have hm := sumB_true (tn := tn) (te := te) (s := s) (L := L) ⟨⟨h1, h2, h64⟩, hok⟩
          simp -dsimp -implicitDefEqProofs [hsub, hm]
      · have h64' : (64 : Int) < L.length := by omega
        have hm := sumB_false (tn := tn) (te := te) (s := s) (L := L) (fun h => h64 h.1.2.2)
        simp -dsimp -implicitDefEqProofs [hsub, c_spec_l05Ok, r_spec_l05Ok, hg, hs, h64', hm]
end Stm
theorem e_l05OkS : QE PP 40 (spV sp_l05OkS) := Stm.v_spec_l05Ok.toE
noncomputable def sp_l05TextS : List (Option (List AV)) → List AV → Option (AV × List (Option (List AV))) := pv (pf (ι := (List Gr) × (Int) × (Int) × (Int) × (List Tm) × (Int) × (Int)) (α := AV × List (Option (List AV))) (fun ⟨gs, tn, te, s, L, p, q⟩ => sumInH tn te s L) (fun i => .agg (((fun ⟨gs, tn, te, s, L, p, q⟩ => [some [.sl (grsA gs) false, .int .i64 tn, .int .u32 te, .int .i64 s, .sl (tmsA L) false, .int .i64 p, .int .i64 q]] : (List Gr) × (Int) × (Int) × (Int) × (List Tm) × (Int) × (Int) → List (Option (List AV))) i).map enO) :: (fun ⟨gs, tn, te, s, L, p, q⟩ => [.ptr 0 1] : (List Gr) × (Int) × (Int) × (Int) × (List Tm) × (Int) × (Int) → List AV) i) (fun ⟨gs, tn, te, s, L, p, q⟩ => (.str (sumX tn te s L), [some [.sl (grsA gs) false, .int .i64 tn, .int .u32 te, .int .i64 s, .sl (tmsA L) false, .int .i64 p, .int .i64 q]])))
theorem sp_l05TextS_eq (gs : List Gr) (tn te s : Int) (L : List Tm) (p q : Int) (h : sumInH tn te s L) : sp_l05TextS [some [.sl (grsA gs) false, .int .i64 tn, .int .u32 te, .int .i64 s, .sl (tmsA L) false, .int .i64 p, .int .i64 q]] [.ptr 0 1] = some (.str (sumX tn te s L), [some [.sl (grsA gs) false, .int .i64 tn, .int .u32 te, .int .i64 s, .sl (tmsA L) false, .int .i64 p, .int .i64 q]]) := by
  unfold sp_l05TextS pv
  exact pf_eq (ι := (List Gr) × (Int) × (Int) × (Int) × (List Tm) × (Int) × (Int)) (α := AV × List (Option (List AV))) (gs, tn, te, s, L, p, q) h (by rintro ⟨gs', tn', te', s', L', p', q'⟩ _ e; simp_all [enO, Int.natCast_inj])
namespace Stm
theorem v_spec_l05Text : QV PP 41 sp_l05TextS := by
  refine QV_pf fun i h => ?_
  obtain ⟨gs, tn, te, s, L, p, q⟩ := i
  replace h : sumInH tn te s L := h
  refine H_code (Quiet.q1 q_spec_Decimal (Quiet.q1 q_spec_GraphText (Quiet.q1 q_spec_FractionText Quiet.nil))) hmix k_spec_l05Text rfl (fun b => b) (by simp [AHeap.n]) (fun _ _ => rfl) (by rfl) (by first | rfl | simp) ?_
  show wpc _ PP _ c_spec_l05Text (initSt [.ptr 0 1] ⟨[some [.sl (grsA gs) false, .int .i64 tn, .int .u32 te, .int .i64 s, .sl (tmsA L) false, .int .i64 p, .int .i64 q]]⟩) (endH (fun b => b) r_spec_l05Text (.str (sumX tn te s L)) [some [.sl (grsA gs) false, .int .i64 tn, .int .u32 te, .int .i64 s, .sl (tmsA L) false, .int .i64 p, .int .i64 q]])
  obtain ⟨⟨hte, hg⟩, hs, hl, hr⟩ := h
  have htn := graphOk_in hg
  have hd := sp_decS_eq s (by omega)
  have ht := sp_graphText_eq tn te hte
  have hgt : graphT tn te = grT te tn.toNat := by unfold graphT; rw [if_pos hg]
  rw [hgt] at ht
  have s0 := decB_size s (by omega) (by omega)
  have s1 := grT_size (e := te) (n := tn.toNat) (by omega)
  have z1 : 4 + (decB s).size ≤ 9223372036854775807 := by omega
  have z2 : 4 + (decB s).size + 1 ≤ 9223372036854775807 := by omega
  have z3 : 4 + (decB s).size + 1 + (grT te tn.toNat).size ≤ 9223372036854775807 := by omega
  have z4 : 4 + (decB s).size + 1 + (grT te tn.toNat).size + 1 ≤ 9223372036854775807 := by omega
  have hst := sumX_start (te := te) htn hs
  unfold sumX
  simp -dsimp -implicitDefEqProofs [c_spec_l05Text, r_spec_l05Text, hd, ht, z1, z2, z3, z4]
  refine wpLoop_st (fun (i : Nat) => ⟨tl [(0, .ptr 0 1), (3, .str (tmsW (sumWB ++ decB s ++ sepB ++ grT te tn.toNat ++ lineB) (L.take i))), (4, .int .i64 i)], ⟨[some [.sl (grsA gs) false, .int .i64 tn, .int .u32 te, .int .i64 s, .sl (tmsA L) false, .int .i64 p, .int .i64 q]]⟩⟩) (fun i => i ≤ L.length) (fun i => L.length - i) 0 (by omega) (Sub.keep (by simp) (by simp [hsub]) (by simp [tmsW, sumWB, sepB, lineB])) ?_
  intro i hi
  simp -dsimp -implicitDefEqProofs
  refine brW_of (fun h => ?_) (fun h => ?_) <;> simp only [decide_eq_true_eq, decide_eq_false_iff_not] at h
  · have hx : i < L.length := by omega
    have hwi := wrapNat (i := i) (by omega)
    have hri := hr L[i] (List.getElem_mem hx)
    have hf := sp_fracText_eq L[i].p L[i].q
    have hft : fracT L[i].p L[i].q = frT L[i].p L[i].q := by unfold fracT; rw [if_pos hri.1]
    rw [hft] at hf
    have hgx := sp_graphText_eq L[i].n L[i].e hri.2.2
    have hgx2 : graphT L[i].n L[i].e = grT L[i].e L[i].n.toNat := by unfold graphT; rw [if_pos hri.2.1]
    rw [hgx2] at hgx
    have hsn := tmsW_snoc (sumWB ++ decB s ++ sepB ++ grT te tn.toNat ++ lineB) L i hx
    have s2 := tmsW_size (L.take i) (fun r hr' => hr r (List.mem_of_mem_take hr')) (sumWB ++ decB s ++ sepB ++ grT te tn.toNat ++ lineB)
    have s3 : (L.take i).length ≤ 64 := by rw [List.length_take]; omega
    have s4 := tmT_size hri
    generalize sumWB ++ decB s ++ sepB ++ grT te tn.toNat ++ lineB = W0 at *
    unfold tmT at hsn s4
    have e1 : sepB.size = 1 := rfl
    have e2 : lineB.size = 1 := rfl
    simp only [ByteArray.size_append] at s4
    generalize tmsW W0 (L.take i) = W at *
    generalize frT L[i].p L[i].q = F at *
    generalize grT L[i].e L[i].n.toNat = G at *
    have y1 : F.size + 1 ≤ 9223372036854775807 := by omega
    have y2 : F.size + 1 + G.size ≤ 9223372036854775807 := by omega
    have y3 : F.size + 1 + G.size + 1 ≤ 9223372036854775807 := by omega
    have y4 : W.size + (F.size + 1 + G.size + 1) ≤ 9223372036854775807 := by omega
    simp -dsimp -implicitDefEqProofs [hx, hwi, hf, hft, hgx, y1, y2, y3, y4]
    exact .mk (i + 1) (by omega) (by omega) (Sub.keep (by simp) (by simp [hsub]) (by simp [hsn, sepB, lineB, hwi]))
  · obtain rfl : i = L.length := by omega
    simp -dsimp -implicitDefEqProofs [hsub]
end Stm
theorem e_l05TextS : QE PP 41 (spV sp_l05TextS) := Stm.v_spec_l05Text.toE
end Go.Proofs.YtgiakpeneckgfaaGreatDoorAi
end

section
/- Contracts: statements: validity, texts. -/
namespace Go.Proofs.YtgiakpeneckgfaaGreatDoorAi
open Go Go.RowKit
set_option linter.unusedVariables false
set_option linter.unusedSimpArgs false
set_option maxRecDepth 20000

noncomputable def stB (gs : List Gr) (tn te s : Int) (L : List Tm) (p q : Int) : Bool := (((forbC gs == 0) && sumB tn te s L) && (tn == 0)) && frOk p q
abbrev stH (gs : List Gr) (te : Int) (L : List Tm) : Prop := (gs.length ≤ maxLen ∧ grsIn gs) ∧ (0 ≤ te ∧ te ≤ 4294967295) ∧ L.length ≤ maxLen ∧ u32L L
noncomputable def sp_validSt : List AV → Option (AV) := pf (ι := (List Gr) × (Int) × (Int) × (Int) × (List Tm) × (Int) × (Int)) (α := AV) (fun ⟨gs, tn, te, s, L, p, q⟩ => stH gs te L) (fun ⟨gs, tn, te, s, L, p, q⟩ => [.agg [.sl (grsA gs) false, .int .i64 tn, .int .u32 te, .int .i64 s, .sl (tmsA L) false, .int .i64 p, .int .i64 q]]) (fun ⟨gs, tn, te, s, L, p, q⟩ => .bool (stB gs tn te s L p q))
theorem sp_validSt_eq (gs : List Gr) (tn te s : Int) (L : List Tm) (p q : Int) (h : stH gs te L) : sp_validSt [.agg [.sl (grsA gs) false, .int .i64 tn, .int .u32 te, .int .i64 s, .sl (tmsA L) false, .int .i64 p, .int .i64 q]] = some (.bool (stB gs tn te s L p q)) := by
  unfold sp_validSt
  exact pf_eq (ι := (List Gr) × (Int) × (Int) × (Int) × (List Tm) × (Int) × (Int)) (α := AV) (gs, tn, te, s, L, p, q) h (by rintro ⟨gs', tn', te', s', L', p', q'⟩ _ e; simp_all [Int.natCast_inj])
theorem q_impl_ValidStatement : QP PP 23 sp_validSt := by
  refine QP_pf (fun i h => ?_) fun i h => ?_
  · obtain ⟨gs, tn, te, s, L, p, q⟩ := i; exact ⟨by first | rfl | simp, by first | rfl | simp⟩
  obtain ⟨gs, tn, te, s, L, p, q⟩ := i
  replace h : stH gs te L := h
  refine P_code (Quiet.q1 q_impl_forbiddenOk (Quiet.q1 q_impl_ValidSum (Quiet.q1 q_impl_ValidFraction Quiet.nil))) hmix k_impl_ValidStatement rfl ?_ ?_
  · first | rfl | simp
  show wpc 0 PP _ c_impl_ValidStatement (initSt [.agg [.sl (grsA gs) false, .int .i64 tn, .int .u32 te, .int .i64 s, .sl (tmsA L) false, .int .i64 p, .int .i64 q]] .nil) (endP r_impl_ValidStatement (.bool (stB gs tn te s L p q)))
  have h1 := sp_forbP_eq gs h.1
  have h2 := sp_sumOk_eq tn te s L h.2
  unfold stB
  cases c1 : (forbC gs == 0) <;> cases c2 : sumB tn te s L <;> cases c3 : (tn == 0) <;> rw [c2] at h2 <;> simp -dsimp -implicitDefEqProofs [c_impl_ValidStatement, r_impl_ValidStatement, h1, h2, c1, c3]
noncomputable def sp_l06Statement : List AV → List AV → Option (AV × List AV) := pm (pf (ι := (List Gr) × (Int) × (Int) × (Int) × (List Tm) × (Int) × (Int)) (α := AV × List AV) (fun ⟨gs, tn, te, s, L, p, q⟩ => stH gs te L) (fun i => .agg ((fun ⟨gs, tn, te, s, L, p, q⟩ => [.sl (grsA gs) false, .int .i64 tn, .int .u32 te, .int .i64 s, .sl (tmsA L) false, .int .i64 p, .int .i64 q] : (List Gr) × (Int) × (Int) × (Int) × (List Tm) × (Int) × (Int) → List AV) i) :: (fun ⟨gs, tn, te, s, L, p, q⟩ => [] : (List Gr) × (Int) × (Int) × (Int) × (List Tm) × (Int) × (Int) → List AV) i) (fun ⟨gs, tn, te, s, L, p, q⟩ => (.bool (stB gs tn te s L p q), [.sl (grsA gs) false, .int .i64 tn, .int .u32 te, .int .i64 s, .sl (tmsA L) false, .int .i64 p, .int .i64 q])))
theorem sp_l06Statement_eq (gs : List Gr) (tn te s : Int) (L : List Tm) (p q : Int) (h : stH gs te L) : sp_l06Statement [.sl (grsA gs) false, .int .i64 tn, .int .u32 te, .int .i64 s, .sl (tmsA L) false, .int .i64 p, .int .i64 q] [] = some (.bool (stB gs tn te s L p q), [.sl (grsA gs) false, .int .i64 tn, .int .u32 te, .int .i64 s, .sl (tmsA L) false, .int .i64 p, .int .i64 q]) := by
  unfold sp_l06Statement pm
  exact pf_eq (ι := (List Gr) × (Int) × (Int) × (Int) × (List Tm) × (Int) × (Int)) (α := AV × List AV) (gs, tn, te, s, L, p, q) h (by rintro ⟨gs', tn', te', s', L', p', q'⟩ _ e; simp_all [Int.natCast_inj])
theorem m_spec_l06Statement : QM PP 15 sp_l06Statement := by
  refine QM_pf (fun i h => ?_) fun i h => ?_
  · obtain ⟨gs, tn, te, s, L, p, q⟩ := i; exact ⟨⟨by first | rfl | simp, by first | rfl | simp⟩, by first | rfl | simp, by first | rfl | simp⟩
  obtain ⟨gs, tn, te, s, L, p, q⟩ := i
  replace h : stH gs te L := h
  refine H_code (Quiet.q1 q_spec_l01Forbidden (Quiet.q1 q_spec_l02Ok (Quiet.e1 e_l05OkS Quiet.nil))) hmix k_spec_l06Statement rfl (fun b => b) (Nat.le_refl _) (fun _ _ => rfl) rfl (by first | rfl | simp) ?_
  show wpc 1 PP _ c_spec_l06Statement (initSt [.ptr 0 0] ⟨[some [.sl (grsA gs) false, .int .i64 tn, .int .u32 te, .int .i64 s, .sl (tmsA L) false, .int .i64 p, .int .i64 q]]⟩) (endH (fun b => b) r_spec_l06Statement (.bool (stB gs tn te s L p q)) [some [.sl (grsA gs) false, .int .i64 tn, .int .u32 te, .int .i64 s, .sl (tmsA L) false, .int .i64 p, .int .i64 q]])
  have h1 := sp_forbP_eq gs h.1
  have h2 := sp_l05OkS_eq gs tn te s L p q h.2
  unfold stB
  cases c1 : (forbC gs == 0) <;> cases c2 : sumB tn te s L <;> cases c3 : (tn == 0) <;> rw [c2] at h2 <;> simp -dsimp -implicitDefEqProofs [c_spec_l06Statement, r_spec_l06Statement, h1, h2, c1, c3, hsub]
def stWB : ByteArray := ⟨#[115, 116, 97, 116, 101, 109, 101, 110, 116, 32]⟩
def woB : ByteArray := ⟨#[119, 105, 116, 104, 111, 117, 116, 32]⟩
def grL (x : Gr) : ByteArray := woB ++ grT x.e x.n.toNat ++ lineB
def grW (w : ByteArray) (gs : List Gr) : ByteArray := gs.foldl (fun w x => w ++ grL x) w
def stX (gs : List Gr) (tn te s : Int) (L : List Tm) (p q : Int) : ByteArray := grW (stWB ++ frT p q ++ lineB) gs ++ sumX tn te s L
theorem grW_snoc (w : ByteArray) (L : List Gr) (i : Nat) (h : i < L.length) : grW w (L.take (i + 1)) = grW w (L.take i) ++ grL L[i] := by
  rw [take_snoc L i h]; unfold grW; rw [List.foldl_append]; rfl
def okGrs (gs : List Gr) : Prop := (∀ x ∈ gs, graphOk x.n x.e = true ∧ 0 ≤ x.e ∧ x.e ≤ 4294967295) ∧ gs.length ≤ 6
theorem grL_size {x : Gr} (h : graphOk x.n x.e = true) : (grL x).size ≤ 1300 := by
  have hn := graphOk_in h
  have h2 := grT_size (e := x.e) (n := x.n.toNat) (by omega)
  have h3 : woB.size = 8 := rfl
  have h4 : lineB.size = 1 := rfl
  unfold grL
  simp only [ByteArray.size_append]
  omega
theorem grW_size (L : List Gr) (h : ∀ x ∈ L, graphOk x.n x.e = true) : ∀ w, (grW w L).size ≤ w.size + L.length * 1300 := by
  induction L with
  | nil => intro w; simp [grW]
  | cons r M ih =>
    intro w
    have h1 := ih (fun y hy => h y (List.mem_cons_of_mem _ hy)) (w ++ grL r)
    have h2 := grL_size (h r (List.mem_cons_self ..))
    show (grW (w ++ grL r) M).size ≤ _
    simp only [ByteArray.size_append] at h1
    rw [List.length_cons]
    omega
theorem sumX_size {tn te s : Int} {L : List Tm} (h : sumInH tn te s L) : (sumX tn te s L).size ≤ 100000 := by
  obtain ⟨⟨hte, hg⟩, hs, hl, hr⟩ := h
  have htn := graphOk_in hg
  have h1 := sumX_start (te := te) htn hs
  have h2 := tmsW_size L hr (sumWB ++ decB s ++ sepB ++ grT te tn.toNat ++ lineB)
  unfold sumX
  omega
theorem st_in {gs : List Gr} {tn te s : Int} {L : List Tm} {p q : Int} (hb : stB gs tn te s L p q = true) (h : stH gs te L) : okGrs gs ∧ sumInH tn te s L ∧ frOk p q = true := by
  unfold stB at hb
  simp only [Bool.and_eq_true, beq_iff_eq] at hb
  obtain ⟨ha, h6⟩ := forb_zero hb.1.1.1
  exact ⟨⟨fun x hx => ⟨List.all_eq_true.1 ha x hx, h.1.2 x hx⟩, h6⟩, sumB_in hb.1.1.2 h.2.1 h.2.2.2, hb.2⟩
noncomputable def sp_stX : List AV → Option (AV) := pf (ι := (List Gr) × (Int) × (Int) × (Int) × (List Tm) × (Int) × (Int)) (α := AV) (fun ⟨gs, tn, te, s, L, p, q⟩ => okGrs gs ∧ sumInH tn te s L ∧ frOk p q = true) (fun ⟨gs, tn, te, s, L, p, q⟩ => [.agg [.sl (grsA gs) false, .int .i64 tn, .int .u32 te, .int .i64 s, .sl (tmsA L) false, .int .i64 p, .int .i64 q]]) (fun ⟨gs, tn, te, s, L, p, q⟩ => .str (stX gs tn te s L p q))
theorem sp_stX_eq (gs : List Gr) (tn te s : Int) (L : List Tm) (p q : Int) (h : okGrs gs ∧ sumInH tn te s L ∧ frOk p q = true) : sp_stX [.agg [.sl (grsA gs) false, .int .i64 tn, .int .u32 te, .int .i64 s, .sl (tmsA L) false, .int .i64 p, .int .i64 q]] = some (.str (stX gs tn te s L p q)) := by
  unfold sp_stX
  exact pf_eq (ι := (List Gr) × (Int) × (Int) × (Int) × (List Tm) × (Int) × (Int)) (α := AV) (gs, tn, te, s, L, p, q) h (by rintro ⟨gs', tn', te', s', L', p', q'⟩ _ e; simp_all [Int.natCast_inj])
set_option maxHeartbeats 1000000 in
theorem q_impl_statementText : QP PP 24 sp_stX := by
  refine QP_pf (fun i h => ?_) fun i h => ?_
  · obtain ⟨gs, tn, te, s, L, p, q⟩ := i; exact ⟨by first | rfl | simp, by first | rfl | simp⟩
  obtain ⟨gs, tn, te, s, L, p, q⟩ := i
  replace h : okGrs gs ∧ sumInH tn te s L ∧ frOk p q = true := h
  refine P_code (Quiet.q1 q_impl_Fraction_text (Quiet.q1 q_impl_Graph_text (Quiet.q1 q_impl_FlagSum_text Quiet.nil))) hmix k_impl_statementText rfl ?_ ?_
  · first | rfl | simp
  show wpc 0 PP _ c_impl_statementText (initSt [.agg [.sl (grsA gs) false, .int .i64 tn, .int .u32 te, .int .i64 s, .sl (tmsA L) false, .int .i64 p, .int .i64 q]] .nil) (endP r_impl_statementText (.str (stX gs tn te s L p q)))
  obtain ⟨⟨hgs, h6⟩, hsu, hf⟩ := h
  have hfb := frOk_bd hf
  have hft := sp_frText_eq p q (by omega)
  have hfs : (frT p q).size ≤ 43 := frS_size (x := ⟨p, q⟩) hf
  have hsx := sp_sumX_eq tn te s L hsu
  have hss := sumX_size hsu
  have e0 : stWB.size = 10 := rfl
  have e1 : woB.size = 8 := rfl
  have e2 : lineB.size = 1 := rfl
  have z1 : 10 + (frT p q).size ≤ 9223372036854775807 := by omega
  have z2 : 10 + (frT p q).size + 1 ≤ 9223372036854775807 := by omega
  have hst : (stWB ++ frT p q ++ lineB).size ≤ 60 := by simp only [ByteArray.size_append]; omega
  unfold stX
  simp -dsimp -implicitDefEqProofs [c_impl_statementText, r_impl_statementText, hft, z1, z2]
  refine wpLoop_st (fun (i : Nat) => ⟨tl [(1, .ptr 0 0), (3, .str (grW (stWB ++ frT p q ++ lineB) (gs.take i))), (12, .sl (grsA gs) false), (13, .int .i64 gs.length), (14, .int .i64 i)], ⟨[some [.sl (grsA gs) false, .int .i64 tn, .int .u32 te, .int .i64 s, .sl (tmsA L) false, .int .i64 p, .int .i64 q]]⟩⟩) (fun i => i ≤ gs.length) (fun i => gs.length - i) 0 (by omega) (Sub.keep (by simp) (by simp [hsub]) (by simp [grW, stWB, lineB])) ?_
  intro i hi
  simp -dsimp -implicitDefEqProofs
  refine brW_of (fun h => ?_) (fun h => ?_) <;> simp only [decide_eq_true_eq, decide_eq_false_iff_not] at h
  · have hx : i < gs.length := by omega
    have hwi := wrapNat (i := i) (by omega)
    have hgi := hgs gs[i] (List.getElem_mem hx)
    have hni := graphOk_in hgi.1
    have hgt := sp_graphTx_eq gs[i].n.toNat gs[i].e ⟨by omega, hgi.2⟩
    rw [show ((gs[i].n.toNat : Nat) : Int) = gs[i].n by omega] at hgt
    have hsn := grW_snoc (stWB ++ frT p q ++ lineB) gs i hx
    have s2 := grW_size (gs.take i) (fun r hr' => (hgs r (List.mem_of_mem_take hr')).1) (stWB ++ frT p q ++ lineB)
    have s3 : (gs.take i).length ≤ 6 := by rw [List.length_take]; omega
    have s4 := grL_size hgi.1
    generalize stWB ++ frT p q ++ lineB = W0 at *
    unfold grL at hsn s4
    simp only [ByteArray.size_append] at s4
    generalize grW W0 (gs.take i) = W at *
    generalize grT gs[i].e gs[i].n.toNat = G at *
    have y1 : 8 + G.size ≤ 9223372036854775807 := by omega
    have y2 : 8 + G.size + 1 ≤ 9223372036854775807 := by omega
    have y3 : W.size + (8 + G.size + 1) ≤ 9223372036854775807 := by omega
    simp -dsimp -implicitDefEqProofs [hx, hwi, hgt, y1, y2, y3]
    exact .mk (i + 1) (by omega) (by omega) (Sub.keep (by simp) (by simp [hsub]) (by simp [hsn, woB, lineB, hwi]))
  · obtain rfl : i = gs.length := by omega
    have s2 := grW_size gs (fun r hr' => (hgs r hr').1) (stWB ++ frT p q ++ lineB)
    rw [List.take_length]
    generalize stWB ++ frT p q ++ lineB = W0 at *
    have y4 : (grW W0 gs).size + (sumX tn te s L).size ≤ 9223372036854775807 := by omega
    simp -dsimp -implicitDefEqProofs [hsx, y4]
noncomputable def sp_l06Stated : List AV → List AV → Option (AV × List AV) := pm (pf (ι := (List Gr) × (Int) × (Int) × (Int) × (List Tm) × (Int) × (Int)) (α := AV × List AV) (fun ⟨gs, tn, te, s, L, p, q⟩ => okGrs gs ∧ sumInH tn te s L ∧ frOk p q = true) (fun i => .agg ((fun ⟨gs, tn, te, s, L, p, q⟩ => [.sl (grsA gs) false, .int .i64 tn, .int .u32 te, .int .i64 s, .sl (tmsA L) false, .int .i64 p, .int .i64 q] : (List Gr) × (Int) × (Int) × (Int) × (List Tm) × (Int) × (Int) → List AV) i) :: (fun ⟨gs, tn, te, s, L, p, q⟩ => [] : (List Gr) × (Int) × (Int) × (Int) × (List Tm) × (Int) × (Int) → List AV) i) (fun ⟨gs, tn, te, s, L, p, q⟩ => (.str (stX gs tn te s L p q), [.sl (grsA gs) false, .int .i64 tn, .int .u32 te, .int .i64 s, .sl (tmsA L) false, .int .i64 p, .int .i64 q])))
theorem sp_l06Stated_eq (gs : List Gr) (tn te s : Int) (L : List Tm) (p q : Int) (h : okGrs gs ∧ sumInH tn te s L ∧ frOk p q = true) : sp_l06Stated [.sl (grsA gs) false, .int .i64 tn, .int .u32 te, .int .i64 s, .sl (tmsA L) false, .int .i64 p, .int .i64 q] [] = some (.str (stX gs tn te s L p q), [.sl (grsA gs) false, .int .i64 tn, .int .u32 te, .int .i64 s, .sl (tmsA L) false, .int .i64 p, .int .i64 q]) := by
  unfold sp_l06Stated pm
  exact pf_eq (ι := (List Gr) × (Int) × (Int) × (Int) × (List Tm) × (Int) × (Int)) (α := AV × List AV) (gs, tn, te, s, L, p, q) h (by rintro ⟨gs', tn', te', s', L', p', q'⟩ _ e; simp_all [Int.natCast_inj])
set_option maxHeartbeats 1000000 in
theorem m_spec_l06Stated : QM PP 16 sp_l06Stated := by
  refine QM_pf (fun i h => ?_) fun i h => ?_
  · obtain ⟨gs, tn, te, s, L, p, q⟩ := i; exact ⟨⟨by first | rfl | simp, by first | rfl | simp⟩, by first | rfl | simp, by first | rfl | simp⟩
  obtain ⟨gs, tn, te, s, L, p, q⟩ := i
  replace h : okGrs gs ∧ sumInH tn te s L ∧ frOk p q = true := h
  refine H_code (Quiet.q1 q_spec_FractionText (Quiet.q1 q_spec_GraphText (Quiet.e1 e_l05TextS Quiet.nil))) hmix k_spec_l06Stated rfl (fun b => b) (Nat.le_refl _) (fun _ _ => rfl) rfl (by first | rfl | simp) ?_
  show wpc 1 PP _ c_spec_l06Stated (initSt [.ptr 0 0] ⟨[some [.sl (grsA gs) false, .int .i64 tn, .int .u32 te, .int .i64 s, .sl (tmsA L) false, .int .i64 p, .int .i64 q]]⟩) (endH (fun b => b) r_spec_l06Stated (.str (stX gs tn te s L p q)) [some [.sl (grsA gs) false, .int .i64 tn, .int .u32 te, .int .i64 s, .sl (tmsA L) false, .int .i64 p, .int .i64 q]])
  obtain ⟨⟨hgs, h6⟩, hsu, hf⟩ := h
  have hft := sp_fracText_eq p q
  have hft2 : fracT p q = frT p q := by unfold fracT; rw [if_pos hf]
  rw [hft2] at hft
  have hfs : (frT p q).size ≤ 43 := frS_size (x := ⟨p, q⟩) hf
  have hsx := sp_l05TextS_eq gs tn te s L p q hsu
  have hss := sumX_size hsu
  have e0 : stWB.size = 10 := rfl
  have e1 : woB.size = 8 := rfl
  have e2 : lineB.size = 1 := rfl
  have z1 : 10 + (frT p q).size ≤ 9223372036854775807 := by omega
  have z2 : 10 + (frT p q).size + 1 ≤ 9223372036854775807 := by omega
  have hst : (stWB ++ frT p q ++ lineB).size ≤ 60 := by simp only [ByteArray.size_append]; omega
  unfold stX
  simp -dsimp -implicitDefEqProofs [c_spec_l06Stated, r_spec_l06Stated, hft, hft2, z1, z2]
  refine wpLoop_st (fun (i : Nat) => ⟨tl [(0, .ptr 0 0), (3, .str (grW (stWB ++ frT p q ++ lineB) (gs.take i))), (4, .int .i64 i)], ⟨[some [.sl (grsA gs) false, .int .i64 tn, .int .u32 te, .int .i64 s, .sl (tmsA L) false, .int .i64 p, .int .i64 q]]⟩⟩) (fun i => i ≤ gs.length) (fun i => gs.length - i) 0 (by omega) (Sub.keep (by simp) (by simp [hsub]) (by simp [grW, stWB, lineB])) ?_
  intro i hi
  simp -dsimp -implicitDefEqProofs
  refine brW_of (fun h => ?_) (fun h => ?_) <;> simp only [decide_eq_true_eq, decide_eq_false_iff_not] at h
  · have hx : i < gs.length := by omega
    have hwi := wrapNat (i := i) (by omega)
    have hgi := hgs gs[i] (List.getElem_mem hx)
    have hgt := sp_graphText_eq gs[i].n gs[i].e hgi.2
    have hgt2 : graphT gs[i].n gs[i].e = grT gs[i].e gs[i].n.toNat := by unfold graphT; rw [if_pos hgi.1]
    rw [hgt2] at hgt
    have hsn := grW_snoc (stWB ++ frT p q ++ lineB) gs i hx
    have s2 := grW_size (gs.take i) (fun r hr' => (hgs r (List.mem_of_mem_take hr')).1) (stWB ++ frT p q ++ lineB)
    have s3 : (gs.take i).length ≤ 6 := by rw [List.length_take]; omega
    have s4 := grL_size hgi.1
    generalize stWB ++ frT p q ++ lineB = W0 at *
    unfold grL at hsn s4
    simp only [ByteArray.size_append] at s4
    generalize grW W0 (gs.take i) = W at *
    generalize grT gs[i].e gs[i].n.toNat = G at *
    have y1 : 8 + G.size ≤ 9223372036854775807 := by omega
    have y2 : 8 + G.size + 1 ≤ 9223372036854775807 := by omega
    have y3 : W.size + (8 + G.size + 1) ≤ 9223372036854775807 := by omega
    simp -dsimp -implicitDefEqProofs [hx, hwi, hgt, y1, y2, y3]
    exact .mk (i + 1) (by omega) (by omega) (Sub.keep (by simp) (by simp [hsub]) (by simp [hsn, woB, lineB, hwi]))
  · obtain rfl : i = gs.length := by omega
    have s2 := grW_size gs (fun r hr' => (hgs r hr').1) (stWB ++ frT p q ++ lineB)
    rw [List.take_length]
    generalize stWB ++ frT p q ++ lineB = W0 at *
    have y4 : (grW W0 gs).size + (sumX tn te s L).size ≤ 9223372036854775807 := by omega
    simp -dsimp -implicitDefEqProofs [hsx, y4, hsub]
end Go.Proofs.YtgiakpeneckgfaaGreatDoorAi
end

section
/- MADE BY PROGRAM (wip/tools/gen.py): the abstract code of functions. -/
namespace Go.Proofs.YtgiakpeneckgfaaGreatDoorAi
open Go AC AOp Opd
set_option linter.unusedVariables false
set_option maxRecDepth 100000
def c_spec_l06Begins : AC := seq (reg [⟨(some 4), mv (c (.bool false)), none⟩]) (seq (reg [⟨(some 5), mv (t 0), none⟩, ⟨(some 6), lens (t 5), none⟩, ⟨(some 7), mv (t 1), none⟩, ⟨(some 8), lens (t 7), none⟩, ⟨(some 9), bin .geq (t 6) (t 8), none⟩, ⟨(some 10), mv (t 9), none⟩, ⟨(some 11), mv (t 0), some (10, true)⟩, ⟨(some 12), mv (t 1), some (10, true)⟩, ⟨(some 13), lens (t 12), some (10, true)⟩, ⟨(some 14), sls (t 11) none (some (t 13)), some (10, true)⟩, ⟨(some 15), mv (t 1), some (10, true)⟩, ⟨(some 16), bin .eql (t 14) (t 15), some (10, true)⟩, ⟨(some 17), pick (t 10) (t 16) (c (.bool false)), none⟩, ⟨(some 4), mv (t 17), none⟩]) (ret))
def r_spec_l06Begins : List ARes := [.tmp 4]
theorem k_spec_l06Begins : acLin Go.Proofs.Tryz.prog 10 2 (inQ [] []) [] = some (c_spec_l06Begins, r_spec_l06Begins) := by kernel_rfl
def c_spec_l06Lines : AC := seq (reg [⟨(some 2), mv (c (.str ⟨#[]⟩)), none⟩]) (seq (reg [⟨(some 3), mv (c (.str ⟨#[]⟩)), none⟩]) (seq (seq (reg [⟨(some 4), mv (c (.int .i64 0)), none⟩]) (block 0 (loop (seq (seq (reg [⟨(some 5), mv (t 4), none⟩, ⟨(some 6), mv (t 0), none⟩, ⟨(some 7), len (t 6), none⟩, ⟨(some 8), bin .lss (t 5) (t 7), none⟩]) (cond (t 8) (skip) (exit 0))) (seq (block 1 (reg [⟨(some 11), mv (t 3), none⟩, ⟨(some 12), mv (t 0), none⟩, ⟨(some 13), mv (t 4), none⟩, ⟨(some 14), iad 1 (t 12) (t 13), none⟩, ⟨(some 15), ld (t 14) 1 false, none⟩, ⟨(some 16), bin .add (t 15) (c (.str ⟨#[10]⟩)), none⟩, ⟨(some 17), bin .add (t 11) (t 16), none⟩, ⟨(some 3), mv (t 17), none⟩])) (reg [⟨(some 9), mv (t 4), none⟩, ⟨(some 10), bin .add (t 9) (c (.int .i64 1)), none⟩, ⟨(some 4), mv (t 10), none⟩])))))) (seq (reg [⟨(some 18), mv (t 3), none⟩, ⟨(some 2), mv (t 18), none⟩]) (ret))))
def r_spec_l06Lines : List ARes := [.tmp 2]
theorem k_spec_l06Lines : acLin Go.Proofs.Tryz.prog 14 1 (inQ [] []) [] = some (c_spec_l06Lines, r_spec_l06Lines) := by kernel_rfl
def c_impl_ReadStatement : AC := seq (reg [⟨(some 2), alloc [.sl [] true, .int .i64 0, .int .u32 0, .int .i64 0, .sl [] true, .int .i64 0, .int .i64 0], none⟩, ⟨(some 3), mv (c (.int .i64 0)), none⟩]) (seq (seq (reg [⟨(some 13), mv (t 0), none⟩, ⟨(some 14), lens (t 13), none⟩, ⟨(some 15), bin .gtr (t 14) (c (.int .i64 20000)), none⟩]) (cond (t 15) (seq (reg [⟨(some 16), bld [.sl [] true, .int .i64 0, .int .u32 0, .int .i64 0, .sl [] true, .int .i64 0, .int .i64 0] [], none⟩, ⟨none, st (t 2) 7 (t 16), none⟩, ⟨(some 3), mv (c (.int .i64 2)), none⟩]) (ret)) (skip))) (seq (reg [⟨(some 18), mv (t 0), none⟩, ⟨(some 19), callq (c (.fn 17 [])) [t 18, c (.str ⟨#[10]⟩)], none⟩, ⟨(some 17), mv (t 19), none⟩, ⟨(some 20), ext (t 17) 0, none⟩, ⟨(some 21), ext (t 17) 1, none⟩, ⟨(some 22), ext (t 17) 2, none⟩, ⟨(some 4), mv (t 20), none⟩, ⟨(some 5), mv (t 21), none⟩, ⟨(some 6), mv (t 22), none⟩]) (seq (reg [⟨(some 24), mv (t 4), none⟩, ⟨(some 25), callq (c (.fn 19 [])) [t 24, c (.str ⟨#[115, 116, 97, 116, 101, 109, 101, 110, 116, 32]⟩)], none⟩, ⟨(some 26), callq (c (.fn 18 [])) [t 25], none⟩, ⟨(some 23), mv (t 26), none⟩, ⟨(some 27), ext (t 23) 0, none⟩, ⟨(some 28), ext (t 23) 1, none⟩, ⟨(some 7), alloc [.int .i64 0, .int .i64 0], none⟩, ⟨none, st (t 7) 2 (t 27), none⟩, ⟨(some 8), mv (t 28), none⟩]) (seq (reg [⟨(some 29), ld (t 7) 2 true, none⟩, ⟨(some 30), bld [.sl [] true, .int .i64 0, .int .u32 0, .int .i64 0, .sl [] true, .int .i64 0, .int .i64 0] [(5, 2, t 29)], none⟩, ⟨(some 9), alloc [.sl [] true, .int .i64 0, .int .u32 0, .int .i64 0, .sl [] true, .int .i64 0, .int .i64 0], none⟩, ⟨none, st (t 9) 7 (t 30), none⟩]) (seq (block 0 (loop (seq (seq (reg [⟨(some 31), mv (t 8), none⟩, ⟨(some 32), bin .eql (t 31) (c (.int .i64 0)), none⟩, ⟨(some 33), mv (t 32), none⟩, ⟨(some 34), mv (t 5), some (33, true)⟩, ⟨(some 35), callq (c (.fn 20 [])) [t 34, c (.str ⟨#[119, 105, 116, 104, 111, 117, 116, 32]⟩)], some (33, true)⟩, ⟨(some 36), pick (t 33) (t 35) (c (.bool false)), none⟩, ⟨(some 37), mv (t 36), none⟩, ⟨(some 38), fad (t 9) 0, some (37, true)⟩, ⟨(some 39), ld (t 38) 1 false, some (37, true)⟩, ⟨(some 40), len (t 39), some (37, true)⟩, ⟨(some 41), bin .lss (t 40) (c (.int .i64 6)), some (37, true)⟩, ⟨(some 42), pick (t 37) (t 41) (c (.bool false)), none⟩]) (cond (t 42) (skip) (exit 0))) (block 1 (seq (reg [⟨(some 44), mv (t 5), none⟩, ⟨(some 45), callq (c (.fn 17 [])) [t 44, c (.str ⟨#[10]⟩)], none⟩, ⟨(some 43), mv (t 45), none⟩, ⟨(some 46), ext (t 43) 0, none⟩, ⟨(some 47), ext (t 43) 1, none⟩, ⟨(some 48), ext (t 43) 2, none⟩, ⟨(some 4), mv (t 46), none⟩, ⟨(some 5), mv (t 47), none⟩]) (seq (reg [⟨(some 49), bld [.int .i64 0, .int .u32 0] [], none⟩, ⟨(some 10), alloc [.int .i64 0, .int .u32 0], none⟩, ⟨none, st (t 10) 2 (t 49), none⟩]) (seq (reg [⟨(some 51), mv (t 4), none⟩, ⟨(some 52), callq (c (.fn 19 [])) [t 51, c (.str ⟨#[119, 105, 116, 104, 111, 117, 116, 32]⟩)], none⟩, ⟨(some 53), callq (c (.fn 21 [])) [t 52], none⟩, ⟨(some 50), mv (t 53), none⟩, ⟨(some 54), ext (t 50) 0, none⟩, ⟨(some 55), ext (t 50) 1, none⟩, ⟨none, st (t 10) 2 (t 54), none⟩, ⟨(some 8), mv (t 55), none⟩]) (reg [⟨(some 56), fad (t 9) 0, none⟩, ⟨(some 57), ld (t 56) 1 false, none⟩, ⟨(some 58), ld (t 10) 2 true, none⟩, ⟨(some 59), bsl 2 1 [.int .i64 0, .int .u32 0] [(0, t 58)], none⟩, ⟨(some 60), app 2 16 (t 57) (t 59), none⟩, ⟨(some 61), fad (t 9) 0, none⟩, ⟨none, st (t 61) 1 (t 60), none⟩])))))))) (seq (reg [⟨(some 63), mv (t 5), none⟩, ⟨(some 64), calle (c (.fn 22 [])) [t 63] [], none⟩, ⟨(some 62), mv (t 64), none⟩, ⟨(some 65), ext (t 62) 0, none⟩, ⟨(some 66), ext (t 62) 1, none⟩, ⟨(some 11), alloc [.int .i64 0, .int .u32 0, .int .i64 0, .sl [] true], none⟩, ⟨none, st (t 11) 4 (t 65), none⟩, ⟨(some 12), mv (t 66), none⟩]) (seq (reg [⟨(some 67), ld (t 11) 4 true, none⟩, ⟨(some 68), fad (t 9) 1, none⟩, ⟨none, st (t 68) 4 (t 67), none⟩]) (seq (seq (reg [⟨(some 69), mv (t 8), none⟩, ⟨(some 70), bin .neq (t 69) (c (.int .i64 0)), none⟩, ⟨(some 71), mv (t 70), none⟩, ⟨(some 72), mv (t 12), some (71, false)⟩, ⟨(some 73), bin .neq (t 72) (c (.int .i64 0)), some (71, false)⟩, ⟨(some 74), pick (t 71) (c (.bool true)) (t 73), none⟩, ⟨(some 75), mv (t 74), none⟩, ⟨(some 76), ld (t 9) 7 true, some (75, false)⟩, ⟨(some 77), calle (c (.fn 23 [])) [t 76] [], some (75, false)⟩, ⟨(some 78), un .not (t 77), some (75, false)⟩, ⟨(some 79), pick (t 75) (c (.bool true)) (t 78), none⟩, ⟨(some 80), mv (t 79), none⟩, ⟨(some 81), ld (t 9) 7 true, some (80, false)⟩, ⟨(some 82), calle (c (.fn 24 [])) [t 81] [], some (80, false)⟩, ⟨(some 83), mv (t 0), some (80, false)⟩, ⟨(some 84), bin .neq (t 82) (t 83), some (80, false)⟩, ⟨(some 85), pick (t 80) (c (.bool true)) (t 84), none⟩]) (cond (t 85) (seq (reg [⟨(some 86), bld [.sl [] true, .int .i64 0, .int .u32 0, .int .i64 0, .sl [] true, .int .i64 0, .int .i64 0] [], none⟩, ⟨none, st (t 2) 7 (t 86), none⟩, ⟨(some 3), mv (c (.int .i64 5)), none⟩]) (ret)) (skip))) (seq (reg [⟨(some 87), ld (t 9) 7 true, none⟩, ⟨none, st (t 2) 7 (t 87), none⟩, ⟨(some 3), mv (c (.int .i64 0)), none⟩]) (ret))))))))))
def r_impl_ReadStatement : List ARes := [.cell 2 7 true, .tmp 3]
theorem k_impl_ReadStatement : acLin Go.Proofs.Tryz.prog 5 1 (inQ [17, 18, 19, 20, 21] [22, 23, 24]) [] = some (c_impl_ReadStatement, r_impl_ReadStatement) := by kernel_rfl
def c_spec_ReadStatement : AC := seq (reg [⟨(some 2), alloc [.sl [] true, .int .i64 0, .int .u32 0, .int .i64 0, .sl [] true, .int .i64 0, .int .i64 0], none⟩, ⟨(some 3), mv (c (.int .i64 0)), none⟩]) (seq (seq (reg [⟨(some 14), mv (t 0), none⟩, ⟨(some 15), lens (t 14), none⟩, ⟨(some 16), bin .gtr (t 15) (c (.int .i64 20000)), none⟩]) (cond (t 16) (seq (reg [⟨(some 17), bld [.sl [] true, .int .i64 0, .int .u32 0, .int .i64 0, .sl [] true, .int .i64 0, .int .i64 0] [], none⟩, ⟨none, st (t 2) 7 (t 17), none⟩, ⟨(some 3), mv (c (.int .i64 2)), none⟩]) (ret)) (skip))) (seq (reg [⟨(some 18), mv (t 0), none⟩, ⟨(some 19), calle (c (.fn 9 [])) [t 18, c (.int .u8 10)] [], none⟩, ⟨(some 4), mv (t 19), none⟩]) (seq (reg [⟨(some 20), mv (t 4), none⟩, ⟨(some 21), len (t 20), none⟩, ⟨(some 5), mv (t 21), none⟩]) (seq (seq (reg [⟨(some 22), mv (t 5), none⟩, ⟨(some 23), bin .lss (t 22) (c (.int .i64 3)), none⟩, ⟨(some 24), mv (t 23), none⟩, ⟨(some 25), mv (t 4), some (24, false)⟩, ⟨(some 26), mv (t 5), some (24, false)⟩, ⟨(some 27), bin .sub (t 26) (c (.int .i64 1)), some (24, false)⟩, ⟨(some 28), iad 1 (t 25) (t 27), some (24, false)⟩, ⟨(some 29), ld (t 28) 1 false, some (24, false)⟩, ⟨(some 30), bin .neq (t 29) (c (.str ⟨#[]⟩)), some (24, false)⟩, ⟨(some 31), pick (t 24) (c (.bool true)) (t 30), none⟩, ⟨(some 32), mv (t 31), none⟩, ⟨(some 33), mv (t 4), some (32, false)⟩, ⟨(some 34), iad 1 (t 33) (c (.int .i64 0)), some (32, false)⟩, ⟨(some 35), ld (t 34) 1 false, some (32, false)⟩, ⟨(some 36), callq (c (.fn 10 [])) [t 35, c (.str ⟨#[115, 116, 97, 116, 101, 109, 101, 110, 116, 32]⟩)], some (32, false)⟩, ⟨(some 37), un .not (t 36), some (32, false)⟩, ⟨(some 38), pick (t 32) (c (.bool true)) (t 37), none⟩]) (cond (t 38) (seq (reg [⟨(some 39), bld [.sl [] true, .int .i64 0, .int .u32 0, .int .i64 0, .sl [] true, .int .i64 0, .int .i64 0] [], none⟩, ⟨none, st (t 2) 7 (t 39), none⟩, ⟨(some 3), mv (c (.int .i64 5)), none⟩]) (ret)) (skip))) (seq (reg [⟨(some 41), mv (t 4), none⟩, ⟨(some 42), iad 1 (t 41) (c (.int .i64 0)), none⟩, ⟨(some 43), ld (t 42) 1 false, none⟩, ⟨(some 44), sls (t 43) (some (c (.int .i64 10))) none, none⟩, ⟨(some 45), callq (c (.fn 11 [])) [t 44], none⟩, ⟨(some 40), mv (t 45), none⟩, ⟨(some 46), ext (t 40) 0, none⟩, ⟨(some 47), ext (t 40) 1, none⟩, ⟨(some 6), alloc [.int .i64 0, .int .i64 0], none⟩, ⟨none, st (t 6) 2 (t 46), none⟩, ⟨(some 7), mv (t 47), none⟩]) (seq (reg [⟨(some 48), ld (t 6) 2 true, none⟩, ⟨(some 49), bld [.sl [] true, .int .i64 0, .int .u32 0, .int .i64 0, .sl [] true, .int .i64 0, .int .i64 0] [(5, 2, t 48)], none⟩, ⟨(some 8), alloc [.sl [] true, .int .i64 0, .int .u32 0, .int .i64 0, .sl [] true, .int .i64 0, .int .i64 0], none⟩, ⟨none, st (t 8) 7 (t 49), none⟩]) (seq (reg [⟨(some 9), mv (c (.int .i64 1)), none⟩]) (seq (block 0 (loop (seq (seq (reg [⟨(some 50), mv (t 7), none⟩, ⟨(some 51), mv (t 50), none⟩, ⟨(some 52), mv (t 9), some (51, true)⟩, ⟨(some 53), bin .leq (t 52) (c (.int .i64 6)), some (51, true)⟩, ⟨(some 54), pick (t 51) (t 53) (c (.bool false)), none⟩, ⟨(some 55), mv (t 54), none⟩, ⟨(some 56), mv (t 9), some (55, true)⟩, ⟨(some 57), mv (t 5), some (55, true)⟩, ⟨(some 58), bin .lss (t 56) (t 57), some (55, true)⟩, ⟨(some 59), pick (t 55) (t 58) (c (.bool false)), none⟩, ⟨(some 60), mv (t 59), none⟩, ⟨(some 61), mv (t 4), some (60, true)⟩, ⟨(some 62), mv (t 9), some (60, true)⟩, ⟨(some 63), iad 1 (t 61) (t 62), some (60, true)⟩, ⟨(some 64), ld (t 63) 1 false, some (60, true)⟩, ⟨(some 65), callq (c (.fn 10 [])) [t 64, c (.str ⟨#[119, 105, 116, 104, 111, 117, 116, 32]⟩)], some (60, true)⟩, ⟨(some 66), pick (t 60) (t 65) (c (.bool false)), none⟩]) (cond (t 66) (skip) (exit 0))) (block 1 (seq (reg [⟨(some 68), mv (t 4), none⟩, ⟨(some 69), mv (t 9), none⟩, ⟨(some 70), iad 1 (t 68) (t 69), none⟩, ⟨(some 71), ld (t 70) 1 false, none⟩, ⟨(some 72), sls (t 71) (some (c (.int .i64 8))) none, none⟩, ⟨(some 73), callq (c (.fn 12 [])) [t 72], none⟩, ⟨(some 67), mv (t 73), none⟩, ⟨(some 74), ext (t 67) 0, none⟩, ⟨(some 75), ext (t 67) 1, none⟩, ⟨(some 10), alloc [.int .i64 0, .int .u32 0], none⟩, ⟨none, st (t 10) 2 (t 74), none⟩, ⟨(some 11), mv (t 75), none⟩]) (seq (reg [⟨(some 76), mv (t 11), none⟩, ⟨(some 77), bin .eql (t 76) (c (.int .i64 0)), none⟩, ⟨(some 7), mv (t 77), none⟩]) (seq (reg [⟨(some 78), fad (t 8) 0, none⟩, ⟨(some 79), ld (t 78) 1 false, none⟩, ⟨(some 80), ld (t 10) 2 true, none⟩, ⟨(some 81), bsl 2 1 [.int .i64 0, .int .u32 0] [(0, t 80)], none⟩, ⟨(some 82), app 2 16 (t 79) (t 81), none⟩, ⟨(some 83), fad (t 8) 0, none⟩, ⟨none, st (t 83) 1 (t 82), none⟩]) (reg [⟨(some 84), mv (t 9), none⟩, ⟨(some 85), bin .add (t 84) (c (.int .i64 1)), none⟩, ⟨(some 9), mv (t 85), none⟩])))))))) (seq (seq (reg [⟨(some 86), mv (t 7), none⟩, ⟨(some 87), un .not (t 86), none⟩]) (cond (t 87) (seq (reg [⟨(some 88), bld [.sl [] true, .int .i64 0, .int .u32 0, .int .i64 0, .sl [] true, .int .i64 0, .int .i64 0] [], none⟩, ⟨none, st (t 2) 7 (t 88), none⟩, ⟨(some 3), mv (c (.int .i64 5)), none⟩]) (ret)) (skip))) (seq (seq shift (reg [⟨(some 90), mv (t 4), none⟩, ⟨(some 91), mv (t 9), none⟩, ⟨(some 92), mv (t 5), none⟩, ⟨(some 93), bin .sub (t 92) (c (.int .i64 1)), none⟩, ⟨(some 94), sli 1 (t 90) (some (t 91)) (some (t 93)) none, none⟩, ⟨(some 95), calle (c (.fn 14 [])) [t 94] [], none⟩, ⟨(some 96), callq (c (.fn 13 [])) [t 95], none⟩, ⟨(some 89), mv (t 96), none⟩, ⟨(some 97), ext (t 89) 0, none⟩, ⟨(some 98), ext (t 89) 1, none⟩, ⟨(some 12), alloc [.int .i64 0, .int .u32 0, .int .i64 0, .sl [] true], none⟩, ⟨none, st (t 12) 4 (t 97), none⟩, ⟨(some 13), mv (t 98), none⟩])) (seq (reg [⟨(some 99), ld (t 12) 4 true, none⟩, ⟨(some 100), fad (t 8) 1, none⟩, ⟨none, st (t 100) 4 (t 99), none⟩]) (seq (seq (reg [⟨(some 101), mv (t 13), none⟩, ⟨(some 102), bin .neq (t 101) (c (.int .i64 0)), none⟩, ⟨(some 103), mv (t 102), none⟩, ⟨(some 104), calle (c (.fn 15 [])) [t 8] [], some (103, false)⟩, ⟨(some 105), un .not (t 104), some (103, false)⟩, ⟨(some 106), pick (t 103) (c (.bool true)) (t 105), none⟩, ⟨(some 107), mv (t 106), none⟩, ⟨(some 108), calle (c (.fn 16 [])) [t 8] [], some (107, false)⟩, ⟨(some 109), mv (t 0), some (107, false)⟩, ⟨(some 110), bin .neq (t 108) (t 109), some (107, false)⟩, ⟨(some 111), pick (t 107) (c (.bool true)) (t 110), none⟩]) (cond (t 111) (seq (reg [⟨(some 112), bld [.sl [] true, .int .i64 0, .int .u32 0, .int .i64 0, .sl [] true, .int .i64 0, .int .i64 0] [], none⟩, ⟨none, st (t 2) 7 (t 112), none⟩, ⟨(some 3), mv (c (.int .i64 5)), none⟩]) (ret)) (skip))) (seq (reg [⟨(some 113), ld (t 8) 7 true, none⟩, ⟨none, st (t 2) 7 (t 113), none⟩, ⟨(some 3), mv (c (.int .i64 0)), none⟩]) (ret))))))))))))))
def r_spec_ReadStatement : List ARes := [.cell 2 7 true, .tmp 3]
theorem k_spec_ReadStatement : acLin Go.Proofs.Tryz.prog 4 1 (inQ [10, 11, 12, 13] [9, 14, 15, 16]) [⟨false, none, [], [], none⟩, ⟨false, none, [], [], none⟩, ⟨false, none, [], [], none⟩, ⟨false, none, [], [], none⟩, ⟨false, none, [], [], none⟩, ⟨false, none, [], [], none⟩, ⟨false, none, [], [], none⟩, ⟨false, none, [], [], none⟩, ⟨false, none, [], [], none⟩, ⟨false, none, [], [], none⟩, ⟨false, none, [], [], none⟩, ⟨false, none, [], [], none⟩, ⟨false, none, [], [], none⟩, ⟨false, none, [], [], none⟩, ⟨false, none, [], [], none⟩, ⟨false, none, [], [], none⟩, ⟨false, none, [], [], none⟩, ⟨false, none, [], [], none⟩, ⟨false, none, [], [], none⟩, ⟨false, none, [], [], none⟩, ⟨false, none, [], [], none⟩, ⟨true, none, [], [], none⟩] = some (c_spec_ReadStatement, r_spec_ReadStatement) := by kernel_rfl
def c_laws_markGraphS : AC := seq (reg [⟨(some 4), mv (c (.int .i64 0)), none⟩]) (seq (seq (reg [⟨(some 5), mv (c (.int .i64 0)), none⟩]) (block 0 (loop (seq (seq (reg [⟨(some 6), mv (t 5), none⟩, ⟨(some 7), mv (t 0), none⟩, ⟨(some 8), len (t 7), none⟩, ⟨(some 9), bin .lss (t 6) (t 8), none⟩]) (cond (t 9) (skip) (exit 0))) (seq (block 1 (seq (reg [⟨(some 12), mv (t 0), none⟩, ⟨(some 13), mv (t 5), none⟩, ⟨(some 14), mv (t 1), none⟩, ⟨(some 15), iad 2 (t 12) (t 13), none⟩, ⟨(some 16), fad (t 15) 0, none⟩, ⟨none, st (t 16) 1 (t 14), none⟩]) (seq (reg [⟨(some 17), mv (t 1), none⟩, ⟨(some 18), bin .add (t 17) (c (.int .i64 1)), none⟩, ⟨(some 1), mv (t 18), none⟩]) (seq (reg [⟨(some 19), mv (t 0), none⟩, ⟨(some 20), mv (t 5), none⟩, ⟨(some 21), mv (t 1), none⟩, ⟨(some 22), conv .u32 (t 21), none⟩, ⟨(some 23), iad 2 (t 19) (t 20), none⟩, ⟨(some 24), fad (t 23) 1, none⟩, ⟨none, st (t 24) 1 (t 22), none⟩]) (reg [⟨(some 25), mv (t 1), none⟩, ⟨(some 26), bin .add (t 25) (c (.int .i64 1)), none⟩, ⟨(some 1), mv (t 26), none⟩]))))) (reg [⟨(some 10), mv (t 5), none⟩, ⟨(some 11), bin .add (t 10) (c (.int .i64 1)), none⟩, ⟨(some 5), mv (t 11), none⟩])))))) (seq (reg [⟨(some 27), mv (t 1), none⟩, ⟨(some 4), mv (t 27), none⟩]) (ret)))
def r_laws_markGraphS : List ARes := [.tmp 4]
theorem k_laws_markGraphS : acLin Go.Proofs.Tryz.prog 28 2 (inQ [] []) [] = some (c_laws_markGraphS, r_laws_markGraphS) := by kernel_rfl
def c_laws_heldGraphS : AC := seq (reg [⟨(some 4), mv (c (.int .i64 0)), none⟩]) (seq (seq (reg [⟨(some 5), mv (c (.int .i64 0)), none⟩]) (block 0 (loop (seq (seq (reg [⟨(some 6), mv (t 5), none⟩, ⟨(some 7), mv (t 0), none⟩, ⟨(some 8), len (t 7), none⟩, ⟨(some 9), bin .lss (t 6) (t 8), none⟩]) (cond (t 9) (skip) (exit 0))) (seq (block 1 (seq (seq (reg [⟨(some 12), mv (t 0), none⟩, ⟨(some 13), mv (t 5), none⟩, ⟨(some 14), iad 2 (t 12) (t 13), none⟩, ⟨(some 15), fad (t 14) 0, none⟩, ⟨(some 16), ld (t 15) 1 false, none⟩, ⟨(some 17), mv (t 1), none⟩, ⟨(some 18), bin .neq (t 16) (t 17), none⟩]) (cond (t 18) (seq (reg [⟨(some 4), mv (c (.int .i64 (-1))), none⟩]) (ret)) (skip))) (seq (reg [⟨(some 19), mv (t 1), none⟩, ⟨(some 20), bin .add (t 19) (c (.int .i64 1)), none⟩, ⟨(some 1), mv (t 20), none⟩]) (seq (seq (reg [⟨(some 21), mv (t 0), none⟩, ⟨(some 22), mv (t 5), none⟩, ⟨(some 23), iad 2 (t 21) (t 22), none⟩, ⟨(some 24), fad (t 23) 1, none⟩, ⟨(some 25), ld (t 24) 1 false, none⟩, ⟨(some 26), mv (t 1), none⟩, ⟨(some 27), conv .u32 (t 26), none⟩, ⟨(some 28), bin .neq (t 25) (t 27), none⟩]) (cond (t 28) (seq (reg [⟨(some 4), mv (c (.int .i64 (-1))), none⟩]) (ret)) (skip))) (reg [⟨(some 29), mv (t 1), none⟩, ⟨(some 30), bin .add (t 29) (c (.int .i64 1)), none⟩, ⟨(some 1), mv (t 30), none⟩]))))) (reg [⟨(some 10), mv (t 5), none⟩, ⟨(some 11), bin .add (t 10) (c (.int .i64 1)), none⟩, ⟨(some 5), mv (t 11), none⟩])))))) (seq (reg [⟨(some 31), mv (t 1), none⟩, ⟨(some 4), mv (t 31), none⟩]) (ret)))
def r_laws_heldGraphS : List ARes := [.tmp 4]
theorem k_laws_heldGraphS : acLin Go.Proofs.Tryz.prog 30 2 (inQ [] []) [] = some (c_laws_heldGraphS, r_laws_heldGraphS) := by kernel_rfl
def c_laws_markStatement : AC := seq (reg [⟨(some 2), box 7 (t 0), none⟩, ⟨(some 4), mv (c (.int .i64 0)), none⟩]) (seq (reg [⟨(some 5), fad (t 2) 0, none⟩, ⟨(some 6), ld (t 5) 1 false, none⟩, ⟨(some 7), mv (t 1), none⟩, ⟨(some 8), calle (c (.fn 28 [])) [t 6, t 7] [], none⟩, ⟨(some 1), mv (t 8), none⟩]) (seq (reg [⟨(some 9), fad (t 2) 1, none⟩, ⟨(some 10), ld (t 9) 4 true, none⟩, ⟨(some 11), mv (t 1), none⟩, ⟨(some 12), calle (c (.fn 29 [])) [t 10, t 11] [], none⟩, ⟨(some 1), mv (t 12), none⟩]) (seq (reg [⟨(some 13), mv (t 1), none⟩, ⟨(some 4), mv (t 13), none⟩]) (ret))))
def r_laws_markStatement : List ARes := [.tmp 4]
theorem k_laws_markStatement : acLin Go.Proofs.Tryz.prog 7 2 (inQ [] [28, 29]) [] = some (c_laws_markStatement, r_laws_markStatement) := by kernel_rfl
def c_laws_heldStatement : AC := seq (reg [⟨(some 2), box 7 (t 0), none⟩, ⟨(some 4), mv (c (.int .i64 0)), none⟩]) (seq (reg [⟨(some 5), fad (t 2) 0, none⟩, ⟨(some 6), ld (t 5) 1 false, none⟩, ⟨(some 7), mv (t 1), none⟩, ⟨(some 8), calle (c (.fn 30 [])) [t 6, t 7] [], none⟩, ⟨(some 1), mv (t 8), none⟩]) (seq (seq (reg [⟨(some 9), mv (t 1), none⟩, ⟨(some 10), bin .lss (t 9) (c (.int .i64 0)), none⟩]) (cond (t 10) (seq (reg [⟨(some 4), mv (c (.int .i64 (-1))), none⟩]) (ret)) (skip))) (seq (reg [⟨(some 11), fad (t 2) 1, none⟩, ⟨(some 12), ld (t 11) 4 true, none⟩, ⟨(some 13), mv (t 1), none⟩, ⟨(some 14), calle (c (.fn 31 [])) [t 12, t 13] [], none⟩, ⟨(some 1), mv (t 14), none⟩]) (seq (seq (reg [⟨(some 15), mv (t 1), none⟩, ⟨(some 16), bin .lss (t 15) (c (.int .i64 0)), none⟩]) (cond (t 16) (seq (reg [⟨(some 4), mv (c (.int .i64 (-1))), none⟩]) (ret)) (skip))) (seq (reg [⟨(some 17), mv (t 1), none⟩, ⟨(some 4), mv (t 17), none⟩]) (ret))))))
def r_laws_heldStatement : List ARes := [.tmp 4]
theorem k_laws_heldStatement : acLin Go.Proofs.Tryz.prog 8 2 (inQ [] [30, 31]) [] = some (c_laws_heldStatement, r_laws_heldStatement) := by kernel_rfl
def c_laws_FnExactReadStatement : AC := seq (reg [⟨(some 2), mv (c (.bool false)), none⟩]) (seq (seq (reg [⟨(some 11), mv (t 0), none⟩, ⟨(some 12), lens (t 11), none⟩, ⟨(some 13), bin .gtr (t 12) (c (.int .i64 1048576)), none⟩]) (cond (t 13) (seq (reg [⟨(some 2), mv (c (.bool true)), none⟩]) (ret)) (skip))) (seq (reg [⟨(some 15), mv (t 0), none⟩, ⟨(some 16), callq (c (.fn 4 [])) [t 15], none⟩, ⟨(some 14), mv (t 16), none⟩, ⟨(some 17), ext (t 14) 0, none⟩, ⟨(some 18), ext (t 14) 1, none⟩, ⟨(some 3), alloc [.sl [] true, .int .i64 0, .int .u32 0, .int .i64 0, .sl [] true, .int .i64 0, .int .i64 0], none⟩, ⟨none, st (t 3) 7 (t 17), none⟩, ⟨(some 4), mv (t 18), none⟩]) (seq (reg [⟨(some 20), mv (t 0), none⟩, ⟨(some 21), calle (c (.fn 5 [])) [t 20] [], none⟩, ⟨(some 19), mv (t 21), none⟩, ⟨(some 22), ext (t 19) 0, none⟩, ⟨(some 23), ext (t 19) 1, none⟩, ⟨(some 5), alloc [.sl [] true, .int .i64 0, .int .u32 0, .int .i64 0, .sl [] true, .int .i64 0, .int .i64 0], none⟩, ⟨none, st (t 5) 7 (t 22), none⟩, ⟨(some 6), mv (t 23), none⟩]) (seq (seq (reg [⟨(some 24), ld (t 5) 7 true, none⟩, ⟨(some 25), ld (t 3) 7 true, none⟩, ⟨(some 26), calle (c (.fn 6 [])) [t 24, t 25] [], none⟩, ⟨(some 27), un .not (t 26), none⟩, ⟨(some 28), mv (t 27), none⟩, ⟨(some 29), mv (t 6), some (28, false)⟩, ⟨(some 30), mv (t 4), some (28, false)⟩, ⟨(some 31), bin .neq (t 29) (t 30), some (28, false)⟩, ⟨(some 32), pick (t 28) (c (.bool true)) (t 31), none⟩]) (cond (t 32) (seq (reg [⟨(some 2), mv (c (.bool false)), none⟩]) (ret)) (skip))) (seq (reg [⟨(some 7), mv (c (.int .i64 1)), none⟩]) (seq (reg [⟨(some 33), ld (t 5) 7 true, none⟩, ⟨(some 34), mv (t 7), none⟩, ⟨(some 35), calle (c (.fn 7 [])) [t 33, t 34] [], none⟩, ⟨(some 7), mv (t 35), none⟩]) (seq (reg [⟨(some 8), mv (c (.int .i64 1)), none⟩]) (seq (reg [⟨(some 36), ld (t 5) 7 true, none⟩, ⟨(some 37), mv (t 8), none⟩, ⟨(some 38), calle (c (.fn 8 [])) [t 36, t 37] [], none⟩, ⟨(some 8), mv (t 38), none⟩]) (seq (seq (reg [⟨(some 39), mv (t 8), none⟩, ⟨(some 40), bin .lss (t 39) (c (.int .i64 0)), none⟩]) (cond (t 40) (seq (reg [⟨(some 2), mv (c (.bool false)), none⟩]) (ret)) (skip))) (seq (seq (reg [⟨(some 41), mv (t 8), none⟩, ⟨(some 42), mv (t 7), none⟩, ⟨(some 43), bin .neq (t 41) (t 42), none⟩]) (cond (t 43) (seq (reg [⟨(some 2), mv (c (.bool false)), none⟩]) (ret)) (skip))) (seq (reg [⟨(some 45), mv (t 0), none⟩, ⟨(some 46), calle (c (.fn 5 [])) [t 45] [], none⟩, ⟨(some 44), mv (t 46), none⟩, ⟨(some 47), ext (t 44) 0, none⟩, ⟨(some 48), ext (t 44) 1, none⟩, ⟨(some 9), alloc [.sl [] true, .int .i64 0, .int .u32 0, .int .i64 0, .sl [] true, .int .i64 0, .int .i64 0], none⟩, ⟨none, st (t 9) 7 (t 47), none⟩, ⟨(some 10), mv (t 48), none⟩]) (seq (seq (reg [⟨(some 49), ld (t 9) 7 true, none⟩, ⟨(some 50), ld (t 3) 7 true, none⟩, ⟨(some 51), calle (c (.fn 6 [])) [t 49, t 50] [], none⟩, ⟨(some 52), un .not (t 51), none⟩, ⟨(some 53), mv (t 52), none⟩, ⟨(some 54), mv (t 10), some (53, false)⟩, ⟨(some 55), mv (t 4), some (53, false)⟩, ⟨(some 56), bin .neq (t 54) (t 55), some (53, false)⟩, ⟨(some 57), pick (t 53) (c (.bool true)) (t 56), none⟩]) (cond (t 57) (seq (reg [⟨(some 2), mv (c (.bool false)), none⟩]) (ret)) (skip))) (seq (reg [⟨(some 8), mv (c (.int .i64 1)), none⟩]) (seq (reg [⟨(some 58), ld (t 5) 7 true, none⟩, ⟨(some 59), mv (t 8), none⟩, ⟨(some 60), calle (c (.fn 8 [])) [t 58, t 59] [], none⟩, ⟨(some 8), mv (t 60), none⟩]) (seq (seq (reg [⟨(some 61), mv (t 8), none⟩, ⟨(some 62), bin .lss (t 61) (c (.int .i64 0)), none⟩]) (cond (t 62) (seq (reg [⟨(some 2), mv (c (.bool false)), none⟩]) (ret)) (skip))) (seq (seq (reg [⟨(some 63), mv (t 8), none⟩, ⟨(some 64), mv (t 7), none⟩, ⟨(some 65), bin .neq (t 63) (t 64), none⟩]) (cond (t 65) (seq (reg [⟨(some 2), mv (c (.bool false)), none⟩]) (ret)) (skip))) (seq (reg [⟨(some 2), mv (c (.bool true)), none⟩]) (ret))))))))))))))))))
def r_laws_FnExactReadStatement : List ARes := [.tmp 2]
theorem k_laws_FnExactReadStatement : acLin Go.Proofs.Tryz.prog 3 1 (inQ [4] [5, 6, 7, 8]) [] = some (c_laws_FnExactReadStatement, r_laws_FnExactReadStatement) := by kernel_rfl
end Go.Proofs.YtgiakpeneckgfaaGreatDoorAi
end
