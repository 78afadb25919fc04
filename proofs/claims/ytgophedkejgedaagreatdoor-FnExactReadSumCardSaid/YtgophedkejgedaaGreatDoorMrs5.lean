/- Contracts, joined. -/
import Derived.Test.YtgophedkejgedaaGreatDoorMrs4
import Derived.Test.YtgophedkejgedaaGreatDoorAiX
import Derived.Test.YtgophedkejgedaaGreatDoorProg
import Derived.Test.YtgophedkejgedaaGreatDoorShelfD
section
/- MADE BY PROGRAM (wip/tools/gen.py): the abstract code of functions. -/
namespace Go.Proofs.YtgophedkejgedaaGreatDoorAi
open Go AC AOp Opd
set_option linter.unusedVariables false
set_option maxRecDepth 100000
def c_spec_l05Cut : AC := seq (reg [⟨(some 4), mv (c (.int .i64 0)), none⟩]) (seq (seq (reg [⟨(some 5), mv (c (.int .i64 0)), none⟩]) (block 0 (loop (seq (seq (reg [⟨(some 6), mv (t 5), none⟩, ⟨(some 7), mv (t 0), none⟩, ⟨(some 8), lens (t 7), none⟩, ⟨(some 9), bin .lss (t 6) (t 8), none⟩]) (cond (t 9) (skip) (exit 0))) (seq (block 1 (seq (reg [⟨(some 12), mv (t 0), none⟩, ⟨(some 13), mv (t 5), none⟩, ⟨(some 14), idx (t 12) (t 13), none⟩, ⟨(some 15), bin .eql (t 14) (c (.int .u8 32)), none⟩]) (cond (t 15) (seq (reg [⟨(some 16), mv (t 1), none⟩, ⟨(some 17), bin .sub (t 16) (c (.int .i64 1)), none⟩, ⟨(some 1), mv (t 17), none⟩]) (seq (reg [⟨(some 18), mv (t 1), none⟩, ⟨(some 19), bin .eql (t 18) (c (.int .i64 0)), none⟩]) (cond (t 19) (seq (reg [⟨(some 20), mv (t 5), none⟩, ⟨(some 4), mv (t 20), none⟩]) (ret)) (skip)))) (skip)))) (reg [⟨(some 10), mv (t 5), none⟩, ⟨(some 11), bin .add (t 10) (c (.int .i64 1)), none⟩, ⟨(some 5), mv (t 11), none⟩])))))) (seq (reg [⟨(some 4), mv (c (.int .i64 (-1))), none⟩]) (ret)))
def r_spec_l05Cut : List ARes := [.tmp 4]
theorem k_spec_l05Cut : acLin Go.Proofs.Tryz.prog 44 2 (inQ [] []) [] = some (c_spec_l05Cut, r_spec_l05Cut) := by kernel_rfl
def c_impl_ReadSum : AC := seq (reg [⟨(some 2), alloc [.int .i64 0, .int .u32 0, .int .i64 0, .sl [] true], none⟩, ⟨(some 3), mv (c (.int .i64 0)), none⟩]) (seq (reg [⟨(some 13), bld [.int .i64 0, .int .u32 0, .int .i64 0, .sl [] true] [], none⟩, ⟨(some 4), alloc [.int .i64 0, .int .u32 0, .int .i64 0, .sl [] true], none⟩, ⟨none, st (t 4) 4 (t 13), none⟩]) (seq (seq (reg [⟨(some 14), mv (t 0), none⟩, ⟨(some 15), callq (c (.fn 51 [])) [t 14, c (.str ⟨#[10]⟩)], none⟩, ⟨(some 16), calle (c (.fn 50 [])) [t 15, c (.str ⟨#[10]⟩)] [], none⟩, ⟨(some 17), len (t 16), none⟩, ⟨(some 18), mv (c (.int .i64 0)), none⟩]) (block 0 (loop (seq (reg [⟨(some 19), bin .lss (t 18) (t 17), none⟩]) (seq (cond (t 19) (skip) (exit 0)) (seq (block 1 (seq (reg [⟨(some 20), mv (t 18), none⟩, ⟨(some 21), iad 1 (t 16) (t 18), none⟩, ⟨(some 22), ld (t 21) 1 false, none⟩, ⟨(some 5), mv (t 20), none⟩, ⟨(some 6), mv (t 22), none⟩]) (seq (seq (reg [⟨(some 23), mv (t 5), none⟩, ⟨(some 24), bin .eql (t 23) (c (.int .i64 0)), none⟩]) (cond (t 24) (reg [⟨(some 25), mv (t 6), none⟩, ⟨(some 26), callq (c (.fn 52 [])) [t 25, c (.str ⟨#[115, 117, 109, 32]⟩)], none⟩, ⟨(some 6), mv (t 26), none⟩]) (skip))) (seq (reg [⟨(some 28), mv (t 6), none⟩, ⟨(some 29), callq (c (.fn 53 [])) [t 28, c (.str ⟨#[32]⟩)], none⟩, ⟨(some 27), mv (t 29), none⟩, ⟨(some 30), ext (t 27) 0, none⟩, ⟨(some 31), ext (t 27) 1, none⟩, ⟨(some 32), ext (t 27) 2, none⟩, ⟨(some 7), mv (t 30), none⟩, ⟨(some 8), mv (t 31), none⟩, ⟨(some 9), mv (t 32), none⟩]) (seq (reg [⟨(some 34), mv (t 8), none⟩, ⟨(some 35), callq (c (.fn 54 [])) [t 34], none⟩, ⟨(some 33), mv (t 35), none⟩, ⟨(some 36), ext (t 33) 0, none⟩, ⟨(some 37), ext (t 33) 1, none⟩, ⟨(some 10), alloc [.int .i64 0, .int .u32 0], none⟩, ⟨none, st (t 10) 2 (t 36), none⟩, ⟨(some 11), mv (t 37), none⟩]) (seq (seq (reg [⟨(some 38), mv (t 11), none⟩, ⟨(some 39), bin .neq (t 38) (c (.int .i64 0)), none⟩, ⟨(some 40), mv (t 39), none⟩, ⟨(some 41), mv (t 5), some (40, false)⟩, ⟨(some 42), bin .gtr (t 41) (c (.int .i64 64)), some (40, false)⟩, ⟨(some 43), pick (t 40) (c (.bool true)) (t 42), none⟩]) (cond (t 43) (seq (reg [⟨(some 44), bld [.int .i64 0, .int .u32 0, .int .i64 0, .sl [] true] [], none⟩, ⟨none, st (t 2) 4 (t 44), none⟩, ⟨(some 3), mv (c (.int .i64 5)), none⟩]) (ret)) (skip))) (seq (seq (reg [⟨(some 45), mv (t 5), none⟩, ⟨(some 46), bin .eql (t 45) (c (.int .i64 0)), none⟩]) (cond (t 46) (seq (reg [⟨(some 48), mv (t 7), none⟩, ⟨(some 49), callq (c (.fn 55 [])) [t 48], none⟩, ⟨(some 47), mv (t 49), none⟩, ⟨(some 50), ext (t 47) 0, none⟩, ⟨(some 51), ext (t 47) 1, none⟩, ⟨(some 52), fad (t 4) 2, none⟩, ⟨none, st (t 52) 1 (t 50), none⟩]) (seq (reg [⟨(some 53), ld (t 10) 2 true, none⟩, ⟨(some 54), fad (t 4) 0, none⟩, ⟨none, st (t 54) 2 (t 53), none⟩]) (exit 1))) (skip))) (seq (reg [⟨(some 56), mv (t 7), none⟩, ⟨(some 57), callq (c (.fn 56 [])) [t 56], none⟩, ⟨(some 55), mv (t 57), none⟩, ⟨(some 58), ext (t 55) 0, none⟩, ⟨(some 59), ext (t 55) 1, none⟩, ⟨(some 12), alloc [.int .i64 0, .int .i64 0], none⟩, ⟨none, st (t 12) 2 (t 58), none⟩, ⟨(some 11), mv (t 59), none⟩]) (seq (seq (reg [⟨(some 60), mv (t 11), none⟩, ⟨(some 61), bin .neq (t 60) (c (.int .i64 0)), none⟩]) (cond (t 61) (seq (reg [⟨(some 62), bld [.int .i64 0, .int .u32 0, .int .i64 0, .sl [] true] [], none⟩, ⟨none, st (t 2) 4 (t 62), none⟩, ⟨(some 3), mv (c (.int .i64 5)), none⟩]) (ret)) (skip))) (reg [⟨(some 63), fad (t 4) 3, none⟩, ⟨(some 64), ld (t 63) 1 false, none⟩, ⟨(some 65), fad (t 4) 0, none⟩, ⟨(some 66), fad (t 65) 0, none⟩, ⟨(some 67), ld (t 66) 1 false, none⟩, ⟨(some 68), ld (t 10) 2 true, none⟩, ⟨(some 69), bld [.int .i64 0, .int .i64 0, .int .u32 0] [(0, 1, t 67), (1, 2, t 68)], none⟩, ⟨(some 70), ld (t 12) 2 true, none⟩, ⟨(some 71), bld [.int .i64 0, .int .i64 0, .int .u32 0, .int .i64 0, .int .i64 0] [(0, 3, t 69), (3, 2, t 70)], none⟩, ⟨(some 72), bsl 5 1 [.int .i64 0, .int .i64 0, .int .u32 0, .int .i64 0, .int .i64 0] [(0, t 71)], none⟩, ⟨(some 73), app 5 40 (t 64) (t 72), none⟩, ⟨(some 74), fad (t 4) 3, none⟩, ⟨none, st (t 74) 1 (t 73), none⟩])))))))))) (reg [⟨(some 75), bin .add (t 18) (c (.int .i64 1)), none⟩, ⟨(some 18), mv (t 75), none⟩]))))))) (seq (seq (reg [⟨(some 76), ld (t 4) 4 true, none⟩, ⟨(some 77), calle (c (.fn 57 [])) [t 76] [], none⟩, ⟨(some 78), un .not (t 77), none⟩, ⟨(some 79), mv (t 78), none⟩, ⟨(some 80), ld (t 4) 4 true, some (79, false)⟩, ⟨(some 81), calle (c (.fn 58 [])) [t 80] [], some (79, false)⟩, ⟨(some 82), mv (t 0), some (79, false)⟩, ⟨(some 83), bin .neq (t 81) (t 82), some (79, false)⟩, ⟨(some 84), pick (t 79) (c (.bool true)) (t 83), none⟩]) (cond (t 84) (seq (reg [⟨(some 85), bld [.int .i64 0, .int .u32 0, .int .i64 0, .sl [] true] [], none⟩, ⟨none, st (t 2) 4 (t 85), none⟩, ⟨(some 3), mv (c (.int .i64 5)), none⟩]) (ret)) (skip))) (seq (reg [⟨(some 86), ld (t 4) 4 true, none⟩, ⟨none, st (t 2) 4 (t 86), none⟩, ⟨(some 3), mv (c (.int .i64 0)), none⟩]) (ret)))))
def r_impl_ReadSum : List ARes := [.cell 2 4 true, .tmp 3]
theorem k_impl_ReadSum : acLin Go.Proofs.Tryz.prog 17 1 (inQ [51, 52, 53, 54, 55, 56] [50, 57, 58]) [] = some (c_impl_ReadSum, r_impl_ReadSum) := by kernel_rfl
def c_spec_ReadSum : AC := seq (reg [⟨(some 2), alloc [.int .i64 0, .int .u32 0, .int .i64 0, .sl [] true], none⟩, ⟨(some 3), mv (c (.int .i64 0)), none⟩]) (seq (reg [⟨(some 17), mv (t 0), none⟩, ⟨(some 18), calle (c (.fn 43 [])) [t 17, c (.int .u8 10)] [], none⟩, ⟨(some 4), mv (t 18), none⟩]) (seq (reg [⟨(some 19), mv (t 4), none⟩, ⟨(some 20), iad 1 (t 19) (c (.int .i64 0)), none⟩, ⟨(some 21), ld (t 20) 1 false, none⟩, ⟨(some 22), callq (c (.fn 44 [])) [t 21, c (.int .i64 2)], none⟩, ⟨(some 5), mv (t 22), none⟩]) (seq (seq (reg [⟨(some 23), mv (t 5), none⟩, ⟨(some 24), bin .lss (t 23) (c (.int .i64 4)), none⟩, ⟨(some 25), mv (t 24), none⟩, ⟨(some 26), mv (t 4), some (25, false)⟩, ⟨(some 27), iad 1 (t 26) (c (.int .i64 0)), some (25, false)⟩, ⟨(some 28), ld (t 27) 1 false, some (25, false)⟩, ⟨(some 29), sls (t 28) none (some (c (.int .i64 4))), some (25, false)⟩, ⟨(some 30), bin .neq (t 29) (c (.str ⟨#[115, 117, 109, 32]⟩)), some (25, false)⟩, ⟨(some 31), pick (t 25) (c (.bool true)) (t 30), none⟩, ⟨(some 32), mv (t 31), none⟩, ⟨(some 33), mv (t 4), some (32, false)⟩, ⟨(some 34), len (t 33), some (32, false)⟩, ⟨(some 35), bin .gtr (t 34) (c (.int .i64 66)), some (32, false)⟩, ⟨(some 36), pick (t 32) (c (.bool true)) (t 35), none⟩]) (cond (t 36) (seq (reg [⟨(some 37), bld [.int .i64 0, .int .u32 0, .int .i64 0, .sl [] true] [], none⟩, ⟨none, st (t 2) 4 (t 37), none⟩, ⟨(some 3), mv (c (.int .i64 5)), none⟩]) (ret)) (skip))) (seq (reg [⟨(some 39), mv (t 4), none⟩, ⟨(some 40), iad 1 (t 39) (c (.int .i64 0)), none⟩, ⟨(some 41), ld (t 40) 1 false, none⟩, ⟨(some 42), mv (t 5), none⟩, ⟨(some 43), sls (t 41) (some (c (.int .i64 4))) (some (t 42)), none⟩, ⟨(some 44), callq (c (.fn 45 [])) [t 43], none⟩, ⟨(some 38), mv (t 44), none⟩, ⟨(some 45), ext (t 38) 0, none⟩, ⟨(some 46), ext (t 38) 1, none⟩, ⟨(some 6), mv (t 45), none⟩, ⟨(some 7), mv (t 46), none⟩]) (seq (reg [⟨(some 48), mv (t 4), none⟩, ⟨(some 49), iad 1 (t 48) (c (.int .i64 0)), none⟩, ⟨(some 50), ld (t 49) 1 false, none⟩, ⟨(some 51), mv (t 5), none⟩, ⟨(some 52), bin .add (t 51) (c (.int .i64 1)), none⟩, ⟨(some 53), sls (t 50) (some (t 52)) none, none⟩, ⟨(some 54), callq (c (.fn 46 [])) [t 53], none⟩, ⟨(some 47), mv (t 54), none⟩, ⟨(some 55), ext (t 47) 0, none⟩, ⟨(some 56), ext (t 47) 1, none⟩, ⟨(some 8), alloc [.int .i64 0, .int .u32 0], none⟩, ⟨none, st (t 8) 2 (t 55), none⟩, ⟨(some 9), mv (t 56), none⟩]) (seq (seq (reg [⟨(some 57), mv (t 7), none⟩, ⟨(some 58), un .not (t 57), none⟩, ⟨(some 59), mv (t 58), none⟩, ⟨(some 60), mv (t 9), some (59, false)⟩, ⟨(some 61), bin .neq (t 60) (c (.int .i64 0)), some (59, false)⟩, ⟨(some 62), pick (t 59) (c (.bool true)) (t 61), none⟩]) (cond (t 62) (seq (reg [⟨(some 63), bld [.int .i64 0, .int .u32 0, .int .i64 0, .sl [] true] [], none⟩, ⟨none, st (t 2) 4 (t 63), none⟩, ⟨(some 3), mv (c (.int .i64 5)), none⟩]) (ret)) (skip))) (seq (reg [⟨(some 64), ld (t 8) 2 true, none⟩, ⟨(some 65), mv (t 6), none⟩, ⟨(some 66), bld [.int .i64 0, .int .u32 0, .int .i64 0, .sl [] true] [(0, 2, t 64), (2, 1, t 65)], none⟩, ⟨(some 10), alloc [.int .i64 0, .int .u32 0, .int .i64 0, .sl [] true], none⟩, ⟨none, st (t 10) 4 (t 66), none⟩]) (seq (seq (reg [⟨(some 11), mv (c (.int .i64 1)), none⟩]) (block 0 (loop (seq (seq (reg [⟨(some 67), mv (t 11), none⟩, ⟨(some 68), bin .add (t 67) (c (.int .i64 1)), none⟩, ⟨(some 69), mv (t 4), none⟩, ⟨(some 70), len (t 69), none⟩, ⟨(some 71), bin .lss (t 68) (t 70), none⟩]) (cond (t 71) (skip) (exit 0))) (seq (block 1 (seq (reg [⟨(some 74), mv (t 4), none⟩, ⟨(some 75), mv (t 11), none⟩, ⟨(some 76), iad 1 (t 74) (t 75), none⟩, ⟨(some 77), ld (t 76) 1 false, none⟩, ⟨(some 78), callq (c (.fn 44 [])) [t 77, c (.int .i64 1)], none⟩, ⟨(some 12), mv (t 78), none⟩]) (seq (seq (reg [⟨(some 79), mv (t 12), none⟩, ⟨(some 80), bin .lss (t 79) (c (.int .i64 0)), none⟩]) (cond (t 80) (seq (reg [⟨(some 81), bld [.int .i64 0, .int .u32 0, .int .i64 0, .sl [] true] [], none⟩, ⟨none, st (t 2) 4 (t 81), none⟩, ⟨(some 3), mv (c (.int .i64 5)), none⟩]) (ret)) (skip))) (seq (reg [⟨(some 83), mv (t 4), none⟩, ⟨(some 84), mv (t 11), none⟩, ⟨(some 85), iad 1 (t 83) (t 84), none⟩, ⟨(some 86), ld (t 85) 1 false, none⟩, ⟨(some 87), mv (t 12), none⟩, ⟨(some 88), sls (t 86) none (some (t 87)), none⟩, ⟨(some 89), callq (c (.fn 47 [])) [t 88], none⟩, ⟨(some 82), mv (t 89), none⟩, ⟨(some 90), ext (t 82) 0, none⟩, ⟨(some 91), ext (t 82) 1, none⟩, ⟨(some 13), alloc [.int .i64 0, .int .i64 0], none⟩, ⟨none, st (t 13) 2 (t 90), none⟩, ⟨(some 14), mv (t 91), none⟩]) (seq (reg [⟨(some 93), mv (t 4), none⟩, ⟨(some 94), mv (t 11), none⟩, ⟨(some 95), iad 1 (t 93) (t 94), none⟩, ⟨(some 96), ld (t 95) 1 false, none⟩, ⟨(some 97), mv (t 12), none⟩, ⟨(some 98), bin .add (t 97) (c (.int .i64 1)), none⟩, ⟨(some 99), sls (t 96) (some (t 98)) none, none⟩, ⟨(some 100), callq (c (.fn 46 [])) [t 99], none⟩, ⟨(some 92), mv (t 100), none⟩, ⟨(some 101), ext (t 92) 0, none⟩, ⟨(some 102), ext (t 92) 1, none⟩, ⟨(some 15), alloc [.int .i64 0, .int .u32 0], none⟩, ⟨none, st (t 15) 2 (t 101), none⟩, ⟨(some 16), mv (t 102), none⟩]) (seq (seq (reg [⟨(some 103), mv (t 14), none⟩, ⟨(some 104), un .not (t 103), none⟩, ⟨(some 105), mv (t 104), none⟩, ⟨(some 106), mv (t 16), some (105, false)⟩, ⟨(some 107), bin .neq (t 106) (c (.int .i64 0)), some (105, false)⟩, ⟨(some 108), pick (t 105) (c (.bool true)) (t 107), none⟩]) (cond (t 108) (seq (reg [⟨(some 109), bld [.int .i64 0, .int .u32 0, .int .i64 0, .sl [] true] [], none⟩, ⟨none, st (t 2) 4 (t 109), none⟩, ⟨(some 3), mv (c (.int .i64 5)), none⟩]) (ret)) (skip))) (reg [⟨(some 110), fad (t 10) 3, none⟩, ⟨(some 111), ld (t 110) 1 false, none⟩, ⟨(some 112), fad (t 8) 0, none⟩, ⟨(some 113), ld (t 112) 1 false, none⟩, ⟨(some 114), ld (t 15) 2 true, none⟩, ⟨(some 115), bld [.int .i64 0, .int .i64 0, .int .u32 0] [(0, 1, t 113), (1, 2, t 114)], none⟩, ⟨(some 116), ld (t 13) 2 true, none⟩, ⟨(some 117), bld [.int .i64 0, .int .i64 0, .int .u32 0, .int .i64 0, .int .i64 0] [(0, 3, t 115), (3, 2, t 116)], none⟩, ⟨(some 118), bsl 5 1 [.int .i64 0, .int .i64 0, .int .u32 0, .int .i64 0, .int .i64 0] [(0, t 117)], none⟩, ⟨(some 119), app 5 40 (t 111) (t 118), none⟩, ⟨(some 120), fad (t 10) 3, none⟩, ⟨none, st (t 120) 1 (t 119), none⟩]))))))) (reg [⟨(some 72), mv (t 11), none⟩, ⟨(some 73), bin .add (t 72) (c (.int .i64 1)), none⟩, ⟨(some 11), mv (t 73), none⟩])))))) (seq (seq (seq shift (reg [⟨(some 121), calle (c (.fn 48 [])) [t 10] [], none⟩, ⟨(some 122), un .not (t 121), none⟩, ⟨(some 123), mv (t 122), none⟩, ⟨(some 124), calle (c (.fn 49 [])) [t 10] [], some (123, false)⟩, ⟨(some 125), mv (t 0), some (123, false)⟩, ⟨(some 126), bin .neq (t 124) (t 125), some (123, false)⟩, ⟨(some 127), pick (t 123) (c (.bool true)) (t 126), none⟩])) (cond (t 127) (seq (reg [⟨(some 128), bld [.int .i64 0, .int .u32 0, .int .i64 0, .sl [] true] [], none⟩, ⟨none, st (t 2) 4 (t 128), none⟩, ⟨(some 3), mv (c (.int .i64 5)), none⟩]) (ret)) (skip))) (seq (reg [⟨(some 129), ld (t 10) 4 true, none⟩, ⟨none, st (t 2) 4 (t 129), none⟩, ⟨(some 3), mv (c (.int .i64 0)), none⟩]) (ret)))))))))))
def r_spec_ReadSum : List ARes := [.cell 2 4 true, .tmp 3]
theorem k_spec_ReadSum : acLin Go.Proofs.Tryz.prog 16 1 (inQ [44, 45, 46, 47] [43, 48, 49]) [⟨false, none, [], [], none⟩, ⟨false, none, [], [], none⟩, ⟨false, none, [], [], none⟩, ⟨false, none, [], [], none⟩, ⟨false, none, [], [], none⟩, ⟨false, none, [], [], none⟩, ⟨false, none, [], [], none⟩, ⟨false, none, [], [], none⟩, ⟨false, none, [], [], none⟩, ⟨false, none, [], [], none⟩, ⟨false, none, [], [], none⟩, ⟨false, none, [], [], none⟩, ⟨false, none, [], [], none⟩, ⟨false, none, [], [], none⟩, ⟨false, none, [], [], none⟩, ⟨false, none, [], [], none⟩, ⟨false, none, [], [], none⟩, ⟨false, none, [], [], none⟩, ⟨false, none, [], [], none⟩, ⟨false, none, [], [], none⟩, ⟨false, none, [], [], none⟩, ⟨false, none, [], [], none⟩, ⟨false, none, [], [], none⟩, ⟨false, none, [], [], none⟩, ⟨false, none, [], [], none⟩, ⟨false, none, [], [], none⟩, ⟨true, none, [], [], none⟩] = some (c_spec_ReadSum, r_spec_ReadSum) := by kernel_rfl
def c_laws_markTermS : AC := seq (reg [⟨(some 4), mv (c (.int .i64 0)), none⟩]) (seq (seq (reg [⟨(some 5), mv (c (.int .i64 0)), none⟩]) (block 0 (loop (seq (seq (reg [⟨(some 6), mv (t 5), none⟩, ⟨(some 7), mv (t 0), none⟩, ⟨(some 8), len (t 7), none⟩, ⟨(some 9), bin .lss (t 6) (t 8), none⟩]) (cond (t 9) (skip) (exit 0))) (seq (block 1 (seq (reg [⟨(some 12), mv (t 0), none⟩, ⟨(some 13), mv (t 5), none⟩, ⟨(some 14), mv (t 1), none⟩, ⟨(some 15), iad 5 (t 12) (t 13), none⟩, ⟨(some 16), fad (t 15) 0, none⟩, ⟨(some 17), fad (t 16) 0, none⟩, ⟨none, st (t 17) 1 (t 14), none⟩]) (seq (reg [⟨(some 18), mv (t 1), none⟩, ⟨(some 19), bin .add (t 18) (c (.int .i64 1)), none⟩, ⟨(some 1), mv (t 19), none⟩]) (seq (reg [⟨(some 20), mv (t 0), none⟩, ⟨(some 21), mv (t 5), none⟩, ⟨(some 22), mv (t 1), none⟩, ⟨(some 23), iad 5 (t 20) (t 21), none⟩, ⟨(some 24), fad (t 23) 0, none⟩, ⟨(some 25), fad (t 24) 1, none⟩, ⟨(some 26), fad (t 25) 0, none⟩, ⟨none, st (t 26) 1 (t 22), none⟩]) (seq (reg [⟨(some 27), mv (t 1), none⟩, ⟨(some 28), bin .add (t 27) (c (.int .i64 1)), none⟩, ⟨(some 1), mv (t 28), none⟩]) (seq (reg [⟨(some 29), mv (t 0), none⟩, ⟨(some 30), mv (t 5), none⟩, ⟨(some 31), mv (t 1), none⟩, ⟨(some 32), conv .u32 (t 31), none⟩, ⟨(some 33), iad 5 (t 29) (t 30), none⟩, ⟨(some 34), fad (t 33) 0, none⟩, ⟨(some 35), fad (t 34) 1, none⟩, ⟨(some 36), fad (t 35) 1, none⟩, ⟨none, st (t 36) 1 (t 32), none⟩]) (seq (reg [⟨(some 37), mv (t 1), none⟩, ⟨(some 38), bin .add (t 37) (c (.int .i64 1)), none⟩, ⟨(some 1), mv (t 38), none⟩]) (seq (reg [⟨(some 39), mv (t 0), none⟩, ⟨(some 40), mv (t 5), none⟩, ⟨(some 41), mv (t 1), none⟩, ⟨(some 42), iad 5 (t 39) (t 40), none⟩, ⟨(some 43), fad (t 42) 3, none⟩, ⟨(some 44), fad (t 43) 0, none⟩, ⟨none, st (t 44) 1 (t 41), none⟩]) (seq (reg [⟨(some 45), mv (t 1), none⟩, ⟨(some 46), bin .add (t 45) (c (.int .i64 1)), none⟩, ⟨(some 1), mv (t 46), none⟩]) (seq (reg [⟨(some 47), mv (t 0), none⟩, ⟨(some 48), mv (t 5), none⟩, ⟨(some 49), mv (t 1), none⟩, ⟨(some 50), iad 5 (t 47) (t 48), none⟩, ⟨(some 51), fad (t 50) 3, none⟩, ⟨(some 52), fad (t 51) 1, none⟩, ⟨none, st (t 52) 1 (t 49), none⟩]) (reg [⟨(some 53), mv (t 1), none⟩, ⟨(some 54), bin .add (t 53) (c (.int .i64 1)), none⟩, ⟨(some 1), mv (t 54), none⟩]))))))))))) (reg [⟨(some 10), mv (t 5), none⟩, ⟨(some 11), bin .add (t 10) (c (.int .i64 1)), none⟩, ⟨(some 5), mv (t 11), none⟩])))))) (seq (reg [⟨(some 55), mv (t 1), none⟩, ⟨(some 4), mv (t 55), none⟩]) (ret)))
def r_laws_markTermS : List ARes := [.tmp 4]
theorem k_laws_markTermS : acLin Go.Proofs.Tryz.prog 61 2 (inQ [] []) [] = some (c_laws_markTermS, r_laws_markTermS) := by kernel_rfl
def c_laws_heldTermS : AC := seq (reg [⟨(some 4), mv (c (.int .i64 0)), none⟩]) (seq (seq (reg [⟨(some 5), mv (c (.int .i64 0)), none⟩]) (block 0 (loop (seq (seq (reg [⟨(some 6), mv (t 5), none⟩, ⟨(some 7), mv (t 0), none⟩, ⟨(some 8), len (t 7), none⟩, ⟨(some 9), bin .lss (t 6) (t 8), none⟩]) (cond (t 9) (skip) (exit 0))) (seq (block 1 (seq (seq (reg [⟨(some 12), mv (t 0), none⟩, ⟨(some 13), mv (t 5), none⟩, ⟨(some 14), iad 5 (t 12) (t 13), none⟩, ⟨(some 15), fad (t 14) 0, none⟩, ⟨(some 16), fad (t 15) 0, none⟩, ⟨(some 17), ld (t 16) 1 false, none⟩, ⟨(some 18), mv (t 1), none⟩, ⟨(some 19), bin .neq (t 17) (t 18), none⟩]) (cond (t 19) (seq (reg [⟨(some 4), mv (c (.int .i64 (-1))), none⟩]) (ret)) (skip))) (seq (reg [⟨(some 20), mv (t 1), none⟩, ⟨(some 21), bin .add (t 20) (c (.int .i64 1)), none⟩, ⟨(some 1), mv (t 21), none⟩]) (seq (seq (reg [⟨(some 22), mv (t 0), none⟩, ⟨(some 23), mv (t 5), none⟩, ⟨(some 24), iad 5 (t 22) (t 23), none⟩, ⟨(some 25), fad (t 24) 0, none⟩, ⟨(some 26), fad (t 25) 1, none⟩, ⟨(some 27), fad (t 26) 0, none⟩, ⟨(some 28), ld (t 27) 1 false, none⟩, ⟨(some 29), mv (t 1), none⟩, ⟨(some 30), bin .neq (t 28) (t 29), none⟩]) (cond (t 30) (seq (reg [⟨(some 4), mv (c (.int .i64 (-1))), none⟩]) (ret)) (skip))) (seq (reg [⟨(some 31), mv (t 1), none⟩, ⟨(some 32), bin .add (t 31) (c (.int .i64 1)), none⟩, ⟨(some 1), mv (t 32), none⟩]) (seq (seq (reg [⟨(some 33), mv (t 0), none⟩, ⟨(some 34), mv (t 5), none⟩, ⟨(some 35), iad 5 (t 33) (t 34), none⟩, ⟨(some 36), fad (t 35) 0, none⟩, ⟨(some 37), fad (t 36) 1, none⟩, ⟨(some 38), fad (t 37) 1, none⟩, ⟨(some 39), ld (t 38) 1 false, none⟩, ⟨(some 40), mv (t 1), none⟩, ⟨(some 41), conv .u32 (t 40), none⟩, ⟨(some 42), bin .neq (t 39) (t 41), none⟩]) (cond (t 42) (seq (reg [⟨(some 4), mv (c (.int .i64 (-1))), none⟩]) (ret)) (skip))) (seq (reg [⟨(some 43), mv (t 1), none⟩, ⟨(some 44), bin .add (t 43) (c (.int .i64 1)), none⟩, ⟨(some 1), mv (t 44), none⟩]) (seq (seq (reg [⟨(some 45), mv (t 0), none⟩, ⟨(some 46), mv (t 5), none⟩, ⟨(some 47), iad 5 (t 45) (t 46), none⟩, ⟨(some 48), fad (t 47) 3, none⟩, ⟨(some 49), fad (t 48) 0, none⟩, ⟨(some 50), ld (t 49) 1 false, none⟩, ⟨(some 51), mv (t 1), none⟩, ⟨(some 52), bin .neq (t 50) (t 51), none⟩]) (cond (t 52) (seq (reg [⟨(some 4), mv (c (.int .i64 (-1))), none⟩]) (ret)) (skip))) (seq (reg [⟨(some 53), mv (t 1), none⟩, ⟨(some 54), bin .add (t 53) (c (.int .i64 1)), none⟩, ⟨(some 1), mv (t 54), none⟩]) (seq (seq (reg [⟨(some 55), mv (t 0), none⟩, ⟨(some 56), mv (t 5), none⟩, ⟨(some 57), iad 5 (t 55) (t 56), none⟩, ⟨(some 58), fad (t 57) 3, none⟩, ⟨(some 59), fad (t 58) 1, none⟩, ⟨(some 60), ld (t 59) 1 false, none⟩, ⟨(some 61), mv (t 1), none⟩, ⟨(some 62), bin .neq (t 60) (t 61), none⟩]) (cond (t 62) (seq (reg [⟨(some 4), mv (c (.int .i64 (-1))), none⟩]) (ret)) (skip))) (reg [⟨(some 63), mv (t 1), none⟩, ⟨(some 64), bin .add (t 63) (c (.int .i64 1)), none⟩, ⟨(some 1), mv (t 64), none⟩]))))))))))) (reg [⟨(some 10), mv (t 5), none⟩, ⟨(some 11), bin .add (t 10) (c (.int .i64 1)), none⟩, ⟨(some 5), mv (t 11), none⟩])))))) (seq (reg [⟨(some 65), mv (t 1), none⟩, ⟨(some 4), mv (t 65), none⟩]) (ret)))
def r_laws_heldTermS : List ARes := [.tmp 4]
theorem k_laws_heldTermS : acLin Go.Proofs.Tryz.prog 62 2 (inQ [] []) [] = some (c_laws_heldTermS, r_laws_heldTermS) := by kernel_rfl
def c_laws_markFlagSum : AC := seq (reg [⟨(some 2), box 4 (t 0), none⟩, ⟨(some 4), mv (c (.int .i64 0)), none⟩]) (seq (reg [⟨(some 5), fad (t 2) 3, none⟩, ⟨(some 6), ld (t 5) 1 false, none⟩, ⟨(some 7), mv (t 1), none⟩, ⟨(some 8), calle (c (.fn 61 [])) [t 6, t 7] [], none⟩, ⟨(some 1), mv (t 8), none⟩]) (seq (reg [⟨(some 9), mv (t 1), none⟩, ⟨(some 4), mv (t 9), none⟩]) (ret)))
def r_laws_markFlagSum : List ARes := [.tmp 4]
theorem k_laws_markFlagSum : acLin Go.Proofs.Tryz.prog 19 2 (inQ [] [61]) [] = some (c_laws_markFlagSum, r_laws_markFlagSum) := by kernel_rfl
def c_laws_heldFlagSum : AC := seq (reg [⟨(some 2), box 4 (t 0), none⟩, ⟨(some 4), mv (c (.int .i64 0)), none⟩]) (seq (reg [⟨(some 5), fad (t 2) 3, none⟩, ⟨(some 6), ld (t 5) 1 false, none⟩, ⟨(some 7), mv (t 1), none⟩, ⟨(some 8), calle (c (.fn 62 [])) [t 6, t 7] [], none⟩, ⟨(some 1), mv (t 8), none⟩]) (seq (seq (reg [⟨(some 9), mv (t 1), none⟩, ⟨(some 10), bin .lss (t 9) (c (.int .i64 0)), none⟩]) (cond (t 10) (seq (reg [⟨(some 4), mv (c (.int .i64 (-1))), none⟩]) (ret)) (skip))) (seq (reg [⟨(some 11), mv (t 1), none⟩, ⟨(some 4), mv (t 11), none⟩]) (ret))))
def r_laws_heldFlagSum : List ARes := [.tmp 4]
theorem k_laws_heldFlagSum : acLin Go.Proofs.Tryz.prog 20 2 (inQ [] [62]) [] = some (c_laws_heldFlagSum, r_laws_heldFlagSum) := by kernel_rfl
def c_laws_FnExactReadSum : AC := seq (reg [⟨(some 2), mv (c (.bool false)), none⟩]) (seq (seq (reg [⟨(some 11), mv (t 0), none⟩, ⟨(some 12), lens (t 11), none⟩, ⟨(some 13), bin .gtr (t 12) (c (.int .i64 1048576)), none⟩]) (cond (t 13) (seq (reg [⟨(some 2), mv (c (.bool true)), none⟩]) (ret)) (skip))) (seq (reg [⟨(some 15), mv (t 0), none⟩, ⟨(some 16), callq (c (.fn 16 [])) [t 15], none⟩, ⟨(some 14), mv (t 16), none⟩, ⟨(some 17), ext (t 14) 0, none⟩, ⟨(some 18), ext (t 14) 1, none⟩, ⟨(some 3), alloc [.int .i64 0, .int .u32 0, .int .i64 0, .sl [] true], none⟩, ⟨none, st (t 3) 4 (t 17), none⟩, ⟨(some 4), mv (t 18), none⟩]) (seq (reg [⟨(some 20), mv (t 0), none⟩, ⟨(some 21), calle (c (.fn 17 [])) [t 20] [], none⟩, ⟨(some 19), mv (t 21), none⟩, ⟨(some 22), ext (t 19) 0, none⟩, ⟨(some 23), ext (t 19) 1, none⟩, ⟨(some 5), alloc [.int .i64 0, .int .u32 0, .int .i64 0, .sl [] true], none⟩, ⟨none, st (t 5) 4 (t 22), none⟩, ⟨(some 6), mv (t 23), none⟩]) (seq (seq (reg [⟨(some 24), ld (t 5) 4 true, none⟩, ⟨(some 25), ld (t 3) 4 true, none⟩, ⟨(some 26), calle (c (.fn 18 [])) [t 24, t 25] [], none⟩, ⟨(some 27), un .not (t 26), none⟩, ⟨(some 28), mv (t 27), none⟩, ⟨(some 29), mv (t 6), some (28, false)⟩, ⟨(some 30), mv (t 4), some (28, false)⟩, ⟨(some 31), bin .neq (t 29) (t 30), some (28, false)⟩, ⟨(some 32), pick (t 28) (c (.bool true)) (t 31), none⟩]) (cond (t 32) (seq (reg [⟨(some 2), mv (c (.bool false)), none⟩]) (ret)) (skip))) (seq (reg [⟨(some 7), mv (c (.int .i64 1)), none⟩]) (seq (reg [⟨(some 33), ld (t 5) 4 true, none⟩, ⟨(some 34), mv (t 7), none⟩, ⟨(some 35), calle (c (.fn 19 [])) [t 33, t 34] [], none⟩, ⟨(some 7), mv (t 35), none⟩]) (seq (reg [⟨(some 8), mv (c (.int .i64 1)), none⟩]) (seq (reg [⟨(some 36), ld (t 5) 4 true, none⟩, ⟨(some 37), mv (t 8), none⟩, ⟨(some 38), calle (c (.fn 20 [])) [t 36, t 37] [], none⟩, ⟨(some 8), mv (t 38), none⟩]) (seq (seq (reg [⟨(some 39), mv (t 8), none⟩, ⟨(some 40), bin .lss (t 39) (c (.int .i64 0)), none⟩]) (cond (t 40) (seq (reg [⟨(some 2), mv (c (.bool false)), none⟩]) (ret)) (skip))) (seq (seq (reg [⟨(some 41), mv (t 8), none⟩, ⟨(some 42), mv (t 7), none⟩, ⟨(some 43), bin .neq (t 41) (t 42), none⟩]) (cond (t 43) (seq (reg [⟨(some 2), mv (c (.bool false)), none⟩]) (ret)) (skip))) (seq (reg [⟨(some 45), mv (t 0), none⟩, ⟨(some 46), calle (c (.fn 17 [])) [t 45] [], none⟩, ⟨(some 44), mv (t 46), none⟩, ⟨(some 47), ext (t 44) 0, none⟩, ⟨(some 48), ext (t 44) 1, none⟩, ⟨(some 9), alloc [.int .i64 0, .int .u32 0, .int .i64 0, .sl [] true], none⟩, ⟨none, st (t 9) 4 (t 47), none⟩, ⟨(some 10), mv (t 48), none⟩]) (seq (seq (reg [⟨(some 49), ld (t 9) 4 true, none⟩, ⟨(some 50), ld (t 3) 4 true, none⟩, ⟨(some 51), calle (c (.fn 18 [])) [t 49, t 50] [], none⟩, ⟨(some 52), un .not (t 51), none⟩, ⟨(some 53), mv (t 52), none⟩, ⟨(some 54), mv (t 10), some (53, false)⟩, ⟨(some 55), mv (t 4), some (53, false)⟩, ⟨(some 56), bin .neq (t 54) (t 55), some (53, false)⟩, ⟨(some 57), pick (t 53) (c (.bool true)) (t 56), none⟩]) (cond (t 57) (seq (reg [⟨(some 2), mv (c (.bool false)), none⟩]) (ret)) (skip))) (seq (reg [⟨(some 8), mv (c (.int .i64 1)), none⟩]) (seq (reg [⟨(some 58), ld (t 5) 4 true, none⟩, ⟨(some 59), mv (t 8), none⟩, ⟨(some 60), calle (c (.fn 20 [])) [t 58, t 59] [], none⟩, ⟨(some 8), mv (t 60), none⟩]) (seq (seq (reg [⟨(some 61), mv (t 8), none⟩, ⟨(some 62), bin .lss (t 61) (c (.int .i64 0)), none⟩]) (cond (t 62) (seq (reg [⟨(some 2), mv (c (.bool false)), none⟩]) (ret)) (skip))) (seq (seq (reg [⟨(some 63), mv (t 8), none⟩, ⟨(some 64), mv (t 7), none⟩, ⟨(some 65), bin .neq (t 63) (t 64), none⟩]) (cond (t 65) (seq (reg [⟨(some 2), mv (c (.bool false)), none⟩]) (ret)) (skip))) (seq (reg [⟨(some 2), mv (c (.bool true)), none⟩]) (ret))))))))))))))))))
def r_laws_FnExactReadSum : List ARes := [.tmp 2]
theorem k_laws_FnExactReadSum : acLin Go.Proofs.Tryz.prog 5 1 (inQ [16] [17, 18, 19, 20]) [] = some (c_laws_FnExactReadSum, r_laws_FnExactReadSum) := by kernel_rfl
end Go.Proofs.YtgophedkejgedaaGreatDoorAi
end

section
/- Contracts: ReadSum of the program. -/
namespace Go.Proofs.YtgophedkejgedaaGreatDoorAi
open Go Go.RowKit
set_option linter.unusedVariables false
set_option linter.unusedSimpArgs false
set_option maxRecDepth 20000

/-! ### trimmed texts -/
noncomputable def sp_trimP : List AV → Option (AV) := pf (ι := (ByteArray) × (ByteArray)) (α := AV) (fun ⟨s, p⟩ => s.size ≤ 1048576) (fun ⟨s, p⟩ => [.str s, .str p]) (fun ⟨s, p⟩ => .str (cpA s p))
theorem sp_trimP_eq (s p : ByteArray) (h : s.size ≤ 1048576) : sp_trimP [.str s, .str p] = some (.str (cpA s p)) := by
  unfold sp_trimP
  exact pf_eq (ι := (ByteArray) × (ByteArray)) (α := AV) (s, p) h (by rintro ⟨s', p'⟩ _ e; simp_all [Int.natCast_inj])
theorem q_strings_TrimPrefix : QP PP 52 sp_trimP := by
  refine QP_pf (fun i h => ?_) fun i h => ?_
  · obtain ⟨s, p⟩ := i; exact ⟨by first | rfl | simp, by first | rfl | simp⟩
  obtain ⟨s, p⟩ := i
  refine T.lib ⟨_, Tryz.func52, by kernel_rfl, by kernel_rfl⟩ (fun σ w vs hr hG => ?_) .nil
  obtain ⟨v1, us, rfl, h1, h2⟩ := hr.head
  obtain ⟨v2, us2, rfl, h3, h4⟩ := h2.head
  obtain rfl : us2 = [] := List.eq_nil_of_length_eq_zero h4.1.symm
  cases h1; cases h3
  refine (Tryz.strings_TrimPrefix s p w).mono ?_
  rintro e w' ⟨rfl, rfl⟩
  exact ⟨_, rfl, Below.refl _ _, .str _⟩
def csA (s p : ByteArray) : ByteArray := ⟨(Go.Lib.trimSuffix s.data.toList p.data.toList).toArray⟩
noncomputable def sp_trimS : List AV → Option (AV) := pf (ι := (ByteArray) × (ByteArray)) (α := AV) (fun ⟨s, p⟩ => s.size ≤ 1048576) (fun ⟨s, p⟩ => [.str s, .str p]) (fun ⟨s, p⟩ => .str (csA s p))
theorem sp_trimS_eq (s p : ByteArray) (h : s.size ≤ 1048576) : sp_trimS [.str s, .str p] = some (.str (csA s p)) := by
  unfold sp_trimS
  exact pf_eq (ι := (ByteArray) × (ByteArray)) (α := AV) (s, p) h (by rintro ⟨s', p'⟩ _ e; simp_all [Int.natCast_inj])
theorem q_strings_TrimSuffix : QP PP 51 sp_trimS := by
  refine QP_pf (fun i h => ?_) fun i h => ?_
  · obtain ⟨s, p⟩ := i; exact ⟨by first | rfl | simp, by first | rfl | simp⟩
  obtain ⟨s, p⟩ := i
  replace h : s.size ≤ 1048576 := h
  refine T.lib ⟨_, Tryz.func51, by kernel_rfl, by kernel_rfl⟩ (fun σ w vs hr hG => ?_) .nil
  obtain ⟨v1, us, rfl, h1, h2⟩ := hr.head
  obtain ⟨v2, us2, rfl, h3, h4⟩ := h2.head
  obtain rfl : us2 = [] := List.eq_nil_of_length_eq_zero h4.1.symm
  cases h1; cases h3
  refine (Tryz.strings_TrimSuffix s p w (by omega)).mono ?_
  rintro e w' ⟨rfl, rfl⟩
  exact ⟨_, rfl, Below.refl _ _, .str _⟩
theorem csA_size (s p : ByteArray) : (csA s p).size ≤ s.size := by
  have e : s.size = s.data.toList.length := by rw [Array.length_toList]; rfl
  unfold csA Go.Lib.trimSuffix
  rw [e]
  split
  · simp only [ba_size, List.size_toArray, List.length_take]; omega
  · simp only [ba_size, List.size_toArray]; omega
/-! ### lists of terms that grow -/
@[simp] theorem gath_tm (l : List Tm) (n : Nat) (h : n = l.length) : gath 5 n (flatA (mapA tmA l)) = mapA tmA l := flatA_gath l n h
def lvT (N : Nat) (L : List Tm) : AV := if L = [] then .sl [] true else .ref N 5 0 L.length .full
def obT (L : List Tm) : List (Option (List AV)) := if L = [] then [] else [some (flatA (tmsA L))]
theorem lvT_nil (N : Nat) : lvT N [] = .sl [] true := rfl
theorem obT_nil : obT [] = [] := rfl
theorem lvT_cons {N : Nat} {L : List Tm} (h : L ≠ []) : lvT N L = .ref N 5 0 L.length .full := if_neg h
theorem obT_cons {L : List Tm} (h : L ≠ []) : obT L = [some (flatA (tmsA L))] := if_neg h
theorem tmE_snoc (L : List Tm) (k n e p q : Int) : flatA (tmsA L) ++ [.int .i64 k, .int .i64 n, .int .u32 e, .int .i64 p, .int .i64 q] = flatA (tmsA (L ++ [⟨k, n, e, p, q⟩])) := by
  rw [flatA_append]; rfl
theorem lvT_lt (N : Nat) (L : List Tm) : AV.lt ((obT L).length + N) (lvT N L) = true := by
  by_cases hL : L = []
  · rw [hL, lvT_nil]; rfl
  · rw [obT_cons hL, lvT_cons hL]; simp
/-! ### what is read -/
def lineI (w : ByteArray) : Option (Nat × Nat × Int × Int) := (rgO (cutB w sepB)).bind fun g => if readOk (cutA w sepB) = true then some (g.1, g.2, numV (topS (cutA w sepB)), numV (botS (cutA w sepB))) else none
def goT (tn : Int) : List ByteArray → Nat → List Tm → Option (List Tm)
  | [], _, L => some L
  | w :: r, i, L => if 64 < i then none else (lineI w).bind fun x => goT tn r (i + 1) (L ++ [⟨tn, x.1, x.2.1, x.2.2.1, x.2.2.2⟩])
def rsW (s : ByteArray) : List ByteArray := piecesB (csA s lineB) lineB
def rsH (s : ByteArray) : ByteArray := cpA ((rsW s)[0]?.getD noB) sumWB
def rsF (s : ByteArray) (tn te sz : Int) (L : List Tm) : Prop := sumB tn te sz L = true ∧ (sumX tn te sz L == s) = true
open Classical in
noncomputable def isO (s : ByteArray) : Option (Int × Int × Int × List Tm) := (rgO (cutB (rsH s) sepB)).bind fun g => (goT g.1 (rsW s).tail 1 []).bind fun L => if rsF s g.1 g.2 (numV (cutA (rsH s) sepB)) L then some ((g.1 : Int), (g.2 : Int), numV (cutA (rsH s) sepB), L) else none
def rsA : Option (Int × Int × Int × List Tm) → AV
  | some (n, e, s, L) => .tup [.agg [.int .i64 n, .int .u32 e, .int .i64 s, lvT 0 L], .int .i64 0]
  | none => .tup [.agg [.int .i64 0, .int .u32 0, .int .i64 0, .sl [] true], .int .i64 5]
def rsB : Option (Int × Int × Int × List Tm) → List (Option (List AV))
  | some (_, _, _, L) => obT L
  | none => []
theorem goI_lt {n : Int} (hn : n ≤ 5) : ∀ (W : List ByteArray) (a m : Nat), a < 1024 → goI n W a = some m → m < 1024
  | [], a, m, ha, h => by
    rw [goI] at h; injection h with h; omega
  | w :: r, a, m, ha, h => by
    rw [goI] at h
    split at h
    · rename_i hk
      unfold edgeOk at hk
      simp only [Bool.and_eq_true] at hk
      exact goI_lt hn r _ m (Nat.or_lt_two_pow (n := 10) ha (bit_small (pairI_in hn hk.2))) h
    · cases h
theorem rgO_lt {s : ByteArray} {n m : Nat} (h : rgO s = some (n, m)) : n ≤ 5 ∧ m < 1024 := by
  refine ⟨(rgO_text h).1, ?_⟩
  unfold rgO at h
  split at h
  · rename_i hok
    unfold okI at hok
    simp only [Bool.and_eq_true, decide_eq_true_eq] at hok
    cases hg : goI (nI s) ((wdI s).drop 1) 0 with
    | none => rw [hg] at h; cases h
    | some k =>
      rw [hg, Option.bind_some] at h
      split at h
      · injection h with h
        injection h with h1 h2
        subst h2
        exact goI_lt hok.2.2 _ 0 k (by decide) hg
      · cases h
  · cases h
theorem rsB_inj (f : Nat → Nat) (o : Option (Int × Int × Int × List Tm)) : injB f (rsB o).length = true := by
  cases o with
  | none => rfl
  | some x =>
    obtain ⟨n, e, s, L⟩ := x
    by_cases hL : L = []
    · subst hL; rfl
    · show injB f (obT L).length = true
      rw [obT_cons hL]; rfl
theorem rsA_lt0 (o : Option (Int × Int × Int × List Tm)) : AV.lt (rsB o).length (rsA o) = true := by
  cases o with
  | none => rfl
  | some x =>
    obtain ⟨n, e, s, L⟩ := x
    by_cases hL : L = []
    · subst hL; rfl
    · show AV.lt (obT L).length (.tup [.agg [.int .i64 n, .int .u32 e, .int .i64 s, lvT 0 L], .int .i64 0]) = true
      rw [obT_cons hL, lvT_cons hL]; rfl
def rsSt (s : ByteArray) (W : List ByteArray) (tn te sz : Int) : Nat × List Tm → St
  | (0, _) => ⟨tl [(0, .str s), (2, .ptr 0 0), (4, .ptr 1 0), (16, .ref 2 1 0 W.length .tight), (17, .int .i64 W.length), (18, .int .i64 0)], ⟨[some [.int .i64 0, .int .u32 0, .int .i64 0, .sl [] true], some [.int .i64 0, .int .u32 0, .int .i64 0, .sl [] true], some (strsA W)]⟩⟩
  | (i + 1, L) => ⟨tl [(0, .str s), (2, .ptr 0 0), (4, .ptr 1 0), (16, .ref 2 1 0 W.length .tight), (17, .int .i64 W.length), (18, .int .i64 ((i : Int) + 1))], ⟨some [.int .i64 0, .int .u32 0, .int .i64 0, .sl [] true] :: some [.int .i64 tn, .int .u32 te, .int .i64 sz, lvT 3 L] :: some (strsA W) :: obT L⟩⟩
noncomputable def sp_readSm : List AV → Option (AV × List (Option (List AV))) := pf (ι := (ByteArray)) (α := AV × List (Option (List AV))) (fun s => s.size ≤ 1048576) (fun s => [.str s]) (fun s => (rsA (isO s), rsB (isO s)))
theorem sp_readSm_eq (s : ByteArray) (h : s.size ≤ 1048576) : sp_readSm [.str s] = some ((rsA (isO s), rsB (isO s))) := by
  unfold sp_readSm
  exact pf_eq (ι := (ByteArray)) (α := AV × List (Option (List AV))) s h (by rintro s' _ e; simp_all [Int.natCast_inj])
set_option maxHeartbeats 4000000 in
theorem n_impl_ReadSum : QN PP 17 sp_readSm := by
  refine QN_pf (fun s h => ?_) fun s h => ?_
  · first | rfl | simp
  replace h : s.size ≤ 1048576 := h
  show T PP 17 [.str s] .nil fun r' A' => r' = (((rsA (isO s), rsB (isO s)) : AV × List (Option (List AV)))).1 ∧ A' = ⟨(((rsA (isO s), rsB (isO s)) : AV × List (Option (List AV)))).2⟩
  have hcs := csA_size s lineB
  have hts : sp_trimS [.str s, .str ⟨#[10]⟩] = some (.str (csA s lineB)) := sp_trimS_eq s lineB h
  have hsp : sp_pieces [.str (csA s lineB), .str ⟨#[10]⟩] = some (.ref 0 1 0 (rsW s).length .tight, [some (flatA (strsA (rsW s)))]) := sp_pieces_eq (csA s lineB) lineB ⟨by omega, rfl⟩
  rw [flat_strs] at hsp
  have hlen : 0 < (rsW s).length := by unfold rsW; rw [pieces_len _ _ (by decide)]; omega
  have hmost : (rsW s).length ≤ 1048577 := by
    unfold rsW; rw [pieces_len _ _ (by decide)]
    have := count_le (csA s lineB) lineB (by decide)
    omega
  have hsz : ∀ w ∈ rsW s, w.size ≤ 1048576 := fun w hw => by
    have := splitB_size lineB _ _ w hw
    omega
  refine H_code (Quiet.q1 q_strings_TrimSuffix (Quiet.q1 q_strings_TrimPrefix (Quiet.q1 q_strings_Cut (Quiet.q1 q_impl_ReadGraph (Quiet.q1 q_impl_number (Quiet.q1 q_impl_ReadFraction (Quiet.e1 n_strings_Split.toE (Quiet.e1 q_impl_ValidSum.toR (Quiet.e1 q_impl_FlagSum_text.toR Quiet.nil))))))))) hmix k_impl_ReadSum rfl (fun _ => 3) (by simp [AHeap.n, AHeap.nil]) (by intro b hb; simp [AHeap.n, AHeap.nil] at hb) (rsB_inj _ _) (rsA_lt0 _) ?_
  obtain ⟨R, hR⟩ : ∃ R, R = isO s := ⟨_, rfl⟩
  rw [← hR]
  unfold isO at hR
  have e0 : (rsW s)[0]'hlen = (rsW s)[0]?.getD noB := by rw [List.getElem?_eq_getElem hlen]; rfl
  have hw0 := hsz _ (List.getElem_mem hlen)
  have hH : rsH s = cpA ((rsW s)[0]'hlen) sumWB := by unfold rsH; rw [e0]
  have htp : sp_trimP [.str ((rsW s)[0]'hlen), .str ⟨#[115, 117, 109, 32]⟩] = some (.str (rsH s)) := by rw [hH]; exact sp_trimP_eq _ sumWB hw0
  have hHs : (rsH s).size ≤ 1048576 := by rw [hH]; have := cpA_size ((rsW s)[0]'hlen) sumWB; omega
  have hcH : sp_cutS [.str (rsH s), .str ⟨#[32]⟩] = some (.tup [.str (cutA (rsH s) sepB), .str (cutB (rsH s) sepB), .bool (cutI (rsH s) sepB)]) := sp_cutS_eq (rsH s) sepB hHs
  have hcz := cut_sizes (rsH s) sepB
  have hgH := sp_readGr_eq (cutB (rsH s) sepB) (by omega)
  have hnH := sp_numI_eq (cutA (rsH s) sepB) (by omega)
  generalize hW : rsW s = W at *
  generalize rsH s = H at *
  have q0 : W[0]? = some (W[0]'hlen) := List.getElem?_eq_getElem hlen
  have r3 : ∀ n, ltL n (strsA W) = true := fun n => by rw [← flat_strs]; simp
  have rr : ∀ f, renL f (strsA W) = strsA W := fun f => by rw [← flat_strs]; simp
  generalize hw0' : W[0]'hlen = w0 at *
  generalize numV (cutA H sepB) = sz at *
  cases hh : rgO (cutB H sepB) with
  | none =>
    rw [hh] at hR hgH
    have hR : R = none := hR
    subst hR
    simp -dsimp -implicitDefEqProofs [c_impl_ReadSum, r_impl_ReadSum, hts, hsp, rr]
    refine wpLoop_st (rsSt s W 0 0 0) (fun q => q.1 = 0) (fun q => 0) (0, []) rfl (Sub.keep (by simp [rsSt]) (by simp [hsub, rsSt, r3, rr]) (by simp [rsSt])) ?_
    rintro ⟨i, L⟩ hi
    simp only at hi
    subst hi
    simp -dsimp -implicitDefEqProofs [rsSt, hlen, q0, hw0', htp, hcH, hgH, rgA, rsA, rsB, hsub]
  | some g =>
    obtain ⟨n, m⟩ := g
    rw [hh] at hR hgH
    have hnm := rgO_lt hh
    rw [Option.bind_some] at hR
    simp -dsimp -implicitDefEqProofs [c_impl_ReadSum, r_impl_ReadSum, hts, hsp, rr]
    refine wpLoop_st (rsSt s W n m sz) (fun q => q.1 ≤ W.length ∧ (1 ≤ q.1 → q.2.length = q.1 - 1 ∧ u32L q.2 ∧ goT n (W.drop q.1) q.1 q.2 = goT n W.tail 1 [])) (fun q => W.length - q.1) (0, []) ⟨by omega, fun h => by omega⟩ (Sub.keep (by simp [rsSt]) (by simp [hsub, rsSt, r3, rr]) (by simp [rsSt])) ?_
    rintro ⟨i, L⟩ ⟨hi, hp⟩
    simp only at hi hp
    rcases i with _ | i
    · simp -dsimp -implicitDefEqProofs [rsSt, hlen, q0, hw0', htp, hcH, hgH, rgA, hnH]
      have w1 : IntKind.wrap .i64 1 = 1 := rfl
      exact .mk (1, []) ⟨by simp only; omega, fun _ => ⟨rfl, (fun x hx => (by cases hx)), (by simp)⟩⟩ (by simp only; omega) (Sub.keep (by simp [rsSt, obT_nil]) (by simp [hsub, rsSt, r3, rr, obT_nil, lvT_nil]) (by simp [rsSt, w1]))
    obtain ⟨hLl, hu, hg⟩ := hp (by omega)
    have hwi : IntKind.wrap .i64 ((i : Int) + 1 + 1) = (i : Int) + 1 + 1 := wrapI64 (by omega) (by omega)
    have hv := sp_sumOk_eq n m sz L ⟨by omega, by simp only [maxLen]; omega, hu⟩
    have ht : sumB n m sz L = true → sp_sumX [.agg [.int .i64 n, .int .u32 m, .int .i64 sz, .sl (tmsA L) false]] = some (.str (sumX n m sz L)) := fun hb => sp_sumX_eq n m sz L (sumB_in hb (by omega) hu)
    by_cases hL : L = []
    · subst hL
      have l1 : 1 * 41 ≤ mostBytes := by decide
      simp -dsimp -implicitDefEqProofs [rsSt, obT_nil, lvT_nil]
      refine brW_of (fun h => ?_) (fun h => ?_) <;> simp only [decide_eq_true_eq, decide_eq_false_iff_not] at h
      · have hx : i + 1 < W.length := by omega
        have hxi : (i : Int) + 1 < W.length := by omega
        have hi0 : (0 : Int) ≤ (i : Int) + 1 := by omega
        have hiz : ((i : Int) + 1 == 0) = false := by simp; omega
        have q1 : W[i + 1]? = some W[i + 1] := List.getElem?_eq_getElem hx
        have hwsz := hsz _ (List.getElem_mem hx)
        rw [drop_cons hx, goT] at hg
        generalize hww : W[i + 1] = w at *
        have hct : sp_cutS [.str w, .str ⟨#[32]⟩] = some (.tup [.str (cutA w sepB), .str (cutB w sepB), .bool (cutI w sepB)]) := sp_cutS_eq w sepB hwsz
        have hcz2 := cut_sizes w sepB
        have hgr := sp_readGr_eq (cutB w sepB) (by omega)
        have hfr := sp_readFr_eq (cutA w sepB) (by omega)
        cases hl : rgO (cutB w sepB) with
        | none =>
          have hn : goT n W.tail 1 [] = none := by
            rw [← hg]
            split
            · rfl
            · unfold lineI; rw [hl]; rfl
          rw [hn] at hR
          have hR : R = none := hR
          subst hR
          rw [hl] at hgr
          simp -dsimp -implicitDefEqProofs [hx, hxi, hi0, hiz, q1, hww, hct, hgr, rgA, rsA, rsB, hsub]
        | some g2 =>
          obtain ⟨n2, m2⟩ := g2
          have hnm2 := rgO_lt hl
          rw [hl] at hgr
          by_cases c64 : 64 < i + 1
          · have c64i : (64 : Int) < (i : Int) + 1 := by omega
            rw [if_pos c64] at hg
            rw [← hg] at hR
            have hR : R = none := hR
            subst hR
            simp -dsimp -implicitDefEqProofs [hx, hxi, hi0, hiz, q1, hww, hct, hgr, rgA, c64, c64i, rsA, rsB, hsub]
          have c64i : ¬ (64 : Int) < (i : Int) + 1 := by omega
          rw [if_neg c64] at hg
          cases hrd : readOk (cutA w sepB) with
          | false =>
            have hli : lineI w = none := by unfold lineI; rw [hl, Option.bind_some, hrd]; rfl
            rw [hli] at hg
            rw [← hg] at hR
            have hR : R = none := hR
            subst hR
            unfold readR at hfr
            rw [hrd, if_neg (by decide)] at hfr
            simp -dsimp -implicitDefEqProofs [hx, hxi, hi0, hiz, q1, hww, hct, hgr, rgA, c64, c64i, hfr, rsA, rsB, hsub]
          | true =>
            have hli : lineI w = some (n2, m2, numV (topS (cutA w sepB)), numV (botS (cutA w sepB))) := by unfold lineI; rw [hl, Option.bind_some, hrd]; rfl
            rw [hli, Option.bind_some] at hg
            unfold readR at hfr
            rw [hrd, if_pos rfl] at hfr
            generalize numV (topS (cutA w sepB)) = P at *
            generalize numV (botS (cutA w sepB)) = Q at *
            have e5 : [(⟨n, n2, m2, P, Q⟩ : Tm)] ≠ [] := by simp
            simp -dsimp -implicitDefEqProofs [hx, hxi, hi0, hiz, q1, hww, hct, hgr, rgA, c64, c64i, hfr, l1]
            refine .mk (i + 1 + 1, [⟨n, n2, m2, P, Q⟩]) ⟨by simp only; omega, fun _ => ⟨by simp at hLl ⊢; omega, ?_, hg⟩⟩ (by simp only; omega) (Sub.mk' (fun b => if b = 3 then 6 else b) (by simp [rsSt, obT_cons e5]) (by intro b hb; simp [rsSt, obT_cons e5] at hb <;> omega) (by first | rfl | (rw [obT_cons e5]; rfl)) (by simp [hsub, rsSt, obT_cons e5, lvT_cons e5, r3, rr, flatA_cons]) (by simp [rsSt, hwi]))
            intro x hx'
            obtain rfl := List.mem_singleton.1 hx'
            simp only; omega
      · have hiW : i + 1 = W.length := by omega
        rw [hiW, List.drop_length, goT] at hg
        rw [← hg, Option.bind_some] at hR
        cases hb : sumB n m sz [] with
        | false =>
          rw [hb] at hv
          have hv : sp_sumOk [.agg [.int .i64 n, .int .u32 m, .int .i64 sz, .sl [] false]] = _ := hv
          have hR2 : R = none := by rw [hR, if_neg]; intro hF; rw [rsF, hb] at hF; exact absurd hF.1 (by decide)
          subst hR2
          simp -dsimp -implicitDefEqProofs [hv, rsA, rsB, hsub]
        | true =>
          rw [hb] at hv
          have hv : sp_sumOk [.agg [.int .i64 n, .int .u32 m, .int .i64 sz, .sl [] false]] = _ := hv
          have ht : sp_sumX [.agg [.int .i64 n, .int .u32 m, .int .i64 sz, .sl [] false]] = _ := ht hb
          cases hq : (sumX n m sz [] == s) with
          | false =>
            have hq' : (sumX n m sz [] != s) = true := by unfold bne; rw [hq]; rfl
            have hR2 : R = none := by rw [hR, if_neg]; intro hF; rw [rsF, hq] at hF; exact absurd hF.2 (by decide)
            subst hR2
            simp -dsimp -implicitDefEqProofs [hv, ht, hq, hq', rsA, rsB, hsub]
          | true =>
            have hq' : (sumX n m sz [] != s) = false := by unfold bne; rw [hq]; rfl
            have hR2 : R = some ((n : Int), (m : Int), sz, []) := by rw [hR, if_pos]; exact ⟨hb, hq⟩
            subst hR2
            simp -dsimp -implicitDefEqProofs [hv, ht, hq, hq', rsA, rsB, obT_nil, lvT_nil, hsub]
    · have l1 : (L.length + 1) * 41 ≤ mostBytes := by simp only [mostBytes]; omega
      have l2 : ¬ ((L.length + 1) * 5 ≤ L.length * 5) := by omega
      have l3 : (flatA (tmsA L)).take (L.length * 5) = flatA (tmsA L) := List.take_of_length_le (by simp)
      simp -dsimp -implicitDefEqProofs [rsSt, obT_cons hL, lvT_cons hL]
      refine brW_of (fun h => ?_) (fun h => ?_) <;> simp only [decide_eq_true_eq, decide_eq_false_iff_not] at h
      · have hx : i + 1 < W.length := by omega
        have hxi : (i : Int) + 1 < W.length := by omega
        have hi0 : (0 : Int) ≤ (i : Int) + 1 := by omega
        have hiz : ((i : Int) + 1 == 0) = false := by simp; omega
        have q1 : W[i + 1]? = some W[i + 1] := List.getElem?_eq_getElem hx
        have hwsz := hsz _ (List.getElem_mem hx)
        rw [drop_cons hx, goT] at hg
        generalize hww : W[i + 1] = w at *
        have hct : sp_cutS [.str w, .str ⟨#[32]⟩] = some (.tup [.str (cutA w sepB), .str (cutB w sepB), .bool (cutI w sepB)]) := sp_cutS_eq w sepB hwsz
        have hcz2 := cut_sizes w sepB
        have hgr := sp_readGr_eq (cutB w sepB) (by omega)
        have hfr := sp_readFr_eq (cutA w sepB) (by omega)
        cases hl : rgO (cutB w sepB) with
        | none =>
          have hn : goT n W.tail 1 [] = none := by
            rw [← hg]
            split
            · rfl
            · unfold lineI; rw [hl]; rfl
          rw [hn] at hR
          have hR : R = none := hR
          subst hR
          rw [hl] at hgr
          simp -dsimp -implicitDefEqProofs [hx, hxi, hi0, hiz, q1, hww, hct, hgr, rgA, rsA, rsB, hsub]
        | some g2 =>
          obtain ⟨n2, m2⟩ := g2
          have hnm2 := rgO_lt hl
          rw [hl] at hgr
          by_cases c64 : 64 < i + 1
          · have c64i : (64 : Int) < (i : Int) + 1 := by omega
            rw [if_pos c64] at hg
            rw [← hg] at hR
            have hR : R = none := hR
            subst hR
            simp -dsimp -implicitDefEqProofs [hx, hxi, hi0, hiz, q1, hww, hct, hgr, rgA, c64, c64i, rsA, rsB, hsub]
          have c64i : ¬ (64 : Int) < (i : Int) + 1 := by omega
          rw [if_neg c64] at hg
          cases hrd : readOk (cutA w sepB) with
          | false =>
            have hli : lineI w = none := by unfold lineI; rw [hl, Option.bind_some, hrd]; rfl
            rw [hli] at hg
            rw [← hg] at hR
            have hR : R = none := hR
            subst hR
            unfold readR at hfr
            rw [hrd, if_neg (by decide)] at hfr
            simp -dsimp -implicitDefEqProofs [hx, hxi, hi0, hiz, q1, hww, hct, hgr, rgA, c64, c64i, hfr, rsA, rsB, hsub]
          | true =>
            have hli : lineI w = some (n2, m2, numV (topS (cutA w sepB)), numV (botS (cutA w sepB))) := by unfold lineI; rw [hl, Option.bind_some, hrd]; rfl
            rw [hli, Option.bind_some] at hg
            unfold readR at hfr
            rw [hrd, if_pos rfl] at hfr
            have e2 := tmE_snoc L n n2 m2 (numV (topS (cutA w sepB))) (numV (botS (cutA w sepB)))
            generalize numV (topS (cutA w sepB)) = P at *
            generalize numV (botS (cutA w sepB)) = Q at *
            have e5 : L ++ [(⟨n, n2, m2, P, Q⟩ : Tm)] ≠ [] := by simp
            simp -dsimp -implicitDefEqProofs [hx, hxi, hi0, hiz, q1, hww, hct, hgr, rgA, c64, c64i, hfr, l1, l2, l3, e2]
            refine .mk (i + 1 + 1, L ++ [⟨n, n2, m2, P, Q⟩]) ⟨by simp only; omega, fun _ => ⟨by simp at hLl ⊢; omega, ?_, hg⟩⟩ (by simp only; omega) (Sub.mk' (fun b => if b = 3 then 7 else b) (by simp [rsSt, obT_cons e5]) (by intro b hb; simp [rsSt, obT_cons e5] at hb <;> omega) (by first | rfl | (rw [obT_cons e5]; rfl)) (by simp [hsub, rsSt, obT_cons e5, lvT_cons e5, r3, rr]) (by simp [rsSt, hwi]))
            intro x hx'
            rcases List.mem_append.1 hx' with hx' | hx'
            · exact hu x hx'
            · obtain rfl := List.mem_singleton.1 hx'
              simp only; omega
      · have hiW : i + 1 = W.length := by omega
        rw [hiW, List.drop_length, goT] at hg
        rw [← hg, Option.bind_some] at hR
        cases hb : sumB n m sz L with
        | false =>
          rw [hb] at hv
          have hR2 : R = none := by rw [hR, if_neg]; intro hF; rw [rsF, hb] at hF; exact absurd hF.1 (by decide)
          subst hR2
          simp -dsimp -implicitDefEqProofs [hv, rsA, rsB, hsub]
        | true =>
          rw [hb] at hv
          have ht := ht hb
          cases hq : (sumX n m sz L == s) with
          | false =>
            have hq' : (sumX n m sz L != s) = true := by unfold bne; rw [hq]; rfl
            have hR2 : R = none := by rw [hR, if_neg]; intro hF; rw [rsF, hq] at hF; exact absurd hF.2 (by decide)
            subst hR2
            simp -dsimp -implicitDefEqProofs [hv, ht, hq, hq', rsA, rsB, hsub]
          | true =>
            have hq' : (sumX n m sz L != s) = false := by unfold bne; rw [hq]; rfl
            have hR2 : R = some ((n : Int), (m : Int), sz, L) := by rw [hR, if_pos]; exact ⟨hb, hq⟩
            subst hR2
            simp -dsimp -implicitDefEqProofs [hv, ht, hq, hq', rsA, rsB, obT_cons hL, lvT_cons hL, hsub]
end Go.Proofs.YtgophedkejgedaaGreatDoorAi
end

section
/- Contracts: ReadSum of the reference. -/
namespace Go.Proofs.YtgophedkejgedaaGreatDoorAi
open Go Go.RowKit
set_option linter.unusedVariables false
set_option linter.unusedSimpArgs false
set_option maxRecDepth 20000

def cutF (s : ByteArray) : Nat → Nat → Int → Int
  | 0, _, _ => -1
  | k + 1, i, n => if bAt s i = 32 then (if n - 1 = 0 then (i : Int) else cutF s k (i + 1) (n - 1)) else cutF s k (i + 1) n
def cutN (s : ByteArray) (n : Int) : Int := cutF s s.size 0 n
theorem cutF_in (s : ByteArray) : ∀ k i n, -1 ≤ cutF s k i n ∧ cutF s k i n < (i + k : Nat) ∧ (0 ≤ cutF s k i n → (i : Int) ≤ cutF s k i n)
  | 0, i, n => by simp [cutF]; omega
  | k + 1, i, n => by
    rw [cutF]
    split
    · split
      · refine ⟨by omega, by omega, fun _ => by omega⟩
      · obtain ⟨h1, h2, h3⟩ := cutF_in s k (i + 1) (n - 1)
        refine ⟨h1, by omega, fun h => by have := h3 h; omega⟩
    · obtain ⟨h1, h2, h3⟩ := cutF_in s k (i + 1) n
      refine ⟨h1, by omega, fun h => by have := h3 h; omega⟩
theorem cutN_in (s : ByteArray) (n : Int) : -1 ≤ cutN s n ∧ (cutN s n < s.size ∨ cutN s n = -1) := by
  obtain ⟨h1, h2, h3⟩ := cutF_in s s.size 0 n
  unfold cutN
  exact ⟨h1, .inl (by omega)⟩
noncomputable def sp_l05Cut : List AV → Option (AV) := pf (ι := (ByteArray) × (Int)) (α := AV) (fun ⟨s, n⟩ => s.size ≤ 1048576 ∧ 1 ≤ n ∧ n ≤ 2) (fun ⟨s, n⟩ => [.str s, .int .i64 n]) (fun ⟨s, n⟩ => .int .i64 (cutN s n))
theorem sp_l05Cut_eq (s : ByteArray) (n : Int) (h : s.size ≤ 1048576 ∧ 1 ≤ n ∧ n ≤ 2) : sp_l05Cut [.str s, .int .i64 n] = some (.int .i64 (cutN s n)) := by
  unfold sp_l05Cut
  exact pf_eq (ι := (ByteArray) × (Int)) (α := AV) (s, n) h (by rintro ⟨s', n'⟩ _ e; simp_all [Int.natCast_inj])
theorem q_spec_l05Cut : QP PP 44 sp_l05Cut := by
  refine QP_pf (fun i h => ?_) fun i h => ?_
  · obtain ⟨s, n⟩ := i; exact ⟨by first | rfl | simp, by first | rfl | simp⟩
  obtain ⟨s, n⟩ := i
  replace h : s.size ≤ 1048576 ∧ 1 ≤ n ∧ n ≤ 2 := h
  refine P_code Quiet.nil hmix k_spec_l05Cut rfl ?_ ?_
  · first | rfl | simp
  show wpc 0 PP _ c_spec_l05Cut (initSt [.str s, .int .i64 n] .nil) (endP r_spec_l05Cut (.int .i64 (cutN s n)))
  obtain ⟨hs, h1, h2⟩ := h
  simp -dsimp -implicitDefEqProofs [c_spec_l05Cut, r_spec_l05Cut]
  refine wpLoop_st (fun (q : Nat × Int) => ⟨tl [(0, .str s), (1, .int .i64 q.2), (5, .int .i64 q.1)], ⟨[]⟩⟩) (fun q => q.1 ≤ s.size ∧ (1 ≤ q.2 ∧ q.2 ≤ 2) ∧ cutF s (s.size - q.1) q.1 q.2 = cutN s n) (fun q => s.size - q.1) (0, n) ⟨by simp, ⟨h1, h2⟩, rfl⟩ (Sub.keep (by simp) (by simp [hsub]) (by simp)) ?_
  rintro ⟨i, m⟩ ⟨hi, hm, hc⟩
  simp only at hi hm hc
  simp -dsimp -implicitDefEqProofs
  refine brW_of (fun h => ?_) (fun h => ?_) <;> simp only [decide_eq_true_eq, decide_eq_false_iff_not] at h
  · have hx : i < s.size := by omega
    have hw := wrapNat (i := i) (by omega)
    have hg := idx_at s i hx
    have w1 : IntKind.wrap .i64 (m - 1) = m - 1 := wrapI64 (by omega) (by omega)
    rw [show s.size - i = (s.size - (i + 1)) + 1 by omega, cutF] at hc
    by_cases hb : bAt s i = 32
    · have hb' : (bAt s i == 32) = true := by simpa using hb
      rw [if_pos hb] at hc
      by_cases hz : m - 1 = 0
      · have hz' : (m - 1 == 0) = true := by simpa using hz
        rw [if_pos hz] at hc
        rw [← hc]
        have w0 : IntKind.wrap .i64 0 = 0 := rfl
        simp -dsimp -implicitDefEqProofs [hx, hg, hb, hb', w1, w0, hz, hz']
      · have hz' : (m - 1 == 0) = false := by simpa using hz
        rw [if_neg hz] at hc
        simp -dsimp -implicitDefEqProofs [hx, hg, hb, hb', w1, hz, hz', hw]
        exact .mk (i + 1, m - 1) ⟨by simp only; omega, ⟨by simp only; omega, by simp only; omega⟩, hc⟩ (by simp only; omega) (Sub.keep (by simp) (by simp [hsub]) (by simp [hw]))
    · have hb' : (bAt s i == 32) = false := by simpa using hb
      rw [if_neg hb] at hc
      simp -dsimp -implicitDefEqProofs [hx, hg, hb, hb', hw]
      exact .mk (i + 1, m) ⟨by simp only; omega, hm, hc⟩ (by simp only; omega) (Sub.keep (by simp) (by simp [hsub]) (by simp [hw]))
  · have : i = s.size := by omega
    subst this
    rw [Nat.sub_self, cutF] at hc
    simp -dsimp -implicitDefEqProofs [← hc]
def lineS (w : ByteArray) : Option (Nat × Nat × Int × Int) := if cutN w 1 < 0 then none else if rdOk (w.extract 0 (cutN w 1).toNat) = true then (rsO (w.extract ((cutN w 1).toNat + 1) w.size)).bind fun g => some (g.1, g.2, rdP (w.extract 0 (cutN w 1).toNat), rdQ (w.extract 0 (cutN w 1).toNat)) else none
def goU (tn : Int) : List ByteArray → List Tm → Option (List Tm)
  | [], L => some L
  | w :: r, L => (lineS w).bind fun x => goU tn r (L ++ [⟨tn, x.1, x.2.1, x.2.2.1, x.2.2.2⟩])
def ssW (s : ByteArray) : List ByteArray := splitL s 10
def ss0 (s : ByteArray) : ByteArray := (ssW s)[0]?.getD noB
def ssT (s : ByteArray) : Int := cutN (ss0 s) 2
def ssK (s : ByteArray) : Bool := (!(decide (ssT s < 4)) && ((ss0 s).extract 0 4 == sumWB)) && !(decide (66 < (ssW s).length))
def ssN (s : ByteArray) : ByteArray := (ss0 s).extract 4 (ssT s).toNat
def ssG (s : ByteArray) : ByteArray := (ss0 s).extract ((ssT s).toNat + 1) (ss0 s).size
open Classical in
noncomputable def ssO (s : ByteArray) : Option (Int × Int × Int × List Tm) := if ssK s = true ∧ l01B (ssN s) = true then (rsO (ssG s)).bind fun g => (goU g.1 (ssW s).tail.dropLast []).bind fun L => if rsF s g.1 g.2 (l01V (ssN s)) L then some ((g.1 : Int), (g.2 : Int), l01V (ssN s), L) else none else none
def ssA : Option (Int × Int × Int × List Tm) → AV
  | some (n, e, s, L) => .tup [.agg [.int .i64 n, .int .u32 e, .int .i64 s, .sl (tmsA L) false], .int .i64 0]
  | none => .tup [.agg [.int .i64 0, .int .u32 0, .int .i64 0, .sl [] true], .int .i64 5]
@[simp] theorem ssA_lt (o : Option (Int × Int × Int × List Tm)) (k : Nat) : (ssA o).lt k = true := by
  cases o with
  | none => rfl
  | some x =>
    obtain ⟨n, e, s, L⟩ := x
    simp [ssA]
theorem dl_cons {α : Type} {W : List α} {i : Nat} (h : i + 1 < W.length) : (W.drop i).dropLast = W[i] :: (W.drop (i + 1)).dropLast := by
  rw [List.drop_eq_getElem_cons (by omega), List.dropLast_cons_of_ne_nil]
  intro e
  have := congrArg List.length e
  simp at this
  omega
theorem dl_nil {α : Type} {W : List α} {i : Nat} (h : W.length ≤ i + 1) : (W.drop i).dropLast = [] := by
  apply List.eq_nil_of_length_eq_zero
  simp; omega
/-- The terms are seen by value from here on. -/
theorem Shift.terms {N : Nat} {t : Nat → AV} {o0 o1 o2 : Option (List AV)} {x y z : AV} {L : List Tm} : Shift N ⟨t, ⟨[o0, o1, o2, some [x, y, z, .ref 4 5 0 L.length .full], some (flatA (tmsA L))]⟩⟩ ⟨t, ⟨[o0, o1, o2, some [x, y, z, .sl (tmsA L) false], none]⟩⟩ := by
  refine Shift.freeze (b := 4) (cs := flatA (tmsA L)) rfl (fun i => .inr (Fz.refl _ _ _)) rfl (fun i l' h => ?_)
  match i, h with
  | 0, h => exact ⟨by decide, l', h, rfl, fun i x x' e1 e2 => .inl (by rw [e1] at e2; exact (Option.some.inj e2).symm)⟩
  | 1, h => exact ⟨by decide, l', h, rfl, fun i x x' e1 e2 => .inl (by rw [e1] at e2; exact (Option.some.inj e2).symm)⟩
  | 2, h => exact ⟨by decide, l', h, rfl, fun i x x' e1 e2 => .inl (by rw [e1] at e2; exact (Option.some.inj e2).symm)⟩
  | 3, h =>
    have h : some [x, y, z, .sl (tmsA L) false] = some l' := h
    injection h with h
    subst h
    refine ⟨by decide, _, rfl, rfl, fun i u u' e1 e2 => ?_⟩
    match i, e1, e2 with
    | 0, e1, e2 => cases e1; cases e2; exact .inl rfl
    | 1, e1, e2 => cases e1; cases e2; exact .inl rfl
    | 2, e1, e2 => cases e1; cases e2; exact .inl rfl
    | 3, e1, e2 =>
      cases e1; cases e2
      exact .inr (.inr ⟨5, 0, L.length, .full, tmsA L, false, rfl, rfl, (fun h => by cases h), by simp, by simp, tmsA_cells L, .inl (by simp; exact (List.take_of_length_le (by simp)).symm)⟩)
    | k + 4, e1, e2 => cases e1
  | 4, h => cases h
  | k + 5, h => cases h
theorem Shift.noTerms {N : Nat} {t : Nat → AV} {o0 o1 : Option (List AV)} {a b x y z : AV} : Shift N ⟨t, ⟨[o0, o1, some [a, b], some [x, y, z, .sl [] true]]⟩⟩ ⟨t, ⟨[o0, o1, none, some [x, y, z, .sl [] false]]⟩⟩ := by
  refine Shift.freeze (b := 2) (cs := [a, b]) rfl (fun i => .inr (Fz.refl _ _ _)) rfl (fun i l' h => ?_)
  match i, h with
  | 0, h => exact ⟨by decide, l', h, rfl, fun i x x' e1 e2 => .inl (by rw [e1] at e2; exact (Option.some.inj e2).symm)⟩
  | 1, h => exact ⟨by decide, l', h, rfl, fun i x x' e1 e2 => .inl (by rw [e1] at e2; exact (Option.some.inj e2).symm)⟩
  | 2, h => cases h
  | 3, h =>
    have h : some [x, y, z, .sl [] false] = some l' := h
    injection h with h
    subst h
    refine ⟨by decide, _, rfl, rfl, fun i u u' e1 e2 => ?_⟩
    match i, e1, e2 with
    | 0, e1, e2 => cases e1; cases e2; exact .inl rfl
    | 1, e1, e2 => cases e1; cases e2; exact .inl rfl
    | 2, e1, e2 => cases e1; cases e2; exact .inl rfl
    | 3, e1, e2 => cases e1; cases e2; exact .inr (.inl rfl)
    | k + 4, e1, e2 => cases e1
  | k + 4, h => cases h
noncomputable def sp_readSmS : List AV → Option (AV) := pf (ι := (ByteArray)) (α := AV) (fun s => s.size ≤ 1048576) (fun s => [.str s]) (fun s => ssA (ssO s))
theorem sp_readSmS_eq (s : ByteArray) (h : s.size ≤ 1048576) : sp_readSmS [.str s] = some (ssA (ssO s)) := by
  unfold sp_readSmS
  exact pf_eq (ι := (ByteArray)) (α := AV) s h (by rintro s' _ e; simp_all [Int.natCast_inj])
set_option maxHeartbeats 8000000 in
theorem q_spec_ReadSum : QP PP 16 sp_readSmS := by
  refine QP_pf (fun s h => ?_) fun s h => ?_
  · exact ⟨by first | rfl | simp, by first | rfl | simp⟩
  replace h : s.size ≤ 1048576 := h
  refine P_code (Quiet.q1 q_spec_l05Cut (Quiet.q1 q_spec_l01Number (Quiet.q1 q_spec_ReadGraph (Quiet.q1 q_spec_l02Read (Quiet.e1 n_spec_l01Split.toE (Quiet.e1 m_spec_l05Ok.toE (Quiet.e1 m_spec_l05Text.toE Quiet.nil))))))) hmix k_spec_ReadSum rfl ?_ ?_
  · first | rfl | simp
  show wpc 0 PP _ c_spec_ReadSum (initSt [.str s] .nil) (endP r_spec_ReadSum (ssA (ssO s)))
  have hsp := sp_split_eq s 10 ⟨h, by omega, by omega⟩
  rw [flat_strs] at hsp
  have hne : splitL s 10 ≠ [] := (splF_len s 10 _ _ _ _).2
  have hsz := splitL_size s 10
  have hlen : 0 < (splitL s 10).length := List.length_pos_iff.2 hne
  have hleni : (0 : Int) < (splitL s 10).length := by omega
  have hmost := (splF_len s 10 s.size 0 0 []).1
  change (splitL s 10).length ≤ _ at hmost
  simp only [List.length_nil] at hmost
  obtain ⟨R, hR⟩ : ∃ R, R = ssO s := ⟨_, rfl⟩
  rw [← hR]
  unfold ssO at hR
  have hK : ssK s = ((!(decide (ssT s < 4)) && ((ss0 s).extract 0 4 == sumWB)) && !(decide (66 < (ssW s).length))) := rfl
  have hT := cutN_in (ss0 s) 2
  have q0 : (splitL s 10)[0]? = some (ss0 s) := by unfold ss0 ssW; rw [List.getElem?_eq_getElem hlen]; rfl
  have z0 : (ss0 s).size ≤ 1048576 := by have := hsz _ (List.mem_of_getElem? q0); omega
  have hc0 := sp_l05Cut_eq (ss0 s) 2 ⟨z0, by omega, by omega⟩
  have hTd : cutN (ss0 s) 2 = ssT s := rfl
  rw [hTd] at hT hc0
  have hN := sp_l01Num_eq (ssN s) (by unfold ssN; rw [ByteArray.size_extract]; omega)
  have hG := sp_readGrS_eq (ssG s) (by unfold ssG; rw [ByteArray.size_extract]; omega)
  have dN : (ss0 s).extract 4 (ssT s).toNat = ssN s := rfl
  have dG : (ss0 s).extract ((ssT s).toNat + 1) (ss0 s).size = ssG s := rfl
  have eW : ssW s = splitL s 10 := rfl
  rw [eW] at hR hK
  generalize hW : splitL s 10 = W at *
  have r3 : ∀ n, ltL n (strsA W) = true := fun n => by rw [← flat_strs]; simp
  have rr : ∀ f, renL f (strsA W) = strsA W := fun f => by rw [← flat_strs]; simp
  have g0 : (strsA W)[0]? = some (.str (ss0 s)) := by simp [q0]
  generalize hS : strsA W = V at *
  generalize ss0 s = w0 at *
  generalize ssN s = wN at *
  generalize ssG s = wG at *
  generalize ssT s = T at *
  have hbad : ∀ {X : Prop}, True := trivial
  by_cases c1 : T < 4
  · have hk : ssK s = false := by rw [hK, decide_eq_true c1]; rfl
    rw [hk] at hR
    have hR : R = none := by rw [hR]; simp
    subst hR
    simp -dsimp -implicitDefEqProofs [c_spec_ReadSum, r_spec_ReadSum, hsp, rr, hlen, hleni, g0, hc0, c1, ssA]
  obtain ⟨a, rfl⟩ := Int.eq_ofNat_of_zero_le (show 0 ≤ T by omega)
  rw [Int.toNat_natCast] at dN dG
  have ha4 : 4 ≤ a := by omega
  have haz : a < w0.size := by omega
  have s4 : 4 ≤ w0.size := by omega
  cases c2 : (w0.extract 0 4 == sumWB) with
  | false =>
    have hk : ssK s = false := by rw [hK, c2]; simp
    rw [hk] at hR
    have hR : R = none := by rw [hR]; simp
    subst hR
    have c2' : (w0.extract 0 4 != (⟨#[115, 117, 109, 32]⟩ : ByteArray)) = true := by
      show (!(w0.extract 0 4 == sumWB)) = true
      rw [c2]; rfl
    simp -dsimp -implicitDefEqProofs [c_spec_ReadSum, r_spec_ReadSum, hsp, rr, hlen, hleni, g0, hc0, c1, s4, c2', ssA]
  | true =>
    have c2' : (w0.extract 0 4 != (⟨#[115, 117, 109, 32]⟩ : ByteArray)) = false := by
      show (!(w0.extract 0 4 == sumWB)) = false
      rw [c2]; rfl
    by_cases c3 : 66 < W.length
    · have c3i : (66 : Int) < W.length := by omega
      have hk : ssK s = false := by rw [hK, decide_eq_true c3]; simp
      rw [hk] at hR
      have hR : R = none := by rw [hR]; simp
      subst hR
      simp -dsimp -implicitDefEqProofs [c_spec_ReadSum, r_spec_ReadSum, hsp, rr, hlen, hleni, g0, hc0, c1, s4, c2', c3, c3i, ssA]
    have c3i : ¬ (66 : Int) < W.length := by omega
    have hk : ssK s = true := by rw [hK, decide_eq_false c1, decide_eq_false c3, c2]; rfl
    have hw1 : IntKind.wrap .i64 ((a : Int) + 1) = (a : Int) + 1 := wrapI64 (by omega) (by omega)
    have haz1 : a + 1 ≤ w0.size := by omega
    have haz2 : a ≤ w0.size := by omega
    have a4i : (4 : Int) ≤ (a : Int) := by omega
    have a1i : (0 : Int) ≤ (a : Int) + 1 := by omega
    cases c4 : l01B wN with
    | false =>
      rw [hk, c4] at hR
      have hR : R = none := by rw [hR]; simp
      subst hR
      rw [c4] at hN
      cases c5 : rsO wG with
      | none =>
        rw [c5] at hG
        simp -dsimp -implicitDefEqProofs [c_spec_ReadSum, r_spec_ReadSum, hsp, rr, hlen, hleni, g0, hc0, c1, s4, c2', c3, c3i, hw1, haz1, haz2, ha4, a4i, a1i, dN, dG, hN, hG, rgA, ssA]
      | some g =>
        obtain ⟨n, m⟩ := g
        rw [c5] at hG
        simp -dsimp -implicitDefEqProofs [c_spec_ReadSum, r_spec_ReadSum, hsp, rr, hlen, hleni, g0, hc0, c1, s4, c2', c3, c3i, hw1, haz1, haz2, ha4, a4i, a1i, dN, dG, hN, hG, rgA, ssA]
    | true =>
      rw [hk, c4, if_pos ⟨rfl, rfl⟩] at hR
      rw [c4] at hN
      cases c5 : rsO wG with
      | none =>
        rw [c5] at hG hR
        have hR : R = none := hR
        subst hR
        simp -dsimp -implicitDefEqProofs [c_spec_ReadSum, r_spec_ReadSum, hsp, rr, hlen, hleni, g0, hc0, c1, s4, c2', c3, c3i, hw1, haz1, haz2, ha4, a4i, a1i, dN, dG, hN, hG, rgA, ssA]
      | some g =>
        obtain ⟨n, m⟩ := g
        rw [c5] at hG hR
        rw [Option.bind_some] at hR
        have hnm : n ≤ 5 ∧ m < 1024 := rgO_lt (by rw [graph_same]; exact c5)
        generalize l01V wN = sz at *
        simp -dsimp -implicitDefEqProofs [c_spec_ReadSum, r_spec_ReadSum, hsp, rr, hlen, hleni, g0, hc0, c1, s4, c2', c3, c3i, hw1, haz1, haz2, ha4, a4i, a1i, dN, dG, hN, hG, rgA]
        have w2 : IntKind.wrap .i64 2 = 2 := rfl
        refine wpLoop_st (fun (q : Nat × List Tm) => ⟨tl [(0, .str s), (2, .ptr 0 0), (4, .ref 1 1 0 W.length .full), (8, .ptr 2 0), (10, .ptr 3 0), (11, .int .i64 ((q.1 : Int) + 1))], ⟨some [.int .i64 0, .int .u32 0, .int .i64 0, .sl [] true] :: some V :: some [.int .i64 n, .int .u32 m] :: some [.int .i64 n, .int .u32 m, .int .i64 sz, lvT 4 q.2] :: obT q.2⟩⟩) (fun q => q.1 + 1 ≤ W.length ∧ q.2.length = q.1 ∧ u32L q.2 ∧ goU n (W.drop (q.1 + 1)).dropLast q.2 = goU n W.tail.dropLast []) (fun q => W.length - q.1) (0, []) ⟨by simp only; omega, rfl, (fun x hx => (by cases hx)), (by simp)⟩ (Sub.keep (by simp [obT_nil]) (by simp [hsub, r3, rr, obT_nil, lvT_nil]) (by simp)) ?_
        rintro ⟨j, L⟩ ⟨hj, hLl, hu, hg⟩
        simp only at hj hLl hu hg
        have hwi : IntKind.wrap .i64 ((j : Int) + 1 + 1) = (j : Int) + 1 + 1 := wrapI64 (by omega) (by omega)
        have hv := sp_l05Ok_eq n m sz L ⟨by omega, by simp only [maxLen]; omega, hu⟩
        have ht : sumB n m sz L = true → sp_l05Text [.int .i64 n, .int .u32 m, .int .i64 sz, .sl (tmsA L) false] [] = some (.str (sumX n m sz L), [.int .i64 n, .int .u32 m, .int .i64 sz, .sl (tmsA L) false]) := fun hb => sp_l05Text_eq n m sz L (sumB_in hb (by omega) hu)
        by_cases hL : L = []
        · subst hL
          have l1 : 1 * 41 ≤ mostBytes := by decide
          simp -dsimp -implicitDefEqProofs [obT_nil, lvT_nil]
          refine brW_of (fun h => ?_) (fun h => ?_) <;> simp only [decide_eq_true_eq, decide_eq_false_iff_not] at h
          · have hx : j + 1 + 1 < W.length := by omega
            have hx1 : j + 1 < W.length := by omega
            have hxi : (j : Int) + 1 < W.length := by omega
            have hi0 : (0 : Int) ≤ (j : Int) + 1 := by omega
            have q1 : W[j + 1]? = some W[j + 1] := List.getElem?_eq_getElem hx1
            have gq : V[j + 1]? = some (.str W[j + 1]) := by rw [← hS]; simp [hx1]
            have hwsz := hsz _ (List.getElem_mem hx1)
            rw [dl_cons hx, goU] at hg
            generalize W[j + 1] = w at *
            have hc1 := sp_l05Cut_eq w 1 ⟨by omega, by omega, by omega⟩
            have hci := cutN_in w 1
            by_cases c6 : cutN w 1 < 0
            · have hls : lineS w = none := by unfold lineS; rw [if_pos c6]
              rw [hls] at hg
              rw [← hg] at hR
              have hR : R = none := hR
              subst hR
              simp -dsimp -implicitDefEqProofs [obT_nil, lvT_nil, hx1, hxi, hi0, gq, hc1, c6, ssA]
            · have hls : lineS w = if rdOk (w.extract 0 (cutN w 1).toNat) = true then (rsO (w.extract ((cutN w 1).toNat + 1) w.size)).bind fun g => some (g.1, g.2, rdP (w.extract 0 (cutN w 1).toNat), rdQ (w.extract 0 (cutN w 1).toNat)) else none := by unfold lineS; rw [if_neg c6]
              obtain ⟨k, hk2⟩ := Int.eq_ofNat_of_zero_le (show 0 ≤ cutN w 1 by omega)
              rw [hk2] at hc1 hci hls
              rw [Int.toNat_natCast] at hls
              have k1 : k ≤ w.size := by omega
              have k2 : k + 1 ≤ w.size := by omega
              have k3 : (0 : Int) ≤ (k : Int) + 1 := by omega
              have wk : IntKind.wrap .i64 ((k : Int) + 1) = (k : Int) + 1 := wrapI64 (by omega) (by omega)
              have hk0 : ¬ (k : Int) < 0 := by omega
              have hrd := sp_l02Read_eq (w.extract 0 k) (by rw [ByteArray.size_extract]; omega)
              have hgr := sp_readGrS_eq (w.extract (k + 1) w.size) (by rw [ByteArray.size_extract]; omega)
              cases hd : rdOk (w.extract 0 k) with
              | false =>
                rw [hd] at hls hrd
                rw [if_neg (by decide)] at hls
                rw [hls] at hg
                rw [← hg] at hR
                have hR : R = none := hR
                subst hR
                cases c7 : rsO (w.extract (k + 1) w.size) with
                | none =>
                  rw [c7] at hgr
                  simp -dsimp -implicitDefEqProofs [obT_nil, lvT_nil, hx1, hxi, hi0, gq, hc1, hk0, k1, k2, k3, wk, hrd, hgr, rgA, ssA]
                | some g2 =>
                  obtain ⟨n2, m2⟩ := g2
                  rw [c7] at hgr
                  simp -dsimp -implicitDefEqProofs [obT_nil, lvT_nil, hx1, hxi, hi0, gq, hc1, hk0, k1, k2, k3, wk, hrd, hgr, rgA, ssA]
              | true =>
                rw [hd] at hls hrd
                rw [if_pos rfl] at hls
                cases c7 : rsO (w.extract (k + 1) w.size) with
                | none =>
                  rw [c7] at hgr hls
                  rw [hls] at hg
                  rw [← hg] at hR
                  have hR : R = none := hR
                  subst hR
                  simp -dsimp -implicitDefEqProofs [obT_nil, lvT_nil, hx1, hxi, hi0, gq, hc1, hk0, k1, k2, k3, wk, hrd, hgr, rgA, ssA]
                | some g2 =>
                  obtain ⟨n2, m2⟩ := g2
                  have hnm2 : n2 ≤ 5 ∧ m2 < 1024 := rgO_lt (by rw [graph_same]; exact c7)
                  rw [c7] at hgr hls
                  rw [hls, Option.bind_some, Option.bind_some] at hg
                  generalize rdP (w.extract 0 k) = P at *
                  generalize rdQ (w.extract 0 k) = Q at *
                  have e5 : [(⟨n, n2, m2, P, Q⟩ : Tm)] ≠ [] := by simp
                  simp -dsimp -implicitDefEqProofs [obT_nil, lvT_nil, hx1, hxi, hi0, gq, hc1, hk0, k1, k2, k3, wk, hrd, hgr, rgA, hwi, l1]
                  refine .mk (j + 1, [⟨n, n2, m2, P, Q⟩]) ⟨by simp only; omega, by simp at hLl ⊢; omega, ?_, hg⟩ (by simp only; omega) (Sub.mk' (fun b => if b = 4 then 7 else b) (by simp [obT_cons e5]) (by intro b hb; simp [obT_cons e5] at hb <;> omega) (by first | rfl | (rw [obT_cons e5]; rfl)) (by simp [hsub, obT_cons e5, lvT_cons e5, r3, rr, flatA_cons]) (by simp [hwi]))
                  intro x hx'
                  obtain rfl := List.mem_singleton.1 hx'
                  simp only; omega
          · rw [dl_nil (by omega), goU] at hg
            rw [← hg, Option.bind_some] at hR
            simp -dsimp -implicitDefEqProofs [obT_nil, lvT_nil]
            refine ⟨_, Shift.noTerms, ?_⟩
            have hv : sp_l05Ok [.int .i64 n, .int .u32 m, .int .i64 sz, .sl [] false] [] = _ := hv
            have ht0 := ht
            have ht : sumB n m sz [] = true → sp_l05Text [.int .i64 n, .int .u32 m, .int .i64 sz, .sl [] false] [] = _ := ht
            cases hb : sumB n m sz [] with
            | false =>
              rw [hb] at hv
              have hR2 : R = none := by rw [hR, if_neg]; intro hF; rw [rsF, hb] at hF; exact absurd hF.1 (by decide)
              subst hR2
              simp -dsimp -implicitDefEqProofs [obT_nil, lvT_nil, hv, ssA]
            | true =>
              rw [hb] at hv
              have ht := ht hb
              have ht9 := ht0 hb
              cases hq : (sumX n m sz [] == s) with
              | false =>
                have hq' : (sumX n m sz [] != s) = true := by unfold bne; rw [hq]; rfl
                have hR2 : R = none := by rw [hR, if_neg]; intro hF; rw [rsF, hq] at hF; exact absurd hF.2 (by decide)
                subst hR2
                simp -dsimp -implicitDefEqProofs [obT_nil, lvT_nil, hv, ht, ht9, hq, hq', ssA]
              | true =>
                have hq' : (sumX n m sz [] != s) = false := by unfold bne; rw [hq]; rfl
                have hR2 : R = some ((n : Int), (m : Int), sz, []) := by rw [hR, if_pos]; exact ⟨hb, hq⟩
                subst hR2
                simp -dsimp -implicitDefEqProofs [obT_nil, lvT_nil, hv, ht, ht9, hq, hq', ssA]
        · have l1 : (L.length + 1) * 41 ≤ mostBytes := by simp only [mostBytes]; omega
          have l2 : ¬ ((L.length + 1) * 5 ≤ L.length * 5) := by omega
          have l3 : (flatA (tmsA L)).take (L.length * 5) = flatA (tmsA L) := List.take_of_length_le (by simp)
          simp -dsimp -implicitDefEqProofs [obT_cons hL, lvT_cons hL]
          refine brW_of (fun h => ?_) (fun h => ?_) <;> simp only [decide_eq_true_eq, decide_eq_false_iff_not] at h
          · have hx : j + 1 + 1 < W.length := by omega
            have hx1 : j + 1 < W.length := by omega
            have hxi : (j : Int) + 1 < W.length := by omega
            have hi0 : (0 : Int) ≤ (j : Int) + 1 := by omega
            have q1 : W[j + 1]? = some W[j + 1] := List.getElem?_eq_getElem hx1
            have gq : V[j + 1]? = some (.str W[j + 1]) := by rw [← hS]; simp [hx1]
            have hwsz := hsz _ (List.getElem_mem hx1)
            rw [dl_cons hx, goU] at hg
            generalize W[j + 1] = w at *
            have hc1 := sp_l05Cut_eq w 1 ⟨by omega, by omega, by omega⟩
            have hci := cutN_in w 1
            by_cases c6 : cutN w 1 < 0
            · have hls : lineS w = none := by unfold lineS; rw [if_pos c6]
              rw [hls] at hg
              rw [← hg] at hR
              have hR : R = none := hR
              subst hR
              simp -dsimp -implicitDefEqProofs [obT_cons hL, lvT_cons hL, hx1, hxi, hi0, gq, hc1, c6, ssA]
            · have hls : lineS w = if rdOk (w.extract 0 (cutN w 1).toNat) = true then (rsO (w.extract ((cutN w 1).toNat + 1) w.size)).bind fun g => some (g.1, g.2, rdP (w.extract 0 (cutN w 1).toNat), rdQ (w.extract 0 (cutN w 1).toNat)) else none := by unfold lineS; rw [if_neg c6]
              obtain ⟨k, hk2⟩ := Int.eq_ofNat_of_zero_le (show 0 ≤ cutN w 1 by omega)
              rw [hk2] at hc1 hci hls
              rw [Int.toNat_natCast] at hls
              have k1 : k ≤ w.size := by omega
              have k2 : k + 1 ≤ w.size := by omega
              have k3 : (0 : Int) ≤ (k : Int) + 1 := by omega
              have wk : IntKind.wrap .i64 ((k : Int) + 1) = (k : Int) + 1 := wrapI64 (by omega) (by omega)
              have hk0 : ¬ (k : Int) < 0 := by omega
              have hrd := sp_l02Read_eq (w.extract 0 k) (by rw [ByteArray.size_extract]; omega)
              have hgr := sp_readGrS_eq (w.extract (k + 1) w.size) (by rw [ByteArray.size_extract]; omega)
              cases hd : rdOk (w.extract 0 k) with
              | false =>
                rw [hd] at hls hrd
                rw [if_neg (by decide)] at hls
                rw [hls] at hg
                rw [← hg] at hR
                have hR : R = none := hR
                subst hR
                cases c7 : rsO (w.extract (k + 1) w.size) with
                | none =>
                  rw [c7] at hgr
                  simp -dsimp -implicitDefEqProofs [obT_cons hL, lvT_cons hL, hx1, hxi, hi0, gq, hc1, hk0, k1, k2, k3, wk, hrd, hgr, rgA, ssA]
                | some g2 =>
                  obtain ⟨n2, m2⟩ := g2
                  rw [c7] at hgr
                  simp -dsimp -implicitDefEqProofs [obT_cons hL, lvT_cons hL, hx1, hxi, hi0, gq, hc1, hk0, k1, k2, k3, wk, hrd, hgr, rgA, ssA]
              | true =>
                rw [hd] at hls hrd
                rw [if_pos rfl] at hls
                cases c7 : rsO (w.extract (k + 1) w.size) with
                | none =>
                  rw [c7] at hgr hls
                  rw [hls] at hg
                  rw [← hg] at hR
                  have hR : R = none := hR
                  subst hR
                  simp -dsimp -implicitDefEqProofs [obT_cons hL, lvT_cons hL, hx1, hxi, hi0, gq, hc1, hk0, k1, k2, k3, wk, hrd, hgr, rgA, ssA]
                | some g2 =>
                  obtain ⟨n2, m2⟩ := g2
                  have hnm2 : n2 ≤ 5 ∧ m2 < 1024 := rgO_lt (by rw [graph_same]; exact c7)
                  rw [c7] at hgr hls
                  rw [hls, Option.bind_some, Option.bind_some] at hg
                  have e2 := tmE_snoc L n n2 m2 (rdP (w.extract 0 k)) (rdQ (w.extract 0 k))
                  generalize rdP (w.extract 0 k) = P at *
                  generalize rdQ (w.extract 0 k) = Q at *
                  have e5 : L ++ [(⟨n, n2, m2, P, Q⟩ : Tm)] ≠ [] := by simp
                  simp -dsimp -implicitDefEqProofs [obT_cons hL, lvT_cons hL, hx1, hxi, hi0, gq, hc1, hk0, k1, k2, k3, wk, hrd, hgr, rgA, hwi, l1, l2, l3, e2]
                  refine .mk (j + 1, L ++ [⟨n, n2, m2, P, Q⟩]) ⟨by simp only; omega, by simp at hLl ⊢; omega, ?_, hg⟩ (by simp only; omega) (Sub.mk' (fun b => if b = 4 then 8 else b) (by simp [obT_cons e5]) (by intro b hb; simp [obT_cons e5] at hb <;> omega) (by first | rfl | (rw [obT_cons e5]; rfl)) (by simp [hsub, obT_cons e5, lvT_cons e5, r3, rr]) (by simp [hwi]))
                  intro x hx'
                  rcases List.mem_append.1 hx' with hx' | hx'
                  · exact hu x hx'
                  · obtain rfl := List.mem_singleton.1 hx'
                    simp only; omega
          · rw [dl_nil (by omega), goU] at hg
            rw [← hg, Option.bind_some] at hR
            simp -dsimp -implicitDefEqProofs [obT_cons hL, lvT_cons hL]
            refine ⟨_, Shift.terms, ?_⟩
            cases hb : sumB n m sz L with
            | false =>
              rw [hb] at hv
              have hR2 : R = none := by rw [hR, if_neg]; intro hF; rw [rsF, hb] at hF; exact absurd hF.1 (by decide)
              subst hR2
              simp -dsimp -implicitDefEqProofs [obT_cons hL, lvT_cons hL, hv, ssA]
            | true =>
              rw [hb] at hv
              have ht := ht hb
              cases hq : (sumX n m sz L == s) with
              | false =>
                have hq' : (sumX n m sz L != s) = true := by unfold bne; rw [hq]; rfl
                have hR2 : R = none := by rw [hR, if_neg]; intro hF; rw [rsF, hq] at hF; exact absurd hF.2 (by decide)
                subst hR2
                simp -dsimp -implicitDefEqProofs [obT_cons hL, lvT_cons hL, hv, ht, hq, hq', ssA]
              | true =>
                have hq' : (sumX n m sz L != s) = false := by unfold bne; rw [hq]; rfl
                have hR2 : R = some ((n : Int), (m : Int), sz, L) := by rw [hR, if_pos]; exact ⟨hb, hq⟩
                subst hR2
                simp -dsimp -implicitDefEqProofs [obT_cons hL, lvT_cons hL, hv, ht, hq, hq', ssA]
end Go.Proofs.YtgophedkejgedaaGreatDoorAi
end

section
/- Plain law: both readings of sums agree. -/
namespace Go.Proofs.YtgophedkejgedaaGreatDoorAi
open Go Go.RowKit
set_option linter.unusedVariables false
set_option linter.unusedSimpArgs false
set_option maxRecDepth 20000

/-! ### bytes -/
def geB (a : ByteArray) (m : Nat) : Prop := ∀ b ∈ a.data.toList, m ≤ b.toNat
theorem geB_app {a b : ByteArray} {m : Nat} (ha : geB a m) (hb : geB b m) : geB (a ++ b) m := by
  intro x hx
  rw [ByteArray.data_append, Array.toList_append] at hx
  rcases List.mem_append.1 hx with hx | hx
  · exact ha x hx
  · exact hb x hx
theorem geB_le {a : ByteArray} {m k : Nat} (h : geB a m) (hk : k ≤ m) : geB a k := fun b hb => Nat.le_trans hk (h b hb)
theorem geB_lacks {a : ByteArray} {m : Nat} (h : geB a m) {c : UInt8} (hc : c.toNat < m) : lacks a c := by
  intro b hb e
  subst e
  have := h b hb
  omega
theorem geB_dec (n : Int) : geB (decB n) 45 := by
  intro b hb
  have e : (decB n).data.toList = Go.Lib.itoa n := by simp [decB]
  rw [e] at hb
  unfold Go.Lib.itoa at hb
  split at hb
  · rcases List.mem_cons.1 hb with rfl | hb
    · decide
    · have := (decD_dig _ b hb).1; omega
  · have := (decD_dig _ b hb).1; omega
theorem geB_fr (p q : Int) : geB (frT p q) 45 := by
  unfold frT
  split
  · exact geB_dec p
  · exact geB_app (geB_app (geB_dec p) (by intro b hb; have : b = 47 := by simpa [slashB] using hb
                                           subst this; decide)) (geB_dec q)
theorem geB_sep : geB sepB 32 := by
  intro b hb
  have : b = 32 := by simpa [sepB] using hb
  subst this; decide
theorem geB_tail : ∀ (L : List Fr), geB (tailT L) 32
  | [] => by intro b hb; rw [tailT] at hb; simp [noB] at hb
  | x :: L => by
    rw [tailT]
    refine geB_app (geB_app geB_sep ?_) (geB_tail L)
    unfold edgeW
    exact geB_le (geB_app (geB_app (geB_dec _) (by intro b hb; have : b = 45 := by simpa [dashB] using hb
                                                   subst this; decide)) (geB_dec _)) (by omega)
theorem geB_gr (e : Int) (n : Nat) : geB (grT e n) 32 := by
  have eg : grT e n = graphB ++ (decB n ++ tailT (pairsE e n)) := by unfold grT; rw [edT_tail, ByteArray.append_assoc]
  rw [eg]
  refine geB_app ?_ (geB_app (geB_le (geB_dec _) (by omega)) (geB_tail _))
  unfold geB
  decide
/-! ### lines -/
def tlL (A : ByteArray) : List ByteArray → ByteArray
  | [] => A
  | x :: M => A ++ lineB ++ tlL x M
theorem pieces_lines : ∀ (M : List ByteArray) (A : ByteArray), lacks A 10 → (∀ x ∈ M, lacks x 10) → piecesB (tlL A M) lineB = A :: M
  | [], A, hA, _ => pieces_miss hA
  | x :: M, A, hA, hM => by
    have h1 := pieces_hit hA (tlL x M)
    have h2 := pieces_lines M x (hM x (List.mem_cons_self ..)) fun y hy => hM y (List.mem_cons_of_mem _ hy)
    have e : (⟨#[10]⟩ : ByteArray) = lineB := rfl
    rw [e, h2] at h1
    exact h1
theorem split_lines : ∀ (M : List ByteArray) (A : ByteArray), lacks A 10 → (∀ x ∈ M, lacks x 10) → splitL (tlL A M ++ lineB) 10 = (A :: M) ++ [noB]
  | [], A, hA, _ => by
    have h1 := splitL_hit hA noB
    have e10 : (((10 : UInt8).toNat : Nat) : Int) = 10 := rfl
    rw [e10, app_noB] at h1
    have h2 : splitL noB 10 = [noB] := by decide
    rw [h2] at h1
    exact h1
  | x :: M, A, hA, hM => by
    have h1 := splitL_hit hA (tlL x M ++ lineB)
    have h2 := split_lines M x (hM x (List.mem_cons_self ..)) fun y hy => hM y (List.mem_cons_of_mem _ hy)
    have e10 : (((10 : UInt8).toNat : Nat) : Int) = 10 := rfl
    rw [e10, h2] at h1
    have e : tlL A (x :: M) ++ lineB = A ++ ⟨#[10]⟩ ++ (tlL x M ++ lineB) := by
      show A ++ lineB ++ tlL x M ++ lineB = A ++ lineB ++ (tlL x M ++ lineB)
      simp only [ByteArray.append_assoc]
    rw [e, h1]; rfl
theorem csA_line (w : ByteArray) : csA (w ++ lineB) lineB = w := by
  unfold csA Go.Lib.trimSuffix
  have el : (w ++ lineB).data.toList = w.data.toList ++ [10] := by
    rw [ByteArray.data_append, Array.toList_append]; rfl
  have hs : Go.Lib.hasSuffix (w ++ lineB).data.toList lineB.data.toList = true := by
    unfold Go.Lib.hasSuffix
    rw [el]
    exact List.isSuffixOf_iff_suffix.2 (List.suffix_append _ _)
  rw [if_pos hs, el]
  have h1 : lineB.data.toList.length = 1 := rfl
  rw [h1, List.length_append, List.length_singleton, Nat.add_sub_cancel, List.take_left]
theorem cut_blank {A : ByteArray} (h : lacks A 32) (R : ByteArray) : cutA (A ++ sepB ++ R) sepB = A ∧ cutB (A ++ sepB ++ R) sepB = R := by
  have el : (A ++ sepB ++ R).data.toList = A.data.toList ++ 32 :: R.data.toList := by
    rw [ByteArray.data_append, ByteArray.data_append, Array.toList_append, Array.toList_append]
    simp [sepB]
  have hc : Go.Lib.cut (A ++ sepB ++ R).data.toList sepB.data.toList = (A.data.toList, R.data.toList, true) := by
    unfold Go.Lib.cut
    have hi : Go.Lib.index (A ++ sepB ++ R).data.toList sepB.data.toList = (A.data.toList).length := by
      rw [el]; exact index_atC 32 _ _ h
    rw [hi, if_pos (by omega), el]
    have hs : sepB.data.toList.length = 1 := rfl
    rw [hs, Int.toNat_natCast]
    generalize A.data.toList = la
    generalize R.data.toList = lb
    simp
  unfold cutA cutB
  rw [hc]
  exact ⟨ba_back A, ba_back R⟩
theorem cutF_skip (s : ByteArray) (k : Nat) (n : Int) : ∀ (m i : Nat), (∀ j, i ≤ j → j < i + m → bAt s j ≠ 32) → cutF s (m + k) i n = cutF s k (i + m) n
  | 0, i, _ => by rw [Nat.zero_add, Nat.add_zero]
  | m + 1, i, h => by
    rw [show m + 1 + k = (m + k) + 1 by omega, cutF, if_neg (h i (by omega) (by omega)), cutF_skip s k n m (i + 1) (fun j h1 h2 => h j (by omega) (by omega)), show i + 1 + m = i + (m + 1) by omega]
/-- The blank behind a text without blanks. -/
theorem cutF_at {A R : ByteArray} (h : lacks A 32) (P : ByteArray) (n : Int) : cutF (P ++ (A ++ sepB ++ R)) (A.size + (R.size + 1)) P.size n = if n - 1 = 0 then ((P.size + A.size : Nat) : Int) else cutF (P ++ (A ++ sepB ++ R)) R.size (P.size + A.size + 1) (n - 1) := by
  have hb : ∀ j, bAt (P ++ (A ++ sepB ++ R)) (P.size + j) = bAt (A ++ sepB ++ R) j := fun j => bAt_right P _ j
  rw [cutF_skip _ (R.size + 1) n A.size P.size (fun j h1 h2 => by
    obtain ⟨k, rfl⟩ : ∃ k, j = P.size + k := ⟨j - P.size, by omega⟩
    rw [hb, ByteArray.append_assoc, bAt_left A _ k (by omega)]
    exact lacks_bAt h k (by omega)), cutF]
  have hz : bAt (P ++ (A ++ sepB ++ R)) (P.size + A.size) = 32 := by
    have h1 := hb A.size
    rw [h1, ByteArray.append_assoc]
    have h2 := bAt_right A (sepB ++ R) 0
    rw [Nat.add_zero] at h2
    rw [h2, bAt_left sepB R 0 (by decide)]; rfl
  rw [if_pos hz]
theorem cutN_one {A R : ByteArray} (h : lacks A 32) : cutN (A ++ sepB ++ R) 1 = A.size := by
  have h1 := cutF_at (R := R) h noB 1
  have e : noB ++ (A ++ sepB ++ R) = A ++ sepB ++ R := by apply ByteArray.ext; simp [noB]
  have hz : noB.size = 0 := rfl
  have hsz : (A ++ sepB ++ R).size = A.size + (R.size + 1) := by
    rw [ByteArray.size_append, ByteArray.size_append]; have : sepB.size = 1 := rfl
    omega
  rw [e, hz, ← hsz, if_pos (by omega), Nat.zero_add] at h1
  exact h1
theorem ext_cut {A R : ByteArray} : (A ++ sepB ++ R).extract 0 A.size = A ∧ (A ++ sepB ++ R).extract (A.size + 1) (A ++ sepB ++ R).size = R := by
  constructor
  · rw [ByteArray.append_assoc]; exact ext_left _ _
  · have := ext_right (A ++ sepB) R
    rw [ByteArray.size_append (a := A), show sepB.size = 1 from rfl] at this
    exact this
/-! ### terms -/
def tmL (x : Tm) : ByteArray := frT x.p x.q ++ sepB ++ grT x.e x.n.toNat
theorem tmL_lacks (x : Tm) : lacks (tmL x) 10 := geB_lacks (m := 32) (geB_app (geB_app (geB_le (geB_fr _ _) (by omega)) geB_sep) (geB_gr _ _)) (by decide)
def tmOk (tn : Int) (x : Tm) : Prop := TmIn x ∧ x.k = tn ∧ 0 ≤ x.n
theorem tm_eq {tn : Int} {x : Tm} (h : tmOk tn x) : (⟨tn, (x.n.toNat : Int), (x.e.toNat : Int), x.p, x.q⟩ : Tm) = x := by
  obtain ⟨⟨_, _, he⟩, hk, hn⟩ := h
  have e1 : (x.n.toNat : Int) = x.n := by omega
  have e2 : (x.e.toNat : Int) = x.e := by omega
  rw [e1, e2, ← hk]
theorem gr_reads {x : Tm} (h : TmIn x) (hn : 0 ≤ x.n) : rgO (grT x.e x.n.toNat) = some (x.n.toNat, x.e.toNat) := by
  have e1 : (x.n.toNat : Int) = x.n := by omega
  have e2 : (x.e.toNat : Int) = x.e := by have := h.2.2; omega
  have := (reads_graph (n := x.n.toNat) (m := x.e.toNat) (by rw [e1, e2]; exact h.2.1)).1
  rw [e2] at this
  exact this
theorem lineI_tm {tn : Int} {x : Tm} (h : tmOk tn x) : lineI (tmL x) = some (x.n.toNat, x.e.toNat, x.p, x.q) := by
  obtain ⟨h1, hk, hn⟩ := h
  obtain ⟨c1, c2⟩ := cut_blank (geB_lacks (geB_fr x.p x.q) (c := 32) (by decide)) (grT x.e x.n.toNat)
  have hr := impl_reads h1.1
  have hok : readOk (frT x.p x.q) = true := by
    unfold readOk
    rw [hr.1, hr.2.1, hr.2.2.1, hr.2.2.2, h1.1, beq_ba]; rfl
  unfold lineI tmL
  rw [c1, c2, gr_reads h1 hn, Option.bind_some, if_pos hok, hr.1, hr.2.1]
theorem lineS_tm {tn : Int} {x : Tm} (h : tmOk tn x) : lineS (tmL x) = some (x.n.toNat, x.e.toNat, x.p, x.q) := by
  obtain ⟨h1, hk, hn⟩ := h
  have hc := cutN_one (R := grT x.e x.n.toNat) (geB_lacks (geB_fr x.p x.q) (c := 32) (by decide))
  obtain ⟨c1, c2⟩ := ext_cut (A := frT x.p x.q) (R := grT x.e x.n.toNat)
  have hr := spec_reads h1.1
  have ef : fracT x.p x.q = frT x.p x.q := by unfold fracT; rw [if_pos h1.1]
  have hok : rdOk (frT x.p x.q) = true := by
    unfold rdOk
    rw [hr.1, hr.2.1, hr.2.2.1, hr.2.2.2, h1.1, ef, beq_ba]; rfl
  have hg := gr_reads h1 hn
  rw [graph_same] at hg
  unfold lineS tmL
  rw [hc, if_neg (by omega), Int.toNat_natCast, c1, c2, if_pos hok, hg, Option.bind_some, hr.1, hr.2.1]
theorem goT_all {tn : Int} : ∀ (M : List Tm) (i : Nat) (acc : List Tm), (∀ x ∈ M, tmOk tn x) → i + M.length ≤ 65 → goT tn (M.map tmL) i acc = some (acc ++ M)
  | [], i, acc, _, _ => by simp [goT]
  | x :: M, i, acc, h, hl => by
    rw [List.length_cons] at hl
    rw [List.map_cons, goT, if_neg (by omega), lineI_tm (h x (List.mem_cons_self ..)), Option.bind_some, tm_eq (h x (List.mem_cons_self ..)), goT_all M (i + 1) _ (fun y hy => h y (List.mem_cons_of_mem _ hy)) (by omega)]
    simp
theorem goU_all {tn : Int} : ∀ (M : List Tm) (acc : List Tm), (∀ x ∈ M, tmOk tn x) → goU tn (M.map tmL) acc = some (acc ++ M)
  | [], acc, _ => by simp [goU]
  | x :: M, acc, h => by
    rw [List.map_cons, goU, lineS_tm (h x (List.mem_cons_self ..)), Option.bind_some, tm_eq (h x (List.mem_cons_self ..)), goU_all M _ fun y hy => h y (List.mem_cons_of_mem _ hy)]
    simp
theorem tmsW_lines : ∀ (M : List Tm) (A : ByteArray), tmsW (A ++ lineB) M = tlL A (M.map tmL) ++ lineB
  | [], A => rfl
  | x :: M, A => by
    show tmsW (A ++ lineB ++ tmT x) M = A ++ lineB ++ tlL (tmL x) (M.map tmL) ++ lineB
    have e : A ++ lineB ++ tmT x = (A ++ lineB ++ tmL x) ++ lineB := by
      unfold tmT tmL; simp only [ByteArray.append_assoc]
    have e2 : ∀ (B C : ByteArray) (K : List ByteArray), tlL (B ++ C) K = B ++ tlL C K := by
      intro B C K
      cases K with
      | nil => rfl
      | cons y K => simp only [tlL, ByteArray.append_assoc]
    rw [e, tmsW_lines M, e2]
/-! ### agreement -/
def sum3B : ByteArray := ⟨#[115, 117, 109]⟩
theorem reads_sum {n m : Nat} {sz : Int} {L : List Tm} (hb : sumB n m sz L = true) (hm : m ≤ 4294967295) (hu : u32L L) :
    isO (sumX n m sz L) = some ((n : Int), (m : Int), sz, L) ∧ ssO (sumX n m sz L) = some ((n : Int), (m : Int), sz, L) := by
  obtain ⟨⟨hte, hg⟩, hs, hl, hr⟩ := sumB_in hb (by omega) hu
  have hok : ∀ x ∈ L, tmOk n x := by
    intro x hx
    have hxi := hr x hx
    obtain ⟨i, hi, rfl⟩ := List.getElem_of_mem hx
    obtain ⟨_, h4⟩ := sumB_P hb
    have h5 := (h4 i hi hi).1
    unfold termB at h5
    simp only [Bool.and_eq_true] at h5
    have h6 := h5.2.1
    unfold fitTB at h6
    simp only [Bool.and_eq_true, beq_iff_eq] at h6
    exact ⟨hxi, h6.2.1, (graphOk_in hxi.2.1).1⟩
  have hrF : rsF (sumX n m sz L) n m sz L := ⟨hb, beq_ba _⟩
  have hG := reads_graph hg
  have hd32 : lacks (decB sz) 32 := decB_lacks hs.1 (by decide)
  have hnum := num_dec sz (by omega) (by omega)
  have hl01 := l01_dec sz (by omega) (by omega)
  have hsx : sumX n m sz L = tlL (sumWB ++ decB sz ++ sepB ++ grT m n) (L.map tmL) ++ lineB := by
    unfold sumX
    rw [Int.toNat_natCast, tmsW_lines]
  have hdl : lacks (sumWB ++ decB sz ++ sepB ++ grT m n) 10 := by
    refine geB_lacks (m := 32) (geB_app (geB_app (geB_app ?_ (geB_le (geB_dec _) (by omega))) geB_sep) (geB_gr _ _)) (by decide)
    unfold geB; decide
  have hLl : ∀ x ∈ L.map tmL, lacks x 10 := by
    intro x hx
    obtain ⟨y, _, rfl⟩ := List.mem_map.1 hx
    exact tmL_lacks y
  have ehd : sumWB ++ decB sz ++ sepB ++ grT m n = sumWB ++ (decB sz ++ sepB ++ grT m n) := by simp only [ByteArray.append_assoc]
  generalize hS : sumX n m sz L = s at *
  constructor
  · have eW : rsW s = (sumWB ++ decB sz ++ sepB ++ grT m n) :: L.map tmL := by
      unfold rsW
      rw [hsx, csA_line]
      exact pieces_lines _ _ hdl hLl
    have eH : rsH s = decB sz ++ sepB ++ grT m n := by
      unfold rsH
      rw [eW]
      show cpA (sumWB ++ decB sz ++ sepB ++ grT m n) sumWB = _
      rw [ehd]
      have el : (sumWB ++ (decB sz ++ sepB ++ grT m n)).data.toList = sumWB.data.toList ++ (decB sz ++ sepB ++ grT m n).data.toList := by
        rw [ByteArray.data_append, Array.toList_append]
      have hp : Go.Lib.hasPrefix (sumWB ++ (decB sz ++ sepB ++ grT m n)).data.toList sumWB.data.toList = true := by
        unfold Go.Lib.hasPrefix
        rw [el]; exact List.isPrefixOf_iff_prefix.2 (List.prefix_append _ _)
      unfold cpA Go.Lib.trimPrefix
      rw [if_pos hp, el, List.drop_left]
    obtain ⟨c1, c2⟩ := cut_blank hd32 (grT m n)
    unfold isO
    rw [eH, eW, c1, c2, hG.1, Option.bind_some, List.tail_cons, goT_all L 1 [] hok (by omega), Option.bind_some, hnum.1, List.nil_append, if_pos hrF]
  · have eW : ssW s = ((sumWB ++ decB sz ++ sepB ++ grT m n) :: L.map tmL) ++ [noB] := by
      unfold ssW
      rw [hsx]
      exact split_lines _ _ hdl hLl
    have e0 : ss0 s = sumWB ++ decB sz ++ sepB ++ grT m n := by unfold ss0; rw [eW]; rfl
    have sW : sumWB = sum3B ++ sepB := by apply ByteArray.ext; rfl
    have hT : ssT s = ((4 + (decB sz).size : Nat) : Int) := by
      unfold ssT cutN
      rw [e0]
      have h1 := cutF_at (A := sum3B) (R := decB sz ++ sepB ++ grT m n) (geB_lacks (m := 33) (by unfold geB; decide) (by decide)) noB 2
      have h2 := cutF_at (A := decB sz) (R := grT m n) hd32 sumWB 1
      have z3 : sum3B.size = 3 := rfl
      have z4 : sumWB.size = 4 := rfl
      have zs : sepB.size = 1 := rfl
      have zn : noB.size = 0 := rfl
      have ea : noB ++ (sum3B ++ sepB ++ (decB sz ++ sepB ++ grT m n)) = sumWB ++ (decB sz ++ sepB ++ grT m n) := by
        rw [← sW]; apply ByteArray.ext; simp [noB]
      rw [ea, zn, z3, if_neg (by decide)] at h1
      rw [z4, if_pos (by decide)] at h2
      have hsz : (sumWB ++ (decB sz ++ sepB ++ grT m n)).size = 3 + ((decB sz ++ sepB ++ grT m n).size + 1) := by
        rw [ByteArray.size_append, z4]; omega
      have hsz2 : (decB sz ++ sepB ++ grT m n).size = (decB sz).size + ((grT m n).size + 1) := by
        rw [ByteArray.size_append, ByteArray.size_append, zs]; omega
      rw [ehd, hsz, h1, hsz2]
      exact h2
    have hN : ssN s = decB sz := by
      unfold ssN
      rw [hT, e0, ehd, Int.toNat_natCast]
      have := ext_shift sumWB (decB sz ++ sepB ++ grT m n) 0 (decB sz).size
      rw [show sumWB.size = 4 from rfl] at this
      rw [Nat.add_zero] at this
      rw [this]
      exact (ext_cut (A := decB sz) (R := grT m n)).1
    have hGG : ssG s = grT m n := by
      unfold ssG
      rw [hT, e0, Int.toNat_natCast]
      have := (ext_cut (A := sumWB ++ decB sz) (R := grT m n)).2
      rw [ByteArray.size_append (a := sumWB), show sumWB.size = 4 from rfl] at this
      exact this
    have hK : ssK s = true := by
      have d1 : decide (ssT s < 4) = false := decide_eq_false (by rw [hT]; omega)
      have d2 : ((ss0 s).extract 0 4 == sumWB) = true := by
        rw [e0, ehd]
        have := ext_left sumWB (decB sz ++ sepB ++ grT m n)
        rw [show sumWB.size = 4 from rfl] at this
        rw [this, beq_ba]
      have d3 : decide (66 < (ssW s).length) = false := decide_eq_false (by rw [eW]; simp; omega)
      unfold ssK
      rw [d1, d2, d3]; rfl
    unfold ssO
    rw [if_pos ⟨hK, by rw [hN]; exact hl01.2⟩, hGG, hG.2, Option.bind_some, eW]
    have et : (((sumWB ++ decB sz ++ sepB ++ grT m n) :: L.map tmL) ++ [noB]).tail.dropLast = L.map tmL := by simp
    rw [et, goU_all L [] hok, Option.bind_some, hN, hl01.1, List.nil_append, if_pos hrF]
theorem goT_u32 {tn : Int} : ∀ (W : List ByteArray) (i : Nat) (acc L : List Tm), u32L acc → goT tn W i acc = some L → u32L L
  | [], i, acc, L, ha, h => by
    rw [goT] at h; injection h with h; subst h; exact ha
  | w :: r, i, acc, L, ha, h => by
    rw [goT] at h
    split at h
    · cases h
    · cases hl : lineI w with
      | none => rw [hl] at h; cases h
      | some x =>
        rw [hl, Option.bind_some] at h
        refine goT_u32 r (i + 1) _ L ?_ h
        intro y hy
        rcases List.mem_append.1 hy with hy | hy
        · exact ha y hy
        · obtain rfl := List.mem_singleton.1 hy
          unfold lineI at hl
          cases hg : rgO (cutB w sepB) with
          | none => rw [hg] at hl; cases hl
          | some g =>
            have := rgO_lt hg
            rw [hg, Option.bind_some] at hl
            split at hl
            · injection hl with hl
              subst hl
              simp only; omega
            · cases hl
theorem goU_u32 {tn : Int} : ∀ (W : List ByteArray) (acc L : List Tm), u32L acc → goU tn W acc = some L → u32L L
  | [], acc, L, ha, h => by
    rw [goU] at h; injection h with h; subst h; exact ha
  | w :: r, acc, L, ha, h => by
    rw [goU] at h
    cases hl : lineS w with
    | none => rw [hl] at h; cases h
    | some x =>
      rw [hl, Option.bind_some] at h
      refine goU_u32 r _ L ?_ h
      intro y hy
      rcases List.mem_append.1 hy with hy | hy
      · exact ha y hy
      · obtain rfl := List.mem_singleton.1 hy
        unfold lineS at hl
        split at hl
        · cases hl
        · split at hl
          · cases hg : rsO (w.extract ((cutN w 1).toNat + 1) w.size) with
            | none => rw [hg] at hl; cases hl
            | some g =>
              have := rgO_lt (s := w.extract ((cutN w 1).toNat + 1) w.size) (n := g.1) (m := g.2) (by rw [graph_same]; exact hg)
              rw [hg, Option.bind_some] at hl
              injection hl with hl
              subst hl
              simp only; omega
          · cases hl
theorem isO_in {s : ByteArray} {x : Int × Int × Int × List Tm} (h : isO s = some x) : ∃ (n m : Nat) (sz : Int) (L : List Tm), x = ((n : Int), (m : Int), sz, L) ∧ m ≤ 4294967295 ∧ u32L L ∧ rsF s n m sz L := by
  unfold isO at h
  cases hg : rgO (cutB (rsH s) sepB) with
  | none => rw [hg] at h; cases h
  | some g =>
    have := rgO_lt hg
    rw [hg, Option.bind_some] at h
    cases hL : goT g.1 (rsW s).tail 1 [] with
    | none => rw [hL] at h; cases h
    | some L =>
      rw [hL, Option.bind_some] at h
      split at h
      · rename_i hF
        injection h with h
        exact ⟨g.1, g.2, _, L, h.symm, by omega, goT_u32 _ _ _ L (fun x hx => (by cases hx)) hL, hF⟩
      · cases h
theorem ssO_in {s : ByteArray} {x : Int × Int × Int × List Tm} (h : ssO s = some x) : ∃ (n m : Nat) (sz : Int) (L : List Tm), x = ((n : Int), (m : Int), sz, L) ∧ m ≤ 4294967295 ∧ u32L L ∧ rsF s n m sz L := by
  unfold ssO at h
  split at h
  · cases hg : rsO (ssG s) with
    | none => rw [hg] at h; cases h
    | some g =>
      have := rgO_lt (s := ssG s) (n := g.1) (m := g.2) (by rw [graph_same]; exact hg)
      rw [hg, Option.bind_some] at h
      cases hL : goU g.1 (ssW s).tail.dropLast [] with
      | none => rw [hL] at h; cases h
      | some L =>
        rw [hL, Option.bind_some] at h
        split at h
        · rename_i hF
          injection h with h
          exact ⟨g.1, g.2, _, L, h.symm, by omega, goU_u32 _ _ L (fun x hx => (by cases hx)) hL, hF⟩
        · cases h
  · cases h
theorem sum_same (s : ByteArray) : isO s = ssO s := by
  cases h1 : isO s with
  | some x =>
    obtain ⟨n, m, sz, L, rfl, hm, hu, hF⟩ := isO_in h1
    have e := hF.2
    rw [ba_eq, decide_eq_true_eq] at e
    have := reads_sum hF.1 hm hu
    rw [e] at this
    exact this.2.symm
  | none =>
    cases h2 : ssO s with
    | none => rfl
    | some x =>
      obtain ⟨n, m, sz, L, rfl, hm, hu, hF⟩ := ssO_in h2
      have e := hF.2
      rw [ba_eq, decide_eq_true_eq] at e
      have := reads_sum hF.1 hm hu
      rw [e, h1] at this
      cases this.1
end Go.Proofs.YtgophedkejgedaaGreatDoorAi
end

section
/- Contracts: marks in sums. -/
namespace Go.Proofs.YtgophedkejgedaaGreatDoorAi
open Go Go.RowKit
set_option linter.unusedVariables false
set_option linter.unusedSimpArgs false
set_option maxRecDepth 20000

def marksT : Nat → Int → List Tm
  | 0, _ => []
  | n + 1, k => ⟨k, k + 1, k + 1 + 1, k + 1 + 1 + 1, k + 1 + 1 + 1 + 1⟩ :: marksT n (k + 5)
@[simp] theorem marksT_len : ∀ (n : Nat) (k : Int), (marksT n k).length = n
  | 0, _ => rfl
  | n + 1, k => by simp [marksT, marksT_len n]
theorem marksT_get : ∀ (n : Nat) (k : Int) (i : Nat) (h : i < (marksT n k).length), (marksT n k)[i] = ⟨k + 5 * i, k + 5 * i + 1, k + 5 * i + 1 + 1, k + 5 * i + 1 + 1 + 1, k + 5 * i + 1 + 1 + 1 + 1⟩
  | 0, _, i, h => by simp [marksT] at h
  | n + 1, k, 0, h => by simp [marksT]
  | n + 1, k, i + 1, h => by
    simp only [marksT, List.getElem_cons_succ]
    rw [marksT_get n (k + 5) i]
    simp only [Tm.mk.injEq]
    omega
@[simp] theorem marksT_inj (n n' : Nat) (k k' : Int) : marksT n k = marksT n' k' ↔ n = n' ∧ (n = 0 ∨ k = k') := by
  constructor
  · intro h
    have hn : n = n' := by have := congrArg List.length h; simpa using this
    subst hn
    refine ⟨rfl, ?_⟩
    cases n with
    | zero => exact .inl rfl
    | succ n =>
      right
      simp only [marksT, List.cons.injEq, Tm.mk.injEq] at h
      exact h.1.1
  · rintro ⟨rfl, h⟩
    rcases h with h | h
    · subst h; rfl
    · subst h; rfl
theorem step_gen {α : Type} (M ps : List α) (i : Nat) (h : i < ps.length) (hl : M.length = ps.length) : (M.take i ++ ps.drop i).set i (M[i]'(by omega)) = M.take (i + 1) ++ ps.drop (i + 1) := by
  have hm : (M.take i).length = i := by simp; omega
  rw [List.set_append_right _ _ (by omega), hm, Nat.sub_self, List.drop_eq_getElem_cons h, List.set_cons_zero, List.take_succ_eq_append_getElem (by omega), List.append_assoc]
  rfl
theorem set_tm (l : List Tm) (i : Nat) (a b c d e : Int) (h : i < l.length) : (((((flatA (mapA tmA l)).set (i * 5) (.int .i64 a)).set (i * 5 + 1) (.int .i64 b)).set (i * 5 + 1 + 1) (.int .u32 c)).set (i * 5 + 3) (.int .i64 d)).set (i * 5 + 3 + 1) (.int .i64 e) = flatA (mapA tmA (l.set i ⟨a, b, c, d, e⟩)) := flatA_set (f := tmA) l i ⟨a, b, c, d, e⟩ h
noncomputable def sp_markT : List (Option (List AV)) → List AV → Option (AV × List (Option (List AV))) := pv (pf (ι := (List Tm) × (Int) × (Cp)) (α := AV × List (Option (List AV))) (fun ⟨ps, k, t⟩ => (0 ≤ k ∧ k ≤ 1000) ∧ ps.length ≤ 64) (fun i => .agg (((fun ⟨ps, k, t⟩ => [some (flatA (tmsA ps))] : (List Tm) × (Int) × (Cp) → List (Option (List AV))) i).map enO) :: (fun ⟨ps, k, t⟩ => [.ref 0 5 0 ps.length t, .int .i64 k] : (List Tm) × (Int) × (Cp) → List AV) i) (fun ⟨ps, k, t⟩ => (.int .i64 (k + 5 * ps.length), [some (flatA (tmsA (marksT ps.length k)))])))
theorem sp_markT_eq (ps : List Tm) (k : Int) (t : Cp) (h : (0 ≤ k ∧ k ≤ 1000) ∧ ps.length ≤ 64) : sp_markT [some (flatA (tmsA ps))] [.ref 0 5 0 ps.length t, .int .i64 k] = some (.int .i64 (k + 5 * ps.length), [some (flatA (tmsA (marksT ps.length k)))]) := by
  unfold sp_markT pv
  exact pf_eq (ι := (List Tm) × (Int) × (Cp)) (α := AV × List (Option (List AV))) (ps, k, t) h (by rintro ⟨ps', k', t'⟩ _ e; simp_all [enO, Int.natCast_inj])
set_option maxHeartbeats 1000000 in
theorem v_laws_markTermS : QV PP 61 sp_markT := by
  refine QV_pf fun i h => ?_
  obtain ⟨ps, k, t⟩ := i
  replace h : (0 ≤ k ∧ k ≤ 1000) ∧ ps.length ≤ 64 := h
  refine H_code Quiet.nil hmix k_laws_markTermS rfl (fun b => b) (by simp [AHeap.n]) (fun _ _ => rfl) (by rfl) (by first | rfl | simp) ?_
  show wpc _ PP _ c_laws_markTermS (initSt [.ref 0 5 0 ps.length t, .int .i64 k] ⟨[some (flatA (tmsA ps))]⟩) (endH (fun b => b) r_laws_markTermS (.int .i64 (k + 5 * ps.length)) [some (flatA (tmsA (marksT ps.length k)))])
  obtain ⟨hk, hl⟩ := h
  simp -dsimp -implicitDefEqProofs [c_laws_markTermS, r_laws_markTermS]
  refine wpLoop_st (fun (i : Nat × List Tm) => ⟨tl [(0, .ref 0 5 0 ps.length t), (1, .int .i64 (k + 5 * i.1)), (5, .int .i64 i.1)], ⟨[some (flatA (tmsA i.2))]⟩⟩) (fun i => i.1 ≤ ps.length ∧ i.2.length = ps.length ∧ i.2 = (marksT ps.length k).take i.1 ++ ps.drop i.1) (fun i => ps.length - i.1) (0, ps) ⟨by simp, rfl, by simp⟩ (Sub.keep (by simp) (by simp [hsub]) (by simp)) ?_
  rintro ⟨i, L⟩ ⟨h1, h2, h3⟩
  simp only at h1 h2 h3
  simp -dsimp -implicitDefEqProofs
  refine brW_of (fun h => ?_) (fun h => ?_) <;> simp only [decide_eq_true_eq, decide_eq_false_iff_not] at h
  · have hi : i < ps.length := by simpa using h
    have w1 : IntKind.i64.wrap (k + 5 * (i : Int) + 1) = k + 5 * i + 1 := wrapI64 (by omega) (by omega)
    have w2 : IntKind.i64.wrap (k + 5 * (i : Int) + 1 + 1) = k + 5 * i + 1 + 1 := wrapI64 (by omega) (by omega)
    have w3 : IntKind.i64.wrap (k + 5 * (i : Int) + 1 + 1 + 1) = k + 5 * i + 1 + 1 + 1 := wrapI64 (by omega) (by omega)
    have w4 : IntKind.i64.wrap (k + 5 * (i : Int) + 1 + 1 + 1 + 1) = k + 5 * i + 1 + 1 + 1 + 1 := wrapI64 (by omega) (by omega)
    have w5 : IntKind.i64.wrap (k + 5 * (i : Int) + 1 + 1 + 1 + 1 + 1) = k + 5 * i + 1 + 1 + 1 + 1 + 1 := wrapI64 (by omega) (by omega)
    have wu : IntKind.u32.wrap (k + 5 * (i : Int) + 1 + 1) = k + 5 * i + 1 + 1 := wrap32 (by omega) (by omega)
    have hw := wrapNat (i := i) (by omega)
    have f1 : i * 5 + 1 ≤ L.length * 5 := by omega
    have f2 : i * 5 + 1 + 1 ≤ L.length * 5 := by omega
    have f3 : i * 5 + 1 + 1 + 1 ≤ L.length * 5 := by omega
    have f4 : i * 5 + 3 + 1 ≤ L.length * 5 := by omega
    have f5 : i * 5 + 3 + 1 + 1 ≤ L.length * 5 := by omega
    have hs := set_tm L i (k + 5 * i) (k + 5 * i + 1) (k + 5 * i + 1 + 1) (k + 5 * i + 1 + 1 + 1) (k + 5 * i + 1 + 1 + 1 + 1) (by omega)
    simp -dsimp -implicitDefEqProofs [hi, w1, w2, w3, w4, w5, wu, hw, f1, f2, f3, f4, f5, hs]
    refine .mk (i + 1, L.set i ⟨k + 5 * i, k + 5 * i + 1, k + 5 * i + 1 + 1, k + 5 * i + 1 + 1 + 1, k + 5 * i + 1 + 1 + 1 + 1⟩) ⟨by simp only; omega, by simp [h2], ?_⟩ (by simp only; omega) (Sub.keep (by simp) (by simp [hsub]) (by simp [w5, hw]; omega))
    simp only
    rw [h3]
    have hg := marksT_get ps.length k i (by simpa using hi)
    rw [← hg]
    exact step_gen (marksT ps.length k) ps i hi (by simp)
  · have hi : i = ps.length := by simp at h; omega
    subst hi
    have h3 : L = marksT ps.length k := by
      rw [h3, List.drop_length, List.append_nil, List.take_of_length_le (by simp)]
    subst h3
    simp -dsimp -implicitDefEqProofs [hsub]
noncomputable def sp_markT0 : List AV → Option (AV) := pf (ι := (Int)) (α := AV) (fun k => True) (fun k => [.sl [] false, .int .i64 k]) (fun k => .int .i64 k)
theorem sp_markT0_eq (k : Int) : sp_markT0 [.sl [] false, .int .i64 k] = some (.int .i64 k) := by
  unfold sp_markT0
  exact pf_eq (ι := (Int)) (α := AV) k trivial (by rintro k' _ e; simp_all [Int.natCast_inj])
attribute [simp] sp_markT0_eq
theorem q_laws_markTermS : QP PP 61 sp_markT0 := by
  refine QP_pf (fun k h => ?_) fun k h => ?_
  · exact ⟨by first | rfl | simp, by first | rfl | simp⟩
  replace h : True := h
  refine P_code Quiet.nil hmix k_laws_markTermS rfl ?_ ?_
  · first | rfl | simp
  show wpc 0 PP _ c_laws_markTermS (initSt [.sl [] false, .int .i64 k] .nil) (endP r_laws_markTermS (.int .i64 k))
  simp -dsimp -implicitDefEqProofs [c_laws_markTermS, r_laws_markTermS]
  refine wpLoop_st (fun (_ : Unit) => ⟨tl [(0, .sl [] false), (1, .int .i64 k), (5, .int .i64 0)], ⟨[]⟩⟩) (fun _ => True) (fun _ => 0) () trivial (Sub.keep (by simp) (by simp [hsub]) (by simp)) ?_
  intro _ _
  simp -dsimp -implicitDefEqProofs
theorem e_laws_markTermS : QE PP 61 (refE (spV sp_markT) (spR sp_markT0)) := QE.ref v_laws_markTermS.toE q_laws_markTermS.toR
noncomputable def sp_heldT : List AV → Option (AV) := pf (ι := (Nat) × (Int)) (α := AV) (fun ⟨n, k⟩ => (0 ≤ k ∧ k ≤ 1000) ∧ n ≤ 64) (fun ⟨n, k⟩ => [.sl (tmsA (marksT n k)) false, .int .i64 k]) (fun ⟨n, k⟩ => .int .i64 (k + 5 * n))
theorem sp_heldT_eq (n : Nat) (k : Int) (h : (0 ≤ k ∧ k ≤ 1000) ∧ n ≤ 64) : sp_heldT [.sl (tmsA (marksT n k)) false, .int .i64 k] = some (.int .i64 (k + 5 * n)) := by
  unfold sp_heldT
  exact pf_eq (ι := (Nat) × (Int)) (α := AV) (n, k) h (by rintro ⟨n', k'⟩ _ e; simp_all [Int.natCast_inj])
theorem q_laws_heldTermS : QP PP 62 sp_heldT := by
  refine QP_pf (fun i h => ?_) fun i h => ?_
  · obtain ⟨n, k⟩ := i; exact ⟨by first | rfl | simp, by first | rfl | simp⟩
  obtain ⟨n, k⟩ := i
  replace h : (0 ≤ k ∧ k ≤ 1000) ∧ n ≤ 64 := h
  refine P_code Quiet.nil hmix k_laws_heldTermS rfl ?_ ?_
  · first | rfl | simp
  show wpc 0 PP _ c_laws_heldTermS (initSt [.sl (tmsA (marksT n k)) false, .int .i64 k] .nil) (endP r_laws_heldTermS (.int .i64 (k + 5 * n)))
  obtain ⟨hk, hl⟩ := h
  simp -dsimp -implicitDefEqProofs [c_laws_heldTermS, r_laws_heldTermS]
  refine wpLoop_st (fun (i : Nat) => ⟨tl [(0, .sl (tmsA (marksT n k)) false), (1, .int .i64 (k + 5 * i)), (5, .int .i64 i)], ⟨[]⟩⟩) (fun i => i ≤ n) (fun i => n - i) 0 (by omega) (Sub.keep (by simp) (by simp [hsub]) (by simp)) ?_
  intro i hi
  simp -dsimp -implicitDefEqProofs
  refine brW_of (fun h => ?_) (fun h => ?_) <;> simp only [decide_eq_true_eq, decide_eq_false_iff_not] at h
  · have hi : i < n := by simpa using h
    have w1 : IntKind.i64.wrap (k + 5 * (i : Int) + 1) = k + 5 * i + 1 := wrapI64 (by omega) (by omega)
    have w2 : IntKind.i64.wrap (k + 5 * (i : Int) + 1 + 1) = k + 5 * i + 1 + 1 := wrapI64 (by omega) (by omega)
    have w3 : IntKind.i64.wrap (k + 5 * (i : Int) + 1 + 1 + 1) = k + 5 * i + 1 + 1 + 1 := wrapI64 (by omega) (by omega)
    have w4 : IntKind.i64.wrap (k + 5 * (i : Int) + 1 + 1 + 1 + 1) = k + 5 * i + 1 + 1 + 1 + 1 := wrapI64 (by omega) (by omega)
    have w5 : IntKind.i64.wrap (k + 5 * (i : Int) + 1 + 1 + 1 + 1 + 1) = k + 5 * i + 1 + 1 + 1 + 1 + 1 := wrapI64 (by omega) (by omega)
    have wu : IntKind.u32.wrap (k + 5 * (i : Int) + 1 + 1) = k + 5 * i + 1 + 1 := wrap32 (by omega) (by omega)
    have hw := wrapNat (i := i) (by omega)
    have hg := marksT_get n k i (by simpa using hi)
    simp -dsimp -implicitDefEqProofs [hi, w1, w2, w3, w4, w5, wu, hw, hg]
    exact .mk (i + 1) (by omega) (by omega) (Sub.keep (by simp) (by simp [hsub]) (by simp [w5, hw]; omega))
  · have hi : i = n := by simp at h; omega
    subst hi
    simp -dsimp -implicitDefEqProofs
noncomputable def sp_markSum : List (Option (List AV)) → List AV → Option (AV × List (Option (List AV))) := pv (pf (ι := (Int) × (Int) × (Int) × (List Tm) × (Int) × (Cp)) (α := AV × List (Option (List AV))) (fun ⟨a, b, c, ps, k, t⟩ => (0 ≤ k ∧ k ≤ 1000) ∧ ps.length ≤ 64) (fun i => .agg (((fun ⟨a, b, c, ps, k, t⟩ => [some (flatA (tmsA ps))] : (Int) × (Int) × (Int) × (List Tm) × (Int) × (Cp) → List (Option (List AV))) i).map enO) :: (fun ⟨a, b, c, ps, k, t⟩ => [.agg [.int .i64 a, .int .u32 b, .int .i64 c, .ref 0 5 0 ps.length t], .int .i64 k] : (Int) × (Int) × (Int) × (List Tm) × (Int) × (Cp) → List AV) i) (fun ⟨a, b, c, ps, k, t⟩ => (.int .i64 (k + 5 * ps.length), [some (flatA (tmsA (marksT ps.length k)))])))
theorem sp_markSum_eq (a b c : Int) (ps : List Tm) (k : Int) (t : Cp) (h : (0 ≤ k ∧ k ≤ 1000) ∧ ps.length ≤ 64) : sp_markSum [some (flatA (tmsA ps))] [.agg [.int .i64 a, .int .u32 b, .int .i64 c, .ref 0 5 0 ps.length t], .int .i64 k] = some (.int .i64 (k + 5 * ps.length), [some (flatA (tmsA (marksT ps.length k)))]) := by
  unfold sp_markSum pv
  exact pf_eq (ι := (Int) × (Int) × (Int) × (List Tm) × (Int) × (Cp)) (α := AV × List (Option (List AV))) (a, b, c, ps, k, t) h (by rintro ⟨a', b', c', ps', k', t'⟩ _ e; simp_all [enO, Int.natCast_inj])
theorem v_laws_markFlagSum : QV PP 19 sp_markSum := by
  refine QV_pf fun i h => ?_
  obtain ⟨a, b, c, ps, k, t⟩ := i
  replace h : (0 ≤ k ∧ k ≤ 1000) ∧ ps.length ≤ 64 := h
  refine H_code (Quiet.e1 e_laws_markTermS Quiet.nil) hmix k_laws_markFlagSum rfl (fun b => b) (by simp [AHeap.n]) (fun _ _ => rfl) (by rfl) (by first | rfl | simp) ?_
  show wpc _ PP _ c_laws_markFlagSum (initSt [.agg [.int .i64 a, .int .u32 b, .int .i64 c, .ref 0 5 0 ps.length t], .int .i64 k] ⟨[some (flatA (tmsA ps))]⟩) (endH (fun b => b) r_laws_markFlagSum (.int .i64 (k + 5 * ps.length)) [some (flatA (tmsA (marksT ps.length k)))])
  simp -dsimp -implicitDefEqProofs [c_laws_markFlagSum, r_laws_markFlagSum, sp_markT_eq ps k t h, hsub]
noncomputable def sp_markSum0 : List AV → Option (AV) := pf (ι := (Int) × (Int) × (Int) × (Int)) (α := AV) (fun ⟨a, b, c, k⟩ => True) (fun ⟨a, b, c, k⟩ => [.agg [.int .i64 a, .int .u32 b, .int .i64 c, .sl [] false], .int .i64 k]) (fun ⟨a, b, c, k⟩ => .int .i64 k)
theorem sp_markSum0_eq (a b c k : Int) : sp_markSum0 [.agg [.int .i64 a, .int .u32 b, .int .i64 c, .sl [] false], .int .i64 k] = some (.int .i64 k) := by
  unfold sp_markSum0
  exact pf_eq (ι := (Int) × (Int) × (Int) × (Int)) (α := AV) (a, b, c, k) trivial (by rintro ⟨a', b', c', k'⟩ _ e; simp_all [Int.natCast_inj])
attribute [simp] sp_markSum0_eq
theorem q_laws_markFlagSum : QP PP 19 sp_markSum0 := by
  refine QP_pf (fun i h => ?_) fun i h => ?_
  · obtain ⟨a, b, c, k⟩ := i; exact ⟨by first | rfl | simp, by first | rfl | simp⟩
  obtain ⟨a, b, c, k⟩ := i
  replace h : True := h
  refine P_code (Quiet.e1 e_laws_markTermS Quiet.nil) hmix k_laws_markFlagSum rfl ?_ ?_
  · first | rfl | simp
  show wpc 0 PP _ c_laws_markFlagSum (initSt [.agg [.int .i64 a, .int .u32 b, .int .i64 c, .sl [] false], .int .i64 k] .nil) (endP r_laws_markFlagSum (.int .i64 k))
  simp -dsimp -implicitDefEqProofs [c_laws_markFlagSum, r_laws_markFlagSum]
theorem e_laws_markFlagSum : QE PP 19 (refE (spV sp_markSum) (spR sp_markSum0)) := QE.ref v_laws_markFlagSum.toE q_laws_markFlagSum.toR
noncomputable def sp_heldSum : List AV → Option (AV) := pf (ι := (Int) × (Int) × (Int) × (Nat) × (Int)) (α := AV) (fun ⟨a, b, c, n, k⟩ => (0 ≤ k ∧ k ≤ 1000) ∧ n ≤ 64) (fun ⟨a, b, c, n, k⟩ => [.agg [.int .i64 a, .int .u32 b, .int .i64 c, .sl (tmsA (marksT n k)) false], .int .i64 k]) (fun ⟨a, b, c, n, k⟩ => .int .i64 (k + 5 * n))
theorem sp_heldSum_eq (a b c : Int) (n : Nat) (k : Int) (h : (0 ≤ k ∧ k ≤ 1000) ∧ n ≤ 64) : sp_heldSum [.agg [.int .i64 a, .int .u32 b, .int .i64 c, .sl (tmsA (marksT n k)) false], .int .i64 k] = some (.int .i64 (k + 5 * n)) := by
  unfold sp_heldSum
  exact pf_eq (ι := (Int) × (Int) × (Int) × (Nat) × (Int)) (α := AV) (a, b, c, n, k) h (by rintro ⟨a', b', c', n', k'⟩ _ e; simp_all [Int.natCast_inj])
theorem q_laws_heldFlagSum : QP PP 20 sp_heldSum := by
  refine QP_pf (fun i h => ?_) fun i h => ?_
  · obtain ⟨a, b, c, n, k⟩ := i; exact ⟨by first | rfl | simp, by first | rfl | simp⟩
  obtain ⟨a, b, c, n, k⟩ := i
  replace h : (0 ≤ k ∧ k ≤ 1000) ∧ n ≤ 64 := h
  refine P_code (Quiet.e1 q_laws_heldTermS.toR Quiet.nil) hmix k_laws_heldFlagSum rfl ?_ ?_
  · first | rfl | simp
  show wpc 0 PP _ c_laws_heldFlagSum (initSt [.agg [.int .i64 a, .int .u32 b, .int .i64 c, .sl (tmsA (marksT n k)) false], .int .i64 k] .nil) (endP r_laws_heldFlagSum (.int .i64 (k + 5 * n)))
  have hn : ¬ (k + 5 * (n : Int) < 0) := by omega
  simp -dsimp -implicitDefEqProofs [c_laws_heldFlagSum, r_laws_heldFlagSum, sp_heldT_eq n k h, hn]
end Go.Proofs.YtgophedkejgedaaGreatDoorAi
end

section
/- Law: ReadSum. -/
namespace Go.Proofs.YtgophedkejgedaaGreatDoorAi
open Go Go.RowKit
set_option linter.unusedVariables false
set_option linter.unusedSimpArgs false
set_option maxRecDepth 20000

theorem eqSum_refl (n e s : Int) (L : List Tm) (h : L.length ≤ maxLen) : sp_eqFlagSum [.agg [.int .i64 n, .int .u32 e, .int .i64 s, .sl (tmsA L) false], .agg [.int .i64 n, .int .u32 e, .int .i64 s, .sl (tmsA L) false]] = some (.bool true) := by
  rw [sp_eqFlagSum_eq n e s L n e s L h]; simp
theorem eqSum_nil (n e s : Int) : sp_eqFlagSum [.agg [.int .i64 n, .int .u32 e, .int .i64 s, .sl [] false], .agg [.int .i64 n, .int .u32 e, .int .i64 s, .sl [] false]] = some (.bool true) := eqSum_refl n e s [] (by simp [maxLen])
theorem heldSum_nil (a b c : Int) : sp_heldSum [.agg [.int .i64 a, .int .u32 b, .int .i64 c, .sl [] false], .int .i64 1] = some (.int .i64 1) := by
  have := sp_heldSum_eq a b c 0 1 ⟨by omega, by omega⟩
  rw [show (1 : Int) + 5 * ((0 : Nat) : Int) = 1 from rfl] at this
  exact this
set_option maxHeartbeats 4000000 in
theorem law_readSum (xs : List AV) (h : WtA [.str] xs) : T PP 5 xs .nil fun r _ => r = .bool true := by
  simp only [WtA_cons, WtA_nil] at h
  obtain ⟨x, _, rfl, hx, rfl⟩ := h
  obtain ⟨s, rfl, hs⟩ := (WtV_str x).1 hx
  refine (P_code (r := .bool true) (Quiet.q1 q_spec_ReadSum (Quiet.e1 n_impl_ReadSum.toE (Quiet.e1 q_laws_eqFlagSum.toR (Quiet.e1 e_laws_markFlagSum (Quiet.e1 q_laws_heldFlagSum.toR Quiet.nil))))) hmix k_laws_FnExactReadSum rfl rfl ?_).mono fun r A' h => h.1
  by_cases c : (1048576 : Int) < s.size
  · simp -dsimp -implicitDefEqProofs [c_laws_FnExactReadSum, r_laws_FnExactReadSum, c]
  · have hS := sp_readSmS_eq s (by omega)
    have hI := sp_readSm_eq s (by omega)
    rw [sum_same s] at hI
    cases ho : ssO s with
    | none =>
      rw [ho] at hS hI
      simp -dsimp -implicitDefEqProofs [c_laws_FnExactReadSum, r_laws_FnExactReadSum, c, hS, hI, ssA, rsA, rsB, eqSum_nil, heldSum_nil]
    | some x =>
      obtain ⟨n, m, sz, L, rfl, hm, hu, hF⟩ := ssO_in ho
      have hl := (sumB_in hF.1 (by omega) hu).2.2.1
      rw [ho] at hS hI
      by_cases hL : L = []
      · subst hL
        have hq0 : sp_eqFlagSum [.agg [.int .i64 n, .int .u32 m, .int .i64 sz, .sl [] false], .agg [.int .i64 n, .int .u32 m, .int .i64 sz, .sl (tmsA []) false]] = some (.bool true) := eqSum_nil n m sz
        simp -dsimp -implicitDefEqProofs [c_laws_FnExactReadSum, r_laws_FnExactReadSum, c, hS, hI, ssA, rsA, rsB, lvT_nil, obT_nil, eqSum_nil, hq0, heldSum_nil]
      · have hq := eqSum_refl n m sz L (by simp only [maxLen]; omega)
        have hmk := fun t => sp_markSum_eq n m sz L 1 t ⟨by omega, hl⟩
        have hhd := sp_heldSum_eq n m sz L.length 1 ⟨by omega, hl⟩
        have hneg : ¬ (1 + 5 * (L.length : Int) < 0) := by omega
        simp -dsimp -implicitDefEqProofs [c_laws_FnExactReadSum, r_laws_FnExactReadSum, c, hS, hI, ssA, rsA, rsB, lvT_cons hL, obT_cons hL, hq, hmk, hhd, hneg]
end Go.Proofs.YtgophedkejgedaaGreatDoorAi
end
